/- HeapCopiesSaid: part 5 of 7 of the proof that it returns true for every input and leaves its arguments as they were; no condition. -/
import Derived.Test.YtlipmhhndhhgdaaJHeapCopiesSaid1
import Derived.Test.YtlipmhhndhhgdaaProg
import Derived.KernelRfl
import Derived.Test.YtlipmhhndhhgdaaJHeapCopiesSaid3
import Derived.Test.YtlipmhhndhhgdaaJHeapCopiesSaid2
import Derived.Sort.AssemblyPlain
set_option linter.unusedSimpArgs false
set_option linter.unusedVariables false
namespace Go.Ab
open Go.Proofs
def btTab : List (Nat × List (Nat × List Nat)) := [
 (10, [(8, [0, 0, 0, 0, 12, 28, 63, 127, 255, 255, 511]), (16, [0, 0, 2, 6, 15, 31, 63, 63, 191, 63, 959, 1983, 4095, 8191]), (24, [0, 0, 0, 0, 12, 28, 63, 127, 255, 255, 511]), (25, [0, 0, 0, 4, 12, 30, 63, 127, 255, 255, 1023, 2047, 4095, 8191, 8191, 32767, 65535, 131071, 262143, 262143, 1048575, 262143, 2359295, 262143, 8650751, 33554431, 67108863, 134217727, 268435455, 536870911, 536870911, 2147483647, 4294967295, 8589934591, 17179869183, 34359738367, 68719476735])]),
 (14, [(11, [0, 0, 2, 6, 14, 0, 0, 0, 128, 384, 896, 2016, 4064, 8190, 16383, 32767, 65535])]),
 (15, [(8, [0, 1, 3, 7, 0, 0, 63, 127, 255])]),
 (18, [(15, [0, 0, 0, 6, 14, 30, 30, 126, 254, 31, 1023])]),
 (20, [(1, [0, 1, 3, 7, 0, 16, 48, 127, 255, 0, 512, 2047, 4095, 0, 8192, 24576, 65535, 131071, 262143, 524287])]),
 (29, [(7, [0, 0, 2, 6, 15, 31, 63, 63, 191, 63, 959, 1983, 4095, 8191]), (11, [0, 0, 2, 6, 15, 31, 63, 127, 63, 511, 1023, 2047, 4095, 4095, 12287, 32767, 65535, 131071, 262143, 524287, 1048575, 2097151, 2097151, 6291455, 14680063, 31457279, 67108863, 134217727, 268435455, 536870911])]),
 (39, [(3, [0, 1, 3, 7, 15, 31, 63, 0, 128, 384, 896, 1983, 0, 4096, 12288, 28672, 65535, 131071, 262143])]),
 (42, [(6, [0, 0, 3, 7, 0, 0, 48, 112, 255])]),
 (45, [(1, [0, 1, 3, 7, 15, 31, 63, 127, 255, 511, 1023, 2047, 511, 4607, 12799, 32767, 65535, 131071])]),
 (46, [(0, [0, 1, 3, 7, 15, 0, 32, 96, 224, 0, 992, 2016, 4064, 0, 16383])]),
 (47, [(2, [0, 1, 3, 7, 0, 31, 63, 0, 128, 384, 896, 0, 3968, 8064, 16383, 32767])]),
 (49, [(1, [0, 1, 3, 7, 0, 31, 63, 0, 128, 384, 896, 1920, 3968, 0, 8319, 32767]), (4, [0, 1, 3, 7, 15, 0, 32, 127])]),
 (51, [(8, [0, 0, 3, 0, 15, 31, 63])]),
 (53, [(3, [0, 1, 0, 4, 12, 28, 3, 127, 255])]),
 (54, [(11, [0, 0, 0, 6, 14, 30, 0, 0, 192, 448, 960, 2046, 4095, 8191])]),
 (57, [(6, [0, 0, 3, 7, 0, 0, 48, 112, 255]), (7, [0, 0, 3, 7, 0, 0, 48, 112, 255, 511])]),
 (76, [(6, [0, 0, 3, 7, 0, 0, 48, 112, 255])]),
 (77, [(2, [0, 0, 0, 6, 3, 31])]),
 (81, [(4, [0, 0, 2, 6, 14, 30, 63, 127, 255, 511, 1023, 2047, 255, 8191, 16383, 255, 33023, 98559, 229631, 255, 1016063, 2064639, 4194303, 8388607, 16777215])]),
 (83, [(3, [0, 1, 0, 7, 15, 31, 0, 64, 255, 511]), (4, [0, 1, 3, 7, 15, 31, 63, 127, 63, 511, 1023, 2047, 63, 4159, 16383, 32767, 65535]), (6, [0, 1, 0, 7, 15, 0, 32, 127, 0, 256, 0, 1792, 4095, 8191, 16383])]),
 (84, [(1, [0, 1, 0, 7, 15, 0, 32, 0, 128, 480, 1023, 2047, 4095])]),
 (88, [(5, [0, 1, 3, 0, 8, 24, 63, 0, 128, 511, 0, 1024, 3072, 8191, 0, 0, 65535, 131071]), (8, [0, 0, 3, 0, 8, 24, 63, 127])]),
 (96, [(10, [0, 0, 2, 0, 0, 16, 56, 120, 0, 256, 768, 2040, 4095, 8191])]),
 (115, [(0, [0, 0, 0, 0, 0, 0, 48, 112, 0, 0, 768, 1792, 4083, 8179, 16383, 32767])]),
 (116, [(3, [0, 1, 3, 7, 0, 16, 48, 127, 255, 511])]),
 (147, [(17, [0, 1, 3, 7, 7, 7, 39, 119, 247, 7, 7, 1543, 3591, 8191, 16383, 32767, 65535])]),
 (149, [(8, [0, 0, 2, 1, 15])]),
 (151, [(4, [0, 0, 3, 7, 15, 15, 15, 111, 239, 15, 15, 1039, 3599, 7695, 16383, 32767, 65535]), (6, [0, 0, 0, 0, 8, 0, 0, 64, 224, 480, 0, 0, 3072, 7168, 16355, 32739, 65535, 131071])]),
 (152, [(10, [0, 0, 0, 0, 0, 24, 0, 0, 0, 384, 960, 1984, 0, 0, 12288, 28672, 65475, 131011, 262143, 524287])]),
 (153, [(10, [0, 0, 0, 0, 0, 24, 0, 0, 0, 384, 960, 1984, 0, 0, 12288, 28672, 65475, 131011, 262143, 524287])]),
 (155, [(3, [0, 0, 0, 0, 0, 0, 48, 112, 0, 0, 768, 1792, 4083, 8179, 16383, 32767])]),
 (156, [(5, [0, 0, 3, 7, 15, 15, 15, 111, 239, 15, 15, 1039, 3599, 7695, 16383, 32767, 65535, 131071]), (11, [0, 0, 0, 0, 8, 0, 0, 64, 224, 480, 0, 0, 3072, 7168, 16355, 32739, 65535, 131071]), (16, [0, 0, 0, 6, 14, 0, 0, 64, 224, 480, 1023, 2047, 4095]), (17, [0, 0, 0, 0, 8, 0, 0, 64, 224, 480, 0, 0, 3072, 7168, 16355, 32739, 65535, 131071]), (22, [0, 0, 0, 6, 14, 0, 0, 64, 224, 480, 1023, 2047, 4095]), (23, [0, 0, 0, 0, 8, 0, 0, 64, 224, 480, 0, 0, 3072, 7168, 16355, 32739, 65535, 131071])]),
 (157, [(1, [0, 0, 0, 0, 0, 0, 48, 112, 0, 0, 768, 1792, 4083, 8179, 16383, 32767]), (3, [0, 0, 3, 7, 15, 15, 15, 111, 239, 15, 15, 1551, 3599, 8191, 16383, 32767, 65535]), (5, [0, 0, 3, 7, 15, 15, 15, 111, 239, 15, 15, 1551, 3599, 8191, 16383, 32767]), (8, [0, 0, 0, 0, 0, 0, 48, 112, 0, 0, 768, 1792, 4083, 8179, 16383, 32767])]),
 (158, [(1, [0, 0, 0, 0, 0, 0, 48, 112, 0, 0, 768, 1792, 4083, 8179, 16383, 32767]), (3, [0, 0, 3, 7, 15, 15, 15, 111, 239, 15, 15, 1551, 3599, 8191, 16383, 32767]), (5, [0, 0, 3, 7, 15, 15, 15, 111, 239, 15, 15, 1551, 3599, 8191, 16383, 32767, 65535]), (8, [0, 0, 0, 0, 0, 0, 48, 112, 0, 0, 768, 1792, 4083, 8179, 16383, 32767]), (10, [0, 0, 0, 0, 0, 0, 48, 112, 0, 0, 768, 1792, 4083, 8179, 16383, 32767]), (13, [0, 0, 3, 7, 15, 15, 15, 111, 239, 15, 15, 1551, 3599, 8191, 16383, 32767]), (15, [0, 0, 3, 7, 15, 15, 15, 111, 239, 15, 15, 1551, 3599, 8191, 16383, 32767, 65535]), (18, [0, 0, 0, 0, 0, 0, 48, 112, 0, 0, 768, 1792, 4083, 8179, 16383, 32767]), (21, [0, 0, 0, 0, 0, 0, 48, 112, 0, 0, 768, 1792, 4083, 8179, 16383, 32767])]),
 (161, [(3, [0, 1, 0, 7, 15, 31, 31, 31, 31, 415, 991, 2015, 31, 31, 31, 24607, 57375, 127007, 258079, 524287, 1048575, 2097151]), (5, [0, 0, 0, 0, 12, 30, 62, 0, 0, 0, 768, 1920, 3968, 8191, 16383, 32767]), (6, [0, 0, 0, 6, 0, 0, 0, 96, 0, 0, 0, 1536, 3840, 7936, 0, 0, 0, 98304, 245760, 507904, 1048335, 2096911, 4194303, 8388607])]),
 (163, [(1, [0, 1, 3, 0, 8, 24, 56, 127, 255, 511]), (2, [0, 1, 3, 0, 8, 24, 56, 127, 255, 511]), (3, [0, 1, 3, 0, 8, 24, 56, 127, 255, 511])]),
 (166, [(1, [0, 0, 0, 6, 14, 0, 0, 96, 224, 511, 1023])])]
def lookN {α : Type} (d : α) : List (Nat × α) → Nat → α
 | [], _ => d
 | (k, v) :: r, n => match Nat.beq k n with
  | true => v
  | false => lookN d r n
def btAll (f : FuncId) (r : Nat) : List Nat :=
 match Nat.beq r 1000000 with
 | true => [f]
 | false => lookN [] (lookN [] btTab f) r
inductive BT (α : Type) where
 | leaf
 | node (l : BT α) (o : Option α) (r : BT α)
def BT.get {α : Type} : BT α → List Bool → Option α
 | .leaf, _ => none
 | .node _ o _, [] => o
 | .node l _ r, b :: bs => match b with | true => r.get bs | false => l.get bs
structure TyRow where
 num : TypeId
 info : TypeInfo
 at' : Try.prog.info? num = some info
noncomputable def ty0 : TyRow := ⟨0, Try.t0, by kernel_rfl⟩
noncomputable def ty1 : TyRow := ⟨1, Try.t1, by kernel_rfl⟩
noncomputable def ty2 : TyRow := ⟨2, Try.t2, by kernel_rfl⟩
noncomputable def ty3 : TyRow := ⟨3, Try.t3, by kernel_rfl⟩
noncomputable def ty4 : TyRow := ⟨4, Try.t4, by kernel_rfl⟩
noncomputable def ty5 : TyRow := ⟨5, Try.t5, by kernel_rfl⟩
noncomputable def ty6 : TyRow := ⟨6, Try.t6, by kernel_rfl⟩
noncomputable def ty7 : TyRow := ⟨7, Try.t7, by kernel_rfl⟩
noncomputable def ty8 : TyRow := ⟨8, Try.t8, by kernel_rfl⟩
noncomputable def ty9 : TyRow := ⟨9, Try.t9, by kernel_rfl⟩
noncomputable def ty10 : TyRow := ⟨10, Try.t10, by kernel_rfl⟩
noncomputable def ty11 : TyRow := ⟨11, Try.t11, by kernel_rfl⟩
noncomputable def ty12 : TyRow := ⟨12, Try.t12, by kernel_rfl⟩
noncomputable def ty13 : TyRow := ⟨13, Try.t13, by kernel_rfl⟩
noncomputable def ty14 : TyRow := ⟨14, Try.t14, by kernel_rfl⟩
noncomputable def ty15 : TyRow := ⟨15, Try.t15, by kernel_rfl⟩
noncomputable def ty16 : TyRow := ⟨16, Try.t16, by kernel_rfl⟩
noncomputable def ty17 : TyRow := ⟨17, Try.t17, by kernel_rfl⟩
noncomputable def ty18 : TyRow := ⟨18, Try.t18, by kernel_rfl⟩
noncomputable def ty19 : TyRow := ⟨19, Try.t19, by kernel_rfl⟩
noncomputable def ty20 : TyRow := ⟨20, Try.t20, by kernel_rfl⟩
noncomputable def ty21 : TyRow := ⟨21, Try.t21, by kernel_rfl⟩
noncomputable def ty22 : TyRow := ⟨22, Try.t22, by kernel_rfl⟩
noncomputable def ty23 : TyRow := ⟨23, Try.t23, by kernel_rfl⟩
noncomputable def ty24 : TyRow := ⟨24, Try.t24, by kernel_rfl⟩
noncomputable def ty25 : TyRow := ⟨25, Try.t25, by kernel_rfl⟩
noncomputable def ty26 : TyRow := ⟨26, Try.t26, by kernel_rfl⟩
noncomputable def ty27 : TyRow := ⟨27, Try.t27, by kernel_rfl⟩
noncomputable def ty28 : TyRow := ⟨28, Try.t28, by kernel_rfl⟩
noncomputable def ty29 : TyRow := ⟨29, Try.t29, by kernel_rfl⟩
noncomputable def ty30 : TyRow := ⟨30, Try.t30, by kernel_rfl⟩
noncomputable def ty31 : TyRow := ⟨31, Try.t31, by kernel_rfl⟩
noncomputable def ty32 : TyRow := ⟨32, Try.t32, by kernel_rfl⟩
noncomputable def ty34 : TyRow := ⟨34, Try.t34, by kernel_rfl⟩
noncomputable def ty36 : TyRow := ⟨36, Try.t36, by kernel_rfl⟩
noncomputable def ty37 : TyRow := ⟨37, Try.t37, by kernel_rfl⟩
noncomputable def ty38 : TyRow := ⟨38, Try.t38, by kernel_rfl⟩
noncomputable def ty39 : TyRow := ⟨39, Try.t39, by kernel_rfl⟩
noncomputable def ty40 : TyRow := ⟨40, Try.t40, by kernel_rfl⟩
noncomputable def ty42 : TyRow := ⟨42, Try.t42, by kernel_rfl⟩
noncomputable def ty43 : TyRow := ⟨43, Try.t43, by kernel_rfl⟩
noncomputable def ty49 : TyRow := ⟨49, Try.t49, by kernel_rfl⟩
noncomputable def ty90 : TyRow := ⟨90, Try.t90, by kernel_rfl⟩
noncomputable def ty91 : TyRow := ⟨91, Try.t91, by kernel_rfl⟩
noncomputable def ty96 : TyRow := ⟨96, Try.t96, by kernel_rfl⟩
noncomputable def ty97 : TyRow := ⟨97, Try.t97, by kernel_rfl⟩
noncomputable def ty98 : TyRow := ⟨98, Try.t98, by kernel_rfl⟩
noncomputable def ty99 : TyRow := ⟨99, Try.t99, by kernel_rfl⟩
noncomputable def ty100 : TyRow := ⟨100, Try.t100, by kernel_rfl⟩
noncomputable def ty102 : TyRow := ⟨102, Try.t102, by kernel_rfl⟩
noncomputable def ty106 : TyRow := ⟨106, Try.t106, by kernel_rfl⟩
noncomputable def ty109 : TyRow := ⟨109, Try.t109, by kernel_rfl⟩
noncomputable def ty111 : TyRow := ⟨111, Try.t111, by kernel_rfl⟩
noncomputable def ty112 : TyRow := ⟨112, Try.t112, by kernel_rfl⟩
noncomputable def ty115 : TyRow := ⟨115, Try.t115, by kernel_rfl⟩
noncomputable def ty148 : TyRow := ⟨148, Try.t148, by kernel_rfl⟩
noncomputable def ty150 : TyRow := ⟨150, Try.t150, by kernel_rfl⟩
noncomputable def ty154 : TyRow := ⟨154, Try.t154, by kernel_rfl⟩
noncomputable def ty164 : TyRow := ⟨164, Try.t164, by kernel_rfl⟩
noncomputable def ty181 : TyRow := ⟨181, Try.t181, by kernel_rfl⟩
noncomputable def ty183 : TyRow := ⟨183, Try.t183, by kernel_rfl⟩
noncomputable def ty190 : TyRow := ⟨190, Try.t190, by kernel_rfl⟩
noncomputable def ty191 : TyRow := ⟨191, Try.t191, by kernel_rfl⟩
noncomputable def ty194 : TyRow := ⟨194, Try.t194, by kernel_rfl⟩
noncomputable def ty195 : TyRow := ⟨195, Try.t195, by kernel_rfl⟩
noncomputable def ty198 : TyRow := ⟨198, Try.t198, by kernel_rfl⟩
noncomputable def ty208 : TyRow := ⟨208, Try.t208, by kernel_rfl⟩
noncomputable def ty216 : TyRow := ⟨216, Try.t216, by kernel_rfl⟩
noncomputable def ty221 : TyRow := ⟨221, Try.t221, by kernel_rfl⟩
noncomputable def ty222 : TyRow := ⟨222, Try.t222, by kernel_rfl⟩
noncomputable def ty228 : TyRow := ⟨228, Try.t228, by kernel_rfl⟩
noncomputable def ty232 : TyRow := ⟨232, Try.t232, by kernel_rfl⟩
noncomputable def ty234 : TyRow := ⟨234, Try.t234, by kernel_rfl⟩
noncomputable def ty235 : TyRow := ⟨235, Try.t235, by kernel_rfl⟩
noncomputable def tyTree : BT TyRow := (.node (.node (.node (.node (.node (.node .leaf none (.node .leaf (some ty32) (.node .leaf (some ty96) .leaf))) none (.node (.node .leaf none (.node .leaf none (.node .leaf (some ty208) .leaf))) (some ty16) (.node .leaf none (.node .leaf (some ty112) .leaf)))) none (.node (.node .leaf none (.node .leaf (some ty40) (.node .leaf none (.node .leaf (some ty232) .leaf)))) (some ty8) (.node (.node .leaf none (.node .leaf none (.node .leaf (some ty216) .leaf))) (some ty24) .leaf))) none (.node (.node (.node .leaf none (.node (.node .leaf none (.node .leaf (some ty164) .leaf)) (some ty36) (.node .leaf (some ty100) (.node .leaf (some ty228) .leaf)))) none (.node (.node (.node .leaf none (.node .leaf (some ty148) .leaf)) none .leaf) (some ty20) .leaf)) (some ty4) (.node .leaf (some ty12) (.node .leaf (some ty28) .leaf)))) none (.node (.node (.node (.node (.node .leaf none (.node .leaf none (.node .leaf (some ty194) .leaf))) none (.node .leaf (some ty34) (.node .leaf (some ty98) .leaf))) none (.node .leaf (some ty18) .leaf)) none (.node (.node .leaf none (.node .leaf (some ty42) (.node .leaf (some ty106) (.node .leaf (some ty234) .leaf)))) (some ty10) (.node (.node (.node .leaf none (.node .leaf (some ty154) .leaf)) none (.node .leaf (some ty90) .leaf)) (some ty26) .leaf))) (some ty2) (.node (.node (.node (.node .leaf none (.node .leaf none (.node .leaf (some ty198) .leaf))) none (.node .leaf (some ty38) (.node .leaf (some ty102) .leaf))) none (.node (.node (.node .leaf none (.node .leaf (some ty150) .leaf)) none .leaf) (some ty22) .leaf)) (some ty6) (.node .leaf (some ty14) (.node (.node .leaf none (.node .leaf none (.node .leaf (some ty222) .leaf))) (some ty30) (.node (.node .leaf none (.node .leaf (some ty190) .leaf)) none .leaf)))))) (some ty0) (.node (.node (.node (.node (.node .leaf none (.node .leaf none (.node .leaf (some ty97) .leaf))) none (.node .leaf (some ty17) (.node .leaf (some ty49) .leaf))) none (.node .leaf (some ty9) (.node .leaf (some ty25) .leaf))) none (.node (.node (.node .leaf none (.node .leaf (some ty37) .leaf)) none (.node .leaf (some ty21) (.node (.node .leaf none (.node .leaf (some ty181) .leaf)) none .leaf))) (some ty5) (.node (.node .leaf none (.node .leaf none (.node .leaf (some ty109) .leaf))) (some ty13) (.node (.node .leaf none (.node .leaf none (.node .leaf (some ty221) .leaf))) (some ty29) .leaf)))) (some ty1) (.node (.node (.node (.node (.node .leaf none (.node .leaf none (.node .leaf (some ty195) .leaf))) none (.node .leaf none (.node .leaf (some ty99) .leaf))) none (.node .leaf (some ty19) (.node .leaf none (.node .leaf (some ty115) .leaf)))) none (.node (.node .leaf none (.node .leaf (some ty43) (.node .leaf none (.node .leaf (some ty235) .leaf)))) (some ty11) (.node (.node .leaf none (.node .leaf (some ty91) .leaf)) (some ty27) .leaf))) (some ty3) (.node (.node (.node .leaf none (.node .leaf (some ty39) .leaf)) none (.node .leaf (some ty23) (.node (.node .leaf none (.node .leaf (some ty183) .leaf)) none .leaf))) (some ty7) (.node (.node .leaf none (.node .leaf none (.node .leaf (some ty111) .leaf))) (some ty15) (.node .leaf (some ty31) (.node (.node .leaf none (.node .leaf (some ty191) .leaf)) none .leaf)))))))
noncomputable def tyAt (t : TypeId) : Option TypeInfo :=
 match tyTree.get (bits t t) with
 | some r => match Nat.beq r.num t with
  | true => some r.info
  | false => none
 | none => none
theorem tyAt_ok (t : TypeId) (i : TypeInfo) (h : tyAt t = some i) : Try.prog.info? t = some i := by
 unfold tyAt at h
 split at h
 ·rename_i r _
  split at h
  ·rename_i hb
   cases h
   rw [← Nat.eq_of_beq_eq_true hb]
   exact r.at'
  ·cases h
 ·cases h
structure ExtRow where
 num : FuncId
 ext : Ext
 is : ExtIs Try.prog num ext
noncomputable def ext109 : ExtRow := ⟨109, .clone, ⟨Try.f109, Try.func109, by kernel_rfl, by kernel_rfl, by kernel_rfl, by kernel_rfl⟩⟩
noncomputable def extTree : BT ExtRow := (.node .leaf none (.node (.node .leaf none (.node .leaf none (.node (.node .leaf none (.node .leaf none (.node .leaf (some ext109) .leaf))) none .leaf))) none .leaf))
noncomputable def extAt (f : FuncId) : Option Ext :=
 match extTree.get (bits f f) with
 | some r => match Nat.beq r.num f with
  | true => some r.ext
  | false => none
 | none => none
theorem extAt_ok (f : FuncId) (x : Ext) (h : extAt f = some x) : ExtIs Try.prog f x := by
 unfold extAt at h
 split at h
 ·rename_i r _
  split at h
  ·rename_i hb
   cases h
   rw [← Nat.eq_of_beq_eq_true hb]
   exact r.is
  ·cases h
 ·cases h
theorem stat10 : statAll (btAll 10) (Try.f10.body.getD .skip) = true := by kernel_rfl
theorem stat12 : statAll (btAll 12) (Try.f12.body.getD .skip) = true := by kernel_rfl
theorem stat13 : statAll (btAll 13) (Try.f13.body.getD .skip) = true := by kernel_rfl
theorem stat14 : statAll (btAll 14) (Try.f14.body.getD .skip) = true := by kernel_rfl
theorem stat15 : statAll (btAll 15) (Try.f15.body.getD .skip) = true := by kernel_rfl
theorem stat16 : statAll (btAll 16) (Try.f16.body.getD .skip) = true := by kernel_rfl
theorem stat17 : statAll (btAll 17) (Try.f17.body.getD .skip) = true := by kernel_rfl
theorem stat18 : statAll (btAll 18) (Try.f18.body.getD .skip) = true := by kernel_rfl
theorem stat19 : statAll (btAll 19) (Try.f19.body.getD .skip) = true := by kernel_rfl
theorem stat20 : statAll (btAll 20) (Try.f20.body.getD .skip) = true := by kernel_rfl
theorem stat29 : statAll (btAll 29) (Try.f29.body.getD .skip) = true := by kernel_rfl
theorem stat30 : statAll (btAll 30) (Try.f30.body.getD .skip) = true := by kernel_rfl
theorem stat39 : statAll (btAll 39) (Try.f39.body.getD .skip) = true := by kernel_rfl
theorem stat40 : statAll (btAll 40) (Try.f40.body.getD .skip) = true := by kernel_rfl
theorem stat41 : statAll (btAll 41) (Try.f41.body.getD .skip) = true := by kernel_rfl
theorem stat42 : statAll (btAll 42) (Try.f42.body.getD .skip) = true := by kernel_rfl
theorem stat43 : statAll (btAll 43) (Try.f43.body.getD .skip) = true := by kernel_rfl
theorem stat44 : statAll (btAll 44) (Try.f44.body.getD .skip) = true := by kernel_rfl
theorem stat45 : statAll (btAll 45) (Try.f45.body.getD .skip) = true := by kernel_rfl
theorem stat46 : statAll (btAll 46) (Try.f46.body.getD .skip) = true := by kernel_rfl
theorem stat47 : statAll (btAll 47) (Try.f47.body.getD .skip) = true := by kernel_rfl
theorem stat48 : statAll (btAll 48) (Try.f48.body.getD .skip) = true := by kernel_rfl
theorem stat49 : statAll (btAll 49) (Try.f49.body.getD .skip) = true := by kernel_rfl
theorem stat50 : statAll (btAll 50) (Try.f50.body.getD .skip) = true := by kernel_rfl
theorem stat51 : statAll (btAll 51) (Try.f51.body.getD .skip) = true := by kernel_rfl
theorem stat52 : statAll (btAll 52) (Try.f52.body.getD .skip) = true := by kernel_rfl
theorem stat53 : statAll (btAll 53) (Try.f53.body.getD .skip) = true := by kernel_rfl
theorem stat54 : statAll (btAll 54) (Try.f54.body.getD .skip) = true := by kernel_rfl
theorem stat55 : statAll (btAll 55) (Try.f55.body.getD .skip) = true := by kernel_rfl
theorem stat56 : statAll (btAll 56) (Try.f56.body.getD .skip) = true := by kernel_rfl
theorem stat57 : statAll (btAll 57) (Try.f57.body.getD .skip) = true := by kernel_rfl
theorem stat72 : statAll (btAll 72) (Try.f72.body.getD .skip) = true := by kernel_rfl
theorem stat73 : statAll (btAll 73) (Try.f73.body.getD .skip) = true := by kernel_rfl
theorem stat74 : statAll (btAll 74) (Try.f74.body.getD .skip) = true := by kernel_rfl
theorem stat75 : statAll (btAll 75) (Try.f75.body.getD .skip) = true := by kernel_rfl
theorem stat76 : statAll (btAll 76) (Try.f76.body.getD .skip) = true := by kernel_rfl
theorem stat77 : statAll (btAll 77) (Try.f77.body.getD .skip) = true := by kernel_rfl
theorem stat78 : statAll (btAll 78) (Try.f78.body.getD .skip) = true := by kernel_rfl
theorem stat79 : statAll (btAll 79) (Try.f79.body.getD .skip) = true := by kernel_rfl
theorem stat80 : statAll (btAll 80) (Try.f80.body.getD .skip) = true := by kernel_rfl
theorem stat81 : statAll (btAll 81) (Try.f81.body.getD .skip) = true := by kernel_rfl
theorem stat82 : statAll (btAll 82) (Try.f82.body.getD .skip) = true := by kernel_rfl
theorem stat83 : statAll (btAll 83) (Try.f83.body.getD .skip) = true := by kernel_rfl
theorem stat84 : statAll (btAll 84) (Try.f84.body.getD .skip) = true := by kernel_rfl
theorem stat85 : statAll (btAll 85) (Try.f85.body.getD .skip) = true := by kernel_rfl
theorem stat88 : statAll (btAll 88) (Try.f88.body.getD .skip) = true := by kernel_rfl
theorem stat91 : statAll (btAll 91) (Try.f91.body.getD .skip) = true := by kernel_rfl
theorem stat95 : statAll (btAll 95) (Try.f95.body.getD .skip) = true := by kernel_rfl
theorem stat96 : statAll (btAll 96) (Try.f96.body.getD .skip) = true := by kernel_rfl
theorem stat110 : statAll (btAll 110) (Try.f110.body.getD .skip) = true := by kernel_rfl
theorem stat111 : statAll (btAll 111) (Try.f111.body.getD .skip) = true := by kernel_rfl
theorem stat112 : statAll (btAll 112) (Try.f112.body.getD .skip) = true := by kernel_rfl
theorem stat113 : statAll (btAll 113) (Try.f113.body.getD .skip) = true := by kernel_rfl
theorem stat114 : statAll (btAll 114) (Try.f114.body.getD .skip) = true := by kernel_rfl
theorem stat115 : statAll (btAll 115) (Try.f115.body.getD .skip) = true := by kernel_rfl
theorem stat116 : statAll (btAll 116) (Try.f116.body.getD .skip) = true := by kernel_rfl
theorem stat118 : statAll (btAll 118) (Try.f118.body.getD .skip) = true := by kernel_rfl
theorem stat119 : statAll (btAll 119) (Try.f119.body.getD .skip) = true := by kernel_rfl
theorem stat120 : statAll (btAll 120) (Try.f120.body.getD .skip) = true := by kernel_rfl
theorem stat128 : statAll (btAll 128) (Try.f128.body.getD .skip) = true := by kernel_rfl
theorem stat129 : statAll (btAll 129) (Try.f129.body.getD .skip) = true := by kernel_rfl
theorem stat135 : statAll (btAll 135) (Try.f135.body.getD .skip) = true := by kernel_rfl
theorem stat136 : statAll (btAll 136) (Try.f136.body.getD .skip) = true := by kernel_rfl
theorem stat137 : statAll (btAll 137) (Try.f137.body.getD .skip) = true := by kernel_rfl
theorem stat138 : statAll (btAll 138) (Try.f138.body.getD .skip) = true := by kernel_rfl
theorem stat139 : statAll (btAll 139) (Try.f139.body.getD .skip) = true := by kernel_rfl
theorem stat140 : statAll (btAll 140) (Try.f140.body.getD .skip) = true := by kernel_rfl
theorem stat146 : statAll (btAll 146) (Try.f146.body.getD .skip) = true := by kernel_rfl
theorem stat147 : statAll (btAll 147) (Try.f147.body.getD .skip) = true := by kernel_rfl
theorem stat148 : statAll (btAll 148) (Try.f148.body.getD .skip) = true := by kernel_rfl
theorem stat149 : statAll (btAll 149) (Try.f149.body.getD .skip) = true := by kernel_rfl
theorem stat151 : statAll (btAll 151) (Try.f151.body.getD .skip) = true := by kernel_rfl
theorem stat152 : statAll (btAll 152) (Try.f152.body.getD .skip) = true := by kernel_rfl
theorem stat153 : statAll (btAll 153) (Try.f153.body.getD .skip) = true := by kernel_rfl
theorem stat154 : statAll (btAll 154) (Try.f154.body.getD .skip) = true := by kernel_rfl
theorem stat155 : statAll (btAll 155) (Try.f155.body.getD .skip) = true := by kernel_rfl
theorem stat156 : statAll (btAll 156) (Try.f156.body.getD .skip) = true := by kernel_rfl
theorem stat157 : statAll (btAll 157) (Try.f157.body.getD .skip) = true := by kernel_rfl
theorem stat158 : statAll (btAll 158) (Try.f158.body.getD .skip) = true := by kernel_rfl
theorem stat159 : statAll (btAll 159) (Try.f159.body.getD .skip) = true := by kernel_rfl
theorem stat160 : statAll (btAll 160) (Try.f160.body.getD .skip) = true := by kernel_rfl
theorem stat161 : statAll (btAll 161) (Try.f161.body.getD .skip) = true := by kernel_rfl
theorem stat162 : statAll (btAll 162) (Try.f162.body.getD .skip) = true := by kernel_rfl
theorem stat163 : statAll (btAll 163) (Try.f163.body.getD .skip) = true := by kernel_rfl
theorem stat164 : statAll (btAll 164) (Try.f164.body.getD .skip) = true := by kernel_rfl
theorem stat165 : statAll (btAll 165) (Try.f165.body.getD .skip) = true := by kernel_rfl
theorem stat166 : statAll (btAll 166) (Try.f166.body.getD .skip) = true := by kernel_rfl
theorem has10 : HasBody Try.prog 10 := cP_ok.bodies 10 (cx_bodies Try.func10 (by kernel_rfl))
theorem has12 : HasBody Try.prog 12 := cP_ok.bodies 12 (cx_bodies Try.func12 (by kernel_rfl))
theorem has13 : HasBody Try.prog 13 := cP_ok.bodies 13 (cx_bodies Try.func13 (by kernel_rfl))
theorem has14 : HasBody Try.prog 14 := cP_ok.bodies 14 (cx_bodies Try.func14 (by kernel_rfl))
theorem has15 : HasBody Try.prog 15 := cP_ok.bodies 15 (cx_bodies Try.func15 (by kernel_rfl))
theorem has16 : HasBody Try.prog 16 := cP_ok.bodies 16 (cx_bodies Try.func16 (by kernel_rfl))
theorem has17 : HasBody Try.prog 17 := cP_ok.bodies 17 (cx_bodies Try.func17 (by kernel_rfl))
theorem has18 : HasBody Try.prog 18 := cP_ok.bodies 18 (cx_bodies Try.func18 (by kernel_rfl))
theorem has19 : HasBody Try.prog 19 := cP_ok.bodies 19 (cx_bodies Try.func19 (by kernel_rfl))
theorem has20 : HasBody Try.prog 20 := cP_ok.bodies 20 (cx_bodies Try.func20 (by kernel_rfl))
theorem has29 : HasBody Try.prog 29 := cP_ok.bodies 29 (cx_bodies Try.func29 (by kernel_rfl))
theorem has30 : HasBody Try.prog 30 := cP_ok.bodies 30 (cx_bodies Try.func30 (by kernel_rfl))
theorem has39 : HasBody Try.prog 39 := cP_ok.bodies 39 (cx_bodies Try.func39 (by kernel_rfl))
theorem has40 : HasBody Try.prog 40 := cP_ok.bodies 40 (cx_bodies Try.func40 (by kernel_rfl))
theorem has41 : HasBody Try.prog 41 := cP_ok.bodies 41 (cx_bodies Try.func41 (by kernel_rfl))
theorem has42 : HasBody Try.prog 42 := cP_ok.bodies 42 (cx_bodies Try.func42 (by kernel_rfl))
theorem has43 : HasBody Try.prog 43 := cP_ok.bodies 43 (cx_bodies Try.func43 (by kernel_rfl))
theorem has44 : HasBody Try.prog 44 := cP_ok.bodies 44 (cx_bodies Try.func44 (by kernel_rfl))
theorem has45 : HasBody Try.prog 45 := cP_ok.bodies 45 (cx_bodies Try.func45 (by kernel_rfl))
theorem has46 : HasBody Try.prog 46 := cP_ok.bodies 46 (cx_bodies Try.func46 (by kernel_rfl))
theorem has47 : HasBody Try.prog 47 := cP_ok.bodies 47 (cx_bodies Try.func47 (by kernel_rfl))
theorem has48 : HasBody Try.prog 48 := cP_ok.bodies 48 (cx_bodies Try.func48 (by kernel_rfl))
theorem has49 : HasBody Try.prog 49 := cP_ok.bodies 49 (cx_bodies Try.func49 (by kernel_rfl))
theorem has50 : HasBody Try.prog 50 := cP_ok.bodies 50 (cx_bodies Try.func50 (by kernel_rfl))
theorem has51 : HasBody Try.prog 51 := cP_ok.bodies 51 (cx_bodies Try.func51 (by kernel_rfl))
theorem has52 : HasBody Try.prog 52 := cP_ok.bodies 52 (cx_bodies Try.func52 (by kernel_rfl))
theorem has53 : HasBody Try.prog 53 := cP_ok.bodies 53 (cx_bodies Try.func53 (by kernel_rfl))
theorem has54 : HasBody Try.prog 54 := cP_ok.bodies 54 (cx_bodies Try.func54 (by kernel_rfl))
theorem has55 : HasBody Try.prog 55 := cP_ok.bodies 55 (cx_bodies Try.func55 (by kernel_rfl))
theorem has56 : HasBody Try.prog 56 := cP_ok.bodies 56 (cx_bodies Try.func56 (by kernel_rfl))
theorem has57 : HasBody Try.prog 57 := cP_ok.bodies 57 (cx_bodies Try.func57 (by kernel_rfl))
theorem has72 : HasBody Try.prog 72 := cP_ok.bodies 72 (cx_bodies Try.func72 (by kernel_rfl))
theorem has73 : HasBody Try.prog 73 := cP_ok.bodies 73 (cx_bodies Try.func73 (by kernel_rfl))
theorem has74 : HasBody Try.prog 74 := cP_ok.bodies 74 (cx_bodies Try.func74 (by kernel_rfl))
theorem has75 : HasBody Try.prog 75 := cP_ok.bodies 75 (cx_bodies Try.func75 (by kernel_rfl))
theorem has76 : HasBody Try.prog 76 := cP_ok.bodies 76 (cx_bodies Try.func76 (by kernel_rfl))
theorem has77 : HasBody Try.prog 77 := cP_ok.bodies 77 (cx_bodies Try.func77 (by kernel_rfl))
theorem has78 : HasBody Try.prog 78 := cP_ok.bodies 78 (cx_bodies Try.func78 (by kernel_rfl))
theorem has79 : HasBody Try.prog 79 := cP_ok.bodies 79 (cx_bodies Try.func79 (by kernel_rfl))
theorem has80 : HasBody Try.prog 80 := cP_ok.bodies 80 (cx_bodies Try.func80 (by kernel_rfl))
theorem has81 : HasBody Try.prog 81 := cP_ok.bodies 81 (cx_bodies Try.func81 (by kernel_rfl))
theorem has82 : HasBody Try.prog 82 := cP_ok.bodies 82 (cx_bodies Try.func82 (by kernel_rfl))
theorem has83 : HasBody Try.prog 83 := cP_ok.bodies 83 (cx_bodies Try.func83 (by kernel_rfl))
theorem has84 : HasBody Try.prog 84 := cP_ok.bodies 84 (cx_bodies Try.func84 (by kernel_rfl))
theorem has85 : HasBody Try.prog 85 := cP_ok.bodies 85 (cx_bodies Try.func85 (by kernel_rfl))
theorem has88 : HasBody Try.prog 88 := cP_ok.bodies 88 (cx_bodies Try.func88 (by kernel_rfl))
theorem has91 : HasBody Try.prog 91 := cP_ok.bodies 91 (cx_bodies Try.func91 (by kernel_rfl))
theorem has95 : HasBody Try.prog 95 := cP_ok.bodies 95 (cx_bodies Try.func95 (by kernel_rfl))
theorem has96 : HasBody Try.prog 96 := cP_ok.bodies 96 (cx_bodies Try.func96 (by kernel_rfl))
theorem has110 : HasBody Try.prog 110 := cP_ok.bodies 110 (cx_bodies Try.func110 (by kernel_rfl))
theorem has111 : HasBody Try.prog 111 := cP_ok.bodies 111 (cx_bodies Try.func111 (by kernel_rfl))
theorem has112 : HasBody Try.prog 112 := cP_ok.bodies 112 (cx_bodies Try.func112 (by kernel_rfl))
theorem has113 : HasBody Try.prog 113 := cP_ok.bodies 113 (cx_bodies Try.func113 (by kernel_rfl))
theorem has114 : HasBody Try.prog 114 := cP_ok.bodies 114 (cx_bodies Try.func114 (by kernel_rfl))
theorem has115 : HasBody Try.prog 115 := cP_ok.bodies 115 (cx_bodies Try.func115 (by kernel_rfl))
theorem has116 : HasBody Try.prog 116 := cP_ok.bodies 116 (cx_bodies Try.func116 (by kernel_rfl))
theorem has118 : HasBody Try.prog 118 := cP_ok.bodies 118 (cx_bodies Try.func118 (by kernel_rfl))
theorem has119 : HasBody Try.prog 119 := cP_ok.bodies 119 (cx_bodies Try.func119 (by kernel_rfl))
theorem has120 : HasBody Try.prog 120 := cP_ok.bodies 120 (cx_bodies Try.func120 (by kernel_rfl))
theorem has128 : HasBody Try.prog 128 := cP_ok.bodies 128 (cx_bodies Try.func128 (by kernel_rfl))
theorem has129 : HasBody Try.prog 129 := cP_ok.bodies 129 (cx_bodies Try.func129 (by kernel_rfl))
theorem has135 : HasBody Try.prog 135 := cP_ok.bodies 135 (cx_bodies Try.func135 (by kernel_rfl))
theorem has136 : HasBody Try.prog 136 := cP_ok.bodies 136 (cx_bodies Try.func136 (by kernel_rfl))
theorem has137 : HasBody Try.prog 137 := cP_ok.bodies 137 (cx_bodies Try.func137 (by kernel_rfl))
theorem has138 : HasBody Try.prog 138 := cP_ok.bodies 138 (cx_bodies Try.func138 (by kernel_rfl))
theorem has139 : HasBody Try.prog 139 := cP_ok.bodies 139 (cx_bodies Try.func139 (by kernel_rfl))
theorem has140 : HasBody Try.prog 140 := cP_ok.bodies 140 (cx_bodies Try.func140 (by kernel_rfl))
theorem has146 : HasBody Try.prog 146 := cP_ok.bodies 146 (cx_bodies Try.func146 (by kernel_rfl))
theorem has147 : HasBody Try.prog 147 := cP_ok.bodies 147 (cx_bodies Try.func147 (by kernel_rfl))
theorem has148 : HasBody Try.prog 148 := cP_ok.bodies 148 (cx_bodies Try.func148 (by kernel_rfl))
theorem has149 : HasBody Try.prog 149 := cP_ok.bodies 149 (cx_bodies Try.func149 (by kernel_rfl))
theorem has151 : HasBody Try.prog 151 := cP_ok.bodies 151 (cx_bodies Try.func151 (by kernel_rfl))
theorem has152 : HasBody Try.prog 152 := cP_ok.bodies 152 (cx_bodies Try.func152 (by kernel_rfl))
theorem has153 : HasBody Try.prog 153 := cP_ok.bodies 153 (cx_bodies Try.func153 (by kernel_rfl))
theorem has154 : HasBody Try.prog 154 := cP_ok.bodies 154 (cx_bodies Try.func154 (by kernel_rfl))
theorem has155 : HasBody Try.prog 155 := cP_ok.bodies 155 (cx_bodies Try.func155 (by kernel_rfl))
theorem has156 : HasBody Try.prog 156 := cP_ok.bodies 156 (cx_bodies Try.func156 (by kernel_rfl))
theorem has157 : HasBody Try.prog 157 := cP_ok.bodies 157 (cx_bodies Try.func157 (by kernel_rfl))
theorem has158 : HasBody Try.prog 158 := cP_ok.bodies 158 (cx_bodies Try.func158 (by kernel_rfl))
theorem has159 : HasBody Try.prog 159 := cP_ok.bodies 159 (cx_bodies Try.func159 (by kernel_rfl))
theorem has160 : HasBody Try.prog 160 := cP_ok.bodies 160 (cx_bodies Try.func160 (by kernel_rfl))
theorem has161 : HasBody Try.prog 161 := cP_ok.bodies 161 (cx_bodies Try.func161 (by kernel_rfl))
theorem has162 : HasBody Try.prog 162 := cP_ok.bodies 162 (cx_bodies Try.func162 (by kernel_rfl))
theorem has163 : HasBody Try.prog 163 := cP_ok.bodies 163 (cx_bodies Try.func163 (by kernel_rfl))
theorem has164 : HasBody Try.prog 164 := cP_ok.bodies 164 (cx_bodies Try.func164 (by kernel_rfl))
theorem has165 : HasBody Try.prog 165 := cP_ok.bodies 165 (cx_bodies Try.func165 (by kernel_rfl))
theorem has166 : HasBody Try.prog 166 := cP_ok.bodies 166 (cx_bodies Try.func166 (by kernel_rfl))
noncomputable def row10 : FnRow Try.prog btAll := ⟨10, Try.f10, Try.f10.body.getD .skip, Try.func10, by kernel_rfl, stat10, has10⟩
noncomputable def row12 : FnRow Try.prog btAll := ⟨12, Try.f12, Try.f12.body.getD .skip, Try.func12, by kernel_rfl, stat12, has12⟩
noncomputable def row13 : FnRow Try.prog btAll := ⟨13, Try.f13, Try.f13.body.getD .skip, Try.func13, by kernel_rfl, stat13, has13⟩
noncomputable def row14 : FnRow Try.prog btAll := ⟨14, Try.f14, Try.f14.body.getD .skip, Try.func14, by kernel_rfl, stat14, has14⟩
noncomputable def row15 : FnRow Try.prog btAll := ⟨15, Try.f15, Try.f15.body.getD .skip, Try.func15, by kernel_rfl, stat15, has15⟩
noncomputable def row16 : FnRow Try.prog btAll := ⟨16, Try.f16, Try.f16.body.getD .skip, Try.func16, by kernel_rfl, stat16, has16⟩
noncomputable def row17 : FnRow Try.prog btAll := ⟨17, Try.f17, Try.f17.body.getD .skip, Try.func17, by kernel_rfl, stat17, has17⟩
noncomputable def row18 : FnRow Try.prog btAll := ⟨18, Try.f18, Try.f18.body.getD .skip, Try.func18, by kernel_rfl, stat18, has18⟩
noncomputable def row19 : FnRow Try.prog btAll := ⟨19, Try.f19, Try.f19.body.getD .skip, Try.func19, by kernel_rfl, stat19, has19⟩
noncomputable def row20 : FnRow Try.prog btAll := ⟨20, Try.f20, Try.f20.body.getD .skip, Try.func20, by kernel_rfl, stat20, has20⟩
noncomputable def row29 : FnRow Try.prog btAll := ⟨29, Try.f29, Try.f29.body.getD .skip, Try.func29, by kernel_rfl, stat29, has29⟩
noncomputable def row30 : FnRow Try.prog btAll := ⟨30, Try.f30, Try.f30.body.getD .skip, Try.func30, by kernel_rfl, stat30, has30⟩
noncomputable def row39 : FnRow Try.prog btAll := ⟨39, Try.f39, Try.f39.body.getD .skip, Try.func39, by kernel_rfl, stat39, has39⟩
noncomputable def row40 : FnRow Try.prog btAll := ⟨40, Try.f40, Try.f40.body.getD .skip, Try.func40, by kernel_rfl, stat40, has40⟩
noncomputable def row41 : FnRow Try.prog btAll := ⟨41, Try.f41, Try.f41.body.getD .skip, Try.func41, by kernel_rfl, stat41, has41⟩
noncomputable def row42 : FnRow Try.prog btAll := ⟨42, Try.f42, Try.f42.body.getD .skip, Try.func42, by kernel_rfl, stat42, has42⟩
noncomputable def row43 : FnRow Try.prog btAll := ⟨43, Try.f43, Try.f43.body.getD .skip, Try.func43, by kernel_rfl, stat43, has43⟩
noncomputable def row44 : FnRow Try.prog btAll := ⟨44, Try.f44, Try.f44.body.getD .skip, Try.func44, by kernel_rfl, stat44, has44⟩
noncomputable def row45 : FnRow Try.prog btAll := ⟨45, Try.f45, Try.f45.body.getD .skip, Try.func45, by kernel_rfl, stat45, has45⟩
noncomputable def row46 : FnRow Try.prog btAll := ⟨46, Try.f46, Try.f46.body.getD .skip, Try.func46, by kernel_rfl, stat46, has46⟩
noncomputable def row47 : FnRow Try.prog btAll := ⟨47, Try.f47, Try.f47.body.getD .skip, Try.func47, by kernel_rfl, stat47, has47⟩
noncomputable def row48 : FnRow Try.prog btAll := ⟨48, Try.f48, Try.f48.body.getD .skip, Try.func48, by kernel_rfl, stat48, has48⟩
noncomputable def row49 : FnRow Try.prog btAll := ⟨49, Try.f49, Try.f49.body.getD .skip, Try.func49, by kernel_rfl, stat49, has49⟩
noncomputable def row50 : FnRow Try.prog btAll := ⟨50, Try.f50, Try.f50.body.getD .skip, Try.func50, by kernel_rfl, stat50, has50⟩
noncomputable def row51 : FnRow Try.prog btAll := ⟨51, Try.f51, Try.f51.body.getD .skip, Try.func51, by kernel_rfl, stat51, has51⟩
noncomputable def row52 : FnRow Try.prog btAll := ⟨52, Try.f52, Try.f52.body.getD .skip, Try.func52, by kernel_rfl, stat52, has52⟩
noncomputable def row53 : FnRow Try.prog btAll := ⟨53, Try.f53, Try.f53.body.getD .skip, Try.func53, by kernel_rfl, stat53, has53⟩
noncomputable def row54 : FnRow Try.prog btAll := ⟨54, Try.f54, Try.f54.body.getD .skip, Try.func54, by kernel_rfl, stat54, has54⟩
noncomputable def row55 : FnRow Try.prog btAll := ⟨55, Try.f55, Try.f55.body.getD .skip, Try.func55, by kernel_rfl, stat55, has55⟩
noncomputable def row56 : FnRow Try.prog btAll := ⟨56, Try.f56, Try.f56.body.getD .skip, Try.func56, by kernel_rfl, stat56, has56⟩
noncomputable def row57 : FnRow Try.prog btAll := ⟨57, Try.f57, Try.f57.body.getD .skip, Try.func57, by kernel_rfl, stat57, has57⟩
noncomputable def row72 : FnRow Try.prog btAll := ⟨72, Try.f72, Try.f72.body.getD .skip, Try.func72, by kernel_rfl, stat72, has72⟩
noncomputable def row73 : FnRow Try.prog btAll := ⟨73, Try.f73, Try.f73.body.getD .skip, Try.func73, by kernel_rfl, stat73, has73⟩
noncomputable def row74 : FnRow Try.prog btAll := ⟨74, Try.f74, Try.f74.body.getD .skip, Try.func74, by kernel_rfl, stat74, has74⟩
noncomputable def row75 : FnRow Try.prog btAll := ⟨75, Try.f75, Try.f75.body.getD .skip, Try.func75, by kernel_rfl, stat75, has75⟩
noncomputable def row76 : FnRow Try.prog btAll := ⟨76, Try.f76, Try.f76.body.getD .skip, Try.func76, by kernel_rfl, stat76, has76⟩
noncomputable def row77 : FnRow Try.prog btAll := ⟨77, Try.f77, Try.f77.body.getD .skip, Try.func77, by kernel_rfl, stat77, has77⟩
noncomputable def row78 : FnRow Try.prog btAll := ⟨78, Try.f78, Try.f78.body.getD .skip, Try.func78, by kernel_rfl, stat78, has78⟩
noncomputable def row79 : FnRow Try.prog btAll := ⟨79, Try.f79, Try.f79.body.getD .skip, Try.func79, by kernel_rfl, stat79, has79⟩
noncomputable def row80 : FnRow Try.prog btAll := ⟨80, Try.f80, Try.f80.body.getD .skip, Try.func80, by kernel_rfl, stat80, has80⟩
noncomputable def row81 : FnRow Try.prog btAll := ⟨81, Try.f81, Try.f81.body.getD .skip, Try.func81, by kernel_rfl, stat81, has81⟩
noncomputable def row82 : FnRow Try.prog btAll := ⟨82, Try.f82, Try.f82.body.getD .skip, Try.func82, by kernel_rfl, stat82, has82⟩
noncomputable def row83 : FnRow Try.prog btAll := ⟨83, Try.f83, Try.f83.body.getD .skip, Try.func83, by kernel_rfl, stat83, has83⟩
noncomputable def row84 : FnRow Try.prog btAll := ⟨84, Try.f84, Try.f84.body.getD .skip, Try.func84, by kernel_rfl, stat84, has84⟩
noncomputable def row85 : FnRow Try.prog btAll := ⟨85, Try.f85, Try.f85.body.getD .skip, Try.func85, by kernel_rfl, stat85, has85⟩
noncomputable def row88 : FnRow Try.prog btAll := ⟨88, Try.f88, Try.f88.body.getD .skip, Try.func88, by kernel_rfl, stat88, has88⟩
noncomputable def row91 : FnRow Try.prog btAll := ⟨91, Try.f91, Try.f91.body.getD .skip, Try.func91, by kernel_rfl, stat91, has91⟩
noncomputable def row95 : FnRow Try.prog btAll := ⟨95, Try.f95, Try.f95.body.getD .skip, Try.func95, by kernel_rfl, stat95, has95⟩
noncomputable def row96 : FnRow Try.prog btAll := ⟨96, Try.f96, Try.f96.body.getD .skip, Try.func96, by kernel_rfl, stat96, has96⟩
noncomputable def row110 : FnRow Try.prog btAll := ⟨110, Try.f110, Try.f110.body.getD .skip, Try.func110, by kernel_rfl, stat110, has110⟩
noncomputable def row111 : FnRow Try.prog btAll := ⟨111, Try.f111, Try.f111.body.getD .skip, Try.func111, by kernel_rfl, stat111, has111⟩
noncomputable def row112 : FnRow Try.prog btAll := ⟨112, Try.f112, Try.f112.body.getD .skip, Try.func112, by kernel_rfl, stat112, has112⟩
noncomputable def row113 : FnRow Try.prog btAll := ⟨113, Try.f113, Try.f113.body.getD .skip, Try.func113, by kernel_rfl, stat113, has113⟩
noncomputable def row114 : FnRow Try.prog btAll := ⟨114, Try.f114, Try.f114.body.getD .skip, Try.func114, by kernel_rfl, stat114, has114⟩
noncomputable def row115 : FnRow Try.prog btAll := ⟨115, Try.f115, Try.f115.body.getD .skip, Try.func115, by kernel_rfl, stat115, has115⟩
noncomputable def row116 : FnRow Try.prog btAll := ⟨116, Try.f116, Try.f116.body.getD .skip, Try.func116, by kernel_rfl, stat116, has116⟩
noncomputable def row118 : FnRow Try.prog btAll := ⟨118, Try.f118, Try.f118.body.getD .skip, Try.func118, by kernel_rfl, stat118, has118⟩
noncomputable def row119 : FnRow Try.prog btAll := ⟨119, Try.f119, Try.f119.body.getD .skip, Try.func119, by kernel_rfl, stat119, has119⟩
noncomputable def row120 : FnRow Try.prog btAll := ⟨120, Try.f120, Try.f120.body.getD .skip, Try.func120, by kernel_rfl, stat120, has120⟩
noncomputable def row128 : FnRow Try.prog btAll := ⟨128, Try.f128, Try.f128.body.getD .skip, Try.func128, by kernel_rfl, stat128, has128⟩
noncomputable def row129 : FnRow Try.prog btAll := ⟨129, Try.f129, Try.f129.body.getD .skip, Try.func129, by kernel_rfl, stat129, has129⟩
noncomputable def row135 : FnRow Try.prog btAll := ⟨135, Try.f135, Try.f135.body.getD .skip, Try.func135, by kernel_rfl, stat135, has135⟩
noncomputable def row136 : FnRow Try.prog btAll := ⟨136, Try.f136, Try.f136.body.getD .skip, Try.func136, by kernel_rfl, stat136, has136⟩
noncomputable def row137 : FnRow Try.prog btAll := ⟨137, Try.f137, Try.f137.body.getD .skip, Try.func137, by kernel_rfl, stat137, has137⟩
noncomputable def row138 : FnRow Try.prog btAll := ⟨138, Try.f138, Try.f138.body.getD .skip, Try.func138, by kernel_rfl, stat138, has138⟩
noncomputable def row139 : FnRow Try.prog btAll := ⟨139, Try.f139, Try.f139.body.getD .skip, Try.func139, by kernel_rfl, stat139, has139⟩
noncomputable def row140 : FnRow Try.prog btAll := ⟨140, Try.f140, Try.f140.body.getD .skip, Try.func140, by kernel_rfl, stat140, has140⟩
noncomputable def row146 : FnRow Try.prog btAll := ⟨146, Try.f146, Try.f146.body.getD .skip, Try.func146, by kernel_rfl, stat146, has146⟩
noncomputable def row147 : FnRow Try.prog btAll := ⟨147, Try.f147, Try.f147.body.getD .skip, Try.func147, by kernel_rfl, stat147, has147⟩
noncomputable def row148 : FnRow Try.prog btAll := ⟨148, Try.f148, Try.f148.body.getD .skip, Try.func148, by kernel_rfl, stat148, has148⟩
noncomputable def row149 : FnRow Try.prog btAll := ⟨149, Try.f149, Try.f149.body.getD .skip, Try.func149, by kernel_rfl, stat149, has149⟩
noncomputable def row151 : FnRow Try.prog btAll := ⟨151, Try.f151, Try.f151.body.getD .skip, Try.func151, by kernel_rfl, stat151, has151⟩
noncomputable def row152 : FnRow Try.prog btAll := ⟨152, Try.f152, Try.f152.body.getD .skip, Try.func152, by kernel_rfl, stat152, has152⟩
noncomputable def row153 : FnRow Try.prog btAll := ⟨153, Try.f153, Try.f153.body.getD .skip, Try.func153, by kernel_rfl, stat153, has153⟩
noncomputable def row154 : FnRow Try.prog btAll := ⟨154, Try.f154, Try.f154.body.getD .skip, Try.func154, by kernel_rfl, stat154, has154⟩
noncomputable def row155 : FnRow Try.prog btAll := ⟨155, Try.f155, Try.f155.body.getD .skip, Try.func155, by kernel_rfl, stat155, has155⟩
noncomputable def row156 : FnRow Try.prog btAll := ⟨156, Try.f156, Try.f156.body.getD .skip, Try.func156, by kernel_rfl, stat156, has156⟩
noncomputable def row157 : FnRow Try.prog btAll := ⟨157, Try.f157, Try.f157.body.getD .skip, Try.func157, by kernel_rfl, stat157, has157⟩
noncomputable def row158 : FnRow Try.prog btAll := ⟨158, Try.f158, Try.f158.body.getD .skip, Try.func158, by kernel_rfl, stat158, has158⟩
noncomputable def row159 : FnRow Try.prog btAll := ⟨159, Try.f159, Try.f159.body.getD .skip, Try.func159, by kernel_rfl, stat159, has159⟩
noncomputable def row160 : FnRow Try.prog btAll := ⟨160, Try.f160, Try.f160.body.getD .skip, Try.func160, by kernel_rfl, stat160, has160⟩
noncomputable def row161 : FnRow Try.prog btAll := ⟨161, Try.f161, Try.f161.body.getD .skip, Try.func161, by kernel_rfl, stat161, has161⟩
noncomputable def row162 : FnRow Try.prog btAll := ⟨162, Try.f162, Try.f162.body.getD .skip, Try.func162, by kernel_rfl, stat162, has162⟩
noncomputable def row163 : FnRow Try.prog btAll := ⟨163, Try.f163, Try.f163.body.getD .skip, Try.func163, by kernel_rfl, stat163, has163⟩
noncomputable def row164 : FnRow Try.prog btAll := ⟨164, Try.f164, Try.f164.body.getD .skip, Try.func164, by kernel_rfl, stat164, has164⟩
noncomputable def row165 : FnRow Try.prog btAll := ⟨165, Try.f165, Try.f165.body.getD .skip, Try.func165, by kernel_rfl, stat165, has165⟩
noncomputable def row166 : FnRow Try.prog btAll := ⟨166, Try.f166, Try.f166.body.getD .skip, Try.func166, by kernel_rfl, stat166, has166⟩
noncomputable def fnTree : BT (FnRow Try.prog btAll) := (.node (.node (.node (.node (.node (.node (.node (.node .leaf none (.node .leaf (some row128) .leaf)) none .leaf) none (.node (.node .leaf none (.node .leaf (some row160) .leaf)) none (.node .leaf (some row96) .leaf))) none (.node (.node .leaf none (.node .leaf (some row80) .leaf)) (some row16) (.node .leaf (some row48) (.node .leaf (some row112) .leaf)))) none (.node (.node (.node (.node .leaf none (.node .leaf (some row136) .leaf)) none (.node .leaf (some row72) .leaf)) none (.node .leaf (some row40) .leaf)) none (.node (.node (.node .leaf none (.node .leaf (some row152) .leaf)) none (.node .leaf (some row88) .leaf)) none (.node .leaf (some row56) (.node .leaf (some row120) .leaf))))) none (.node (.node (.node .leaf none (.node (.node .leaf none (.node .leaf (some row164) .leaf)) none .leaf)) none (.node (.node (.node .leaf none (.node .leaf (some row148) .leaf)) none (.node .leaf (some row84) .leaf)) (some row20) (.node .leaf (some row52) (.node .leaf (some row116) .leaf)))) none (.node (.node (.node (.node .leaf none (.node .leaf (some row140) .leaf)) none (.node .leaf (some row76) .leaf)) none (.node .leaf (some row44) .leaf)) (some row12) (.node (.node (.node .leaf none (.node .leaf (some row156) .leaf)) none .leaf) none .leaf)))) none (.node (.node (.node (.node .leaf none (.node (.node .leaf none (.node .leaf (some row162) .leaf)) none .leaf)) none (.node (.node (.node .leaf none (.node .leaf (some row146) .leaf)) none (.node .leaf (some row82) .leaf)) (some row18) (.node .leaf (some row50) (.node .leaf (some row114) .leaf)))) none (.node (.node (.node (.node .leaf none (.node .leaf (some row138) .leaf)) none (.node .leaf (some row74) .leaf)) none (.node .leaf (some row42) .leaf)) (some row10) (.node (.node (.node .leaf none (.node .leaf (some row154) .leaf)) none .leaf) none .leaf))) none (.node (.node (.node .leaf none (.node (.node .leaf none (.node .leaf (some row166) .leaf)) none .leaf)) none (.node .leaf none (.node .leaf (some row54) (.node .leaf (some row118) .leaf)))) none (.node (.node (.node .leaf none (.node .leaf (some row78) .leaf)) none (.node .leaf (some row46) (.node .leaf (some row110) .leaf))) (some row14) (.node (.node (.node .leaf none (.node .leaf (some row158) .leaf)) none .leaf) (some row30) .leaf))))) none (.node (.node (.node (.node (.node (.node (.node .leaf none (.node .leaf (some row129) .leaf)) none .leaf) none (.node (.node .leaf none (.node .leaf (some row161) .leaf)) none .leaf)) none (.node (.node .leaf none (.node .leaf (some row81) .leaf)) (some row17) (.node .leaf (some row49) (.node .leaf (some row113) .leaf)))) none (.node (.node (.node (.node .leaf none (.node .leaf (some row137) .leaf)) none (.node .leaf (some row73) .leaf)) none (.node .leaf (some row41) .leaf)) none (.node (.node (.node .leaf none (.node .leaf (some row153) .leaf)) none .leaf) none (.node .leaf (some row57) .leaf)))) none (.node (.node (.node .leaf none (.node (.node .leaf none (.node .leaf (some row165) .leaf)) none .leaf)) none (.node (.node (.node .leaf none (.node .leaf (some row149) .leaf)) none (.node .leaf (some row85) .leaf)) none (.node .leaf (some row53) .leaf))) none (.node (.node (.node .leaf none (.node .leaf (some row77) .leaf)) none (.node .leaf (some row45) .leaf)) (some row13) (.node (.node (.node .leaf none (.node .leaf (some row157) .leaf)) none .leaf) (some row29) .leaf)))) none (.node (.node (.node (.node .leaf none (.node (.node .leaf none (.node .leaf (some row163) .leaf)) none .leaf)) none (.node (.node (.node .leaf none (.node .leaf (some row147) .leaf)) none (.node .leaf (some row83) .leaf)) (some row19) (.node .leaf (some row51) (.node .leaf (some row115) .leaf)))) none (.node (.node (.node (.node .leaf none (.node .leaf (some row139) .leaf)) none (.node .leaf (some row75) .leaf)) none (.node .leaf (some row43) .leaf)) none (.node (.node (.node .leaf none (.node .leaf (some row155) .leaf)) none (.node .leaf (some row91) .leaf)) none .leaf))) none (.node (.node (.node (.node (.node .leaf none (.node .leaf (some row135) .leaf)) none .leaf) none (.node .leaf (some row39) .leaf)) none (.node (.node (.node .leaf none (.node .leaf (some row151) .leaf)) none .leaf) none (.node .leaf (some row55) (.node .leaf (some row119) .leaf)))) none (.node (.node (.node .leaf none (.node .leaf (some row79) .leaf)) none (.node .leaf (some row47) (.node .leaf (some row111) .leaf))) (some row15) (.node (.node (.node .leaf none (.node .leaf (some row159) .leaf)) none (.node .leaf (some row95) .leaf)) none .leaf))))))
noncomputable def fnAt (f : FuncId) : Option (FnRow Try.prog btAll) := fnTree.get (bits f f)
noncomputable def fnIs (f : FuncId) : Bool :=
 match fnAt f with
 | some r => Nat.beq r.num f
 | none => false
theorem fnIs_ok (f : FuncId) (h : fnIs f = true) : HasBody Try.prog f := by
 unfold fnIs at h
 split at h
 ·rename_i r _
  rw [← Nat.eq_of_beq_eq_true h]
  exact r.has
 ·cases h
theorem drawnMixed : Try.prog.follows .mixedOrders = true := by kernel_rfl
noncomputable def cT : Cx := { T := { info := tyAt, flat := flats Try.prog, ext := extAt }, bodies := fnIs }
theorem cT_ok : cT.Ok Try.prog := ⟨⟨tyAt_ok, cP_ok.T.flat, extAt_ok⟩, fnIs_ok⟩
noncomputable def whole (n d : Nat) (f : FuncId) (args : List Value) : Option (AE × St × Log) := (orcN cT btAll fnAt n d).call f args St.nil
def answers : Option (AE × St × Log) → Option Value
 | some (.ret v, _, _) => some v
 | _ => none
theorem whole_call {n d : Nat} {f : FuncId} {args : List Value} {v : Value} (h : answers (whole n d f args) = some v) (ha : plainL args = true) (hv : plain v = true) (σ : St) : DCall Try.prog f args σ (.ret v) σ [] := by
 unfold answers at h
 split at h
 ·rename_i v' σ' lg hw
  cases h
  exact ((orcN_ok cT_ok drawnMixed d).call f args St.nil _ σ' lg hw).alone ha hv σ
 ·cases h
end Go.Ab
namespace Go.Ab
theorem btAt10_8 : btAll 10 8 = [0, 0, 0, 0, 12, 28, 63, 127, 255, 255, 511] := by kernel_rfl
theorem btAt10_16 : btAll 10 16 = [0, 0, 2, 6, 15, 31, 63, 63, 191, 63, 959, 1983, 4095, 8191] := by kernel_rfl
theorem btAt10_24 : btAll 10 24 = [0, 0, 0, 0, 12, 28, 63, 127, 255, 255, 511] := by kernel_rfl
theorem btAt10_25 : btAll 10 25 = [0, 0, 0, 4, 12, 30, 63, 127, 255, 255, 1023, 2047, 4095, 8191, 8191, 32767, 65535, 131071, 262143, 262143, 1048575, 262143, 2359295, 262143, 8650751, 33554431, 67108863, 134217727, 268435455, 536870911, 536870911, 2147483647, 4294967295, 8589934591, 17179869183, 34359738367, 68719476735] := by kernel_rfl
theorem btAt14_11 : btAll 14 11 = [0, 0, 2, 6, 14, 0, 0, 0, 128, 384, 896, 2016, 4064, 8190, 16383, 32767, 65535] := by kernel_rfl
theorem btAt15_8 : btAll 15 8 = [0, 1, 3, 7, 0, 0, 63, 127, 255] := by kernel_rfl
theorem btAt18_15 : btAll 18 15 = [0, 0, 0, 6, 14, 30, 30, 126, 254, 31, 1023] := by kernel_rfl
theorem btAt20_1 : btAll 20 1 = [0, 1, 3, 7, 0, 16, 48, 127, 255, 0, 512, 2047, 4095, 0, 8192, 24576, 65535, 131071, 262143, 524287] := by kernel_rfl
theorem btAt29_7 : btAll 29 7 = [0, 0, 2, 6, 15, 31, 63, 63, 191, 63, 959, 1983, 4095, 8191] := by kernel_rfl
theorem btAt29_11 : btAll 29 11 = [0, 0, 2, 6, 15, 31, 63, 127, 63, 511, 1023, 2047, 4095, 4095, 12287, 32767, 65535, 131071, 262143, 524287, 1048575, 2097151, 2097151, 6291455, 14680063, 31457279, 67108863, 134217727, 268435455, 536870911] := by kernel_rfl
theorem btAt39_3 : btAll 39 3 = [0, 1, 3, 7, 15, 31, 63, 0, 128, 384, 896, 1983, 0, 4096, 12288, 28672, 65535, 131071, 262143] := by kernel_rfl
theorem btAt42_6 : btAll 42 6 = [0, 0, 3, 7, 0, 0, 48, 112, 255] := by kernel_rfl
theorem btAt45_1 : btAll 45 1 = [0, 1, 3, 7, 15, 31, 63, 127, 255, 511, 1023, 2047, 511, 4607, 12799, 32767, 65535, 131071] := by kernel_rfl
theorem btAt46_0 : btAll 46 0 = [0, 1, 3, 7, 15, 0, 32, 96, 224, 0, 992, 2016, 4064, 0, 16383] := by kernel_rfl
theorem btAt47_2 : btAll 47 2 = [0, 1, 3, 7, 0, 31, 63, 0, 128, 384, 896, 0, 3968, 8064, 16383, 32767] := by kernel_rfl
theorem btAt49_1 : btAll 49 1 = [0, 1, 3, 7, 0, 31, 63, 0, 128, 384, 896, 1920, 3968, 0, 8319, 32767] := by kernel_rfl
theorem btAt49_4 : btAll 49 4 = [0, 1, 3, 7, 15, 0, 32, 127] := by kernel_rfl
theorem btAt51_8 : btAll 51 8 = [0, 0, 3, 0, 15, 31, 63] := by kernel_rfl
theorem btAt53_3 : btAll 53 3 = [0, 1, 0, 4, 12, 28, 3, 127, 255] := by kernel_rfl
theorem btAt54_11 : btAll 54 11 = [0, 0, 0, 6, 14, 30, 0, 0, 192, 448, 960, 2046, 4095, 8191] := by kernel_rfl
theorem btAt57_6 : btAll 57 6 = [0, 0, 3, 7, 0, 0, 48, 112, 255] := by kernel_rfl
theorem btAt57_7 : btAll 57 7 = [0, 0, 3, 7, 0, 0, 48, 112, 255, 511] := by kernel_rfl
theorem btAt76_6 : btAll 76 6 = [0, 0, 3, 7, 0, 0, 48, 112, 255] := by kernel_rfl
theorem btAt77_2 : btAll 77 2 = [0, 0, 0, 6, 3, 31] := by kernel_rfl
theorem btAt81_4 : btAll 81 4 = [0, 0, 2, 6, 14, 30, 63, 127, 255, 511, 1023, 2047, 255, 8191, 16383, 255, 33023, 98559, 229631, 255, 1016063, 2064639, 4194303, 8388607, 16777215] := by kernel_rfl
theorem btAt83_3 : btAll 83 3 = [0, 1, 0, 7, 15, 31, 0, 64, 255, 511] := by kernel_rfl
theorem btAt83_4 : btAll 83 4 = [0, 1, 3, 7, 15, 31, 63, 127, 63, 511, 1023, 2047, 63, 4159, 16383, 32767, 65535] := by kernel_rfl
theorem btAt83_6 : btAll 83 6 = [0, 1, 0, 7, 15, 0, 32, 127, 0, 256, 0, 1792, 4095, 8191, 16383] := by kernel_rfl
theorem btAt84_1 : btAll 84 1 = [0, 1, 0, 7, 15, 0, 32, 0, 128, 480, 1023, 2047, 4095] := by kernel_rfl
theorem btAt88_5 : btAll 88 5 = [0, 1, 3, 0, 8, 24, 63, 0, 128, 511, 0, 1024, 3072, 8191, 0, 0, 65535, 131071] := by kernel_rfl
theorem btAt88_8 : btAll 88 8 = [0, 0, 3, 0, 8, 24, 63, 127] := by kernel_rfl
theorem btAt96_10 : btAll 96 10 = [0, 0, 2, 0, 0, 16, 56, 120, 0, 256, 768, 2040, 4095, 8191] := by kernel_rfl
theorem btAt115_0 : btAll 115 0 = [0, 0, 0, 0, 0, 0, 48, 112, 0, 0, 768, 1792, 4083, 8179, 16383, 32767] := by kernel_rfl
theorem btAt116_3 : btAll 116 3 = [0, 1, 3, 7, 0, 16, 48, 127, 255, 511] := by kernel_rfl
theorem btAt147_17 : btAll 147 17 = [0, 1, 3, 7, 7, 7, 39, 119, 247, 7, 7, 1543, 3591, 8191, 16383, 32767, 65535] := by kernel_rfl
theorem btAt149_8 : btAll 149 8 = [0, 0, 2, 1, 15] := by kernel_rfl
theorem btAt151_4 : btAll 151 4 = [0, 0, 3, 7, 15, 15, 15, 111, 239, 15, 15, 1039, 3599, 7695, 16383, 32767, 65535] := by kernel_rfl
theorem btAt151_6 : btAll 151 6 = [0, 0, 0, 0, 8, 0, 0, 64, 224, 480, 0, 0, 3072, 7168, 16355, 32739, 65535, 131071] := by kernel_rfl
theorem btAt152_10 : btAll 152 10 = [0, 0, 0, 0, 0, 24, 0, 0, 0, 384, 960, 1984, 0, 0, 12288, 28672, 65475, 131011, 262143, 524287] := by kernel_rfl
theorem btAt153_10 : btAll 153 10 = [0, 0, 0, 0, 0, 24, 0, 0, 0, 384, 960, 1984, 0, 0, 12288, 28672, 65475, 131011, 262143, 524287] := by kernel_rfl
theorem btAt155_3 : btAll 155 3 = [0, 0, 0, 0, 0, 0, 48, 112, 0, 0, 768, 1792, 4083, 8179, 16383, 32767] := by kernel_rfl
theorem btAt156_5 : btAll 156 5 = [0, 0, 3, 7, 15, 15, 15, 111, 239, 15, 15, 1039, 3599, 7695, 16383, 32767, 65535, 131071] := by kernel_rfl
theorem btAt156_11 : btAll 156 11 = [0, 0, 0, 0, 8, 0, 0, 64, 224, 480, 0, 0, 3072, 7168, 16355, 32739, 65535, 131071] := by kernel_rfl
theorem btAt156_16 : btAll 156 16 = [0, 0, 0, 6, 14, 0, 0, 64, 224, 480, 1023, 2047, 4095] := by kernel_rfl
theorem btAt156_17 : btAll 156 17 = [0, 0, 0, 0, 8, 0, 0, 64, 224, 480, 0, 0, 3072, 7168, 16355, 32739, 65535, 131071] := by kernel_rfl
theorem btAt156_22 : btAll 156 22 = [0, 0, 0, 6, 14, 0, 0, 64, 224, 480, 1023, 2047, 4095] := by kernel_rfl
theorem btAt156_23 : btAll 156 23 = [0, 0, 0, 0, 8, 0, 0, 64, 224, 480, 0, 0, 3072, 7168, 16355, 32739, 65535, 131071] := by kernel_rfl
theorem btAt157_1 : btAll 157 1 = [0, 0, 0, 0, 0, 0, 48, 112, 0, 0, 768, 1792, 4083, 8179, 16383, 32767] := by kernel_rfl
theorem btAt157_3 : btAll 157 3 = [0, 0, 3, 7, 15, 15, 15, 111, 239, 15, 15, 1551, 3599, 8191, 16383, 32767, 65535] := by kernel_rfl
theorem btAt157_5 : btAll 157 5 = [0, 0, 3, 7, 15, 15, 15, 111, 239, 15, 15, 1551, 3599, 8191, 16383, 32767] := by kernel_rfl
theorem btAt157_8 : btAll 157 8 = [0, 0, 0, 0, 0, 0, 48, 112, 0, 0, 768, 1792, 4083, 8179, 16383, 32767] := by kernel_rfl
theorem btAt158_1 : btAll 158 1 = [0, 0, 0, 0, 0, 0, 48, 112, 0, 0, 768, 1792, 4083, 8179, 16383, 32767] := by kernel_rfl
theorem btAt158_3 : btAll 158 3 = [0, 0, 3, 7, 15, 15, 15, 111, 239, 15, 15, 1551, 3599, 8191, 16383, 32767] := by kernel_rfl
theorem btAt158_5 : btAll 158 5 = [0, 0, 3, 7, 15, 15, 15, 111, 239, 15, 15, 1551, 3599, 8191, 16383, 32767, 65535] := by kernel_rfl
theorem btAt158_8 : btAll 158 8 = [0, 0, 0, 0, 0, 0, 48, 112, 0, 0, 768, 1792, 4083, 8179, 16383, 32767] := by kernel_rfl
theorem btAt158_10 : btAll 158 10 = [0, 0, 0, 0, 0, 0, 48, 112, 0, 0, 768, 1792, 4083, 8179, 16383, 32767] := by kernel_rfl
theorem btAt158_13 : btAll 158 13 = [0, 0, 3, 7, 15, 15, 15, 111, 239, 15, 15, 1551, 3599, 8191, 16383, 32767] := by kernel_rfl
theorem btAt158_15 : btAll 158 15 = [0, 0, 3, 7, 15, 15, 15, 111, 239, 15, 15, 1551, 3599, 8191, 16383, 32767, 65535] := by kernel_rfl
theorem btAt158_18 : btAll 158 18 = [0, 0, 0, 0, 0, 0, 48, 112, 0, 0, 768, 1792, 4083, 8179, 16383, 32767] := by kernel_rfl
theorem btAt158_21 : btAll 158 21 = [0, 0, 0, 0, 0, 0, 48, 112, 0, 0, 768, 1792, 4083, 8179, 16383, 32767] := by kernel_rfl
theorem btAt161_3 : btAll 161 3 = [0, 1, 0, 7, 15, 31, 31, 31, 31, 415, 991, 2015, 31, 31, 31, 24607, 57375, 127007, 258079, 524287, 1048575, 2097151] := by kernel_rfl
theorem btAt161_5 : btAll 161 5 = [0, 0, 0, 0, 12, 30, 62, 0, 0, 0, 768, 1920, 3968, 8191, 16383, 32767] := by kernel_rfl
theorem btAt161_6 : btAll 161 6 = [0, 0, 0, 6, 0, 0, 0, 96, 0, 0, 0, 1536, 3840, 7936, 0, 0, 0, 98304, 245760, 507904, 1048335, 2096911, 4194303, 8388607] := by kernel_rfl
theorem btAt163_1 : btAll 163 1 = [0, 1, 3, 0, 8, 24, 56, 127, 255, 511] := by kernel_rfl
theorem btAt163_2 : btAll 163 2 = [0, 1, 3, 0, 8, 24, 56, 127, 255, 511] := by kernel_rfl
theorem btAt163_3 : btAll 163 3 = [0, 1, 3, 0, 8, 24, 56, 127, 255, 511] := by kernel_rfl
theorem btAt166_1 : btAll 166 1 = [0, 0, 0, 6, 14, 0, 0, 96, 224, 511, 1023] := by kernel_rfl
attribute [go_sem] btAt10_8 btAt10_16 btAt10_24 btAt10_25 btAt14_11 btAt15_8 btAt18_15 btAt20_1 btAt29_7 btAt29_11 btAt39_3 btAt42_6 btAt45_1 btAt46_0 btAt47_2 btAt49_1 btAt49_4 btAt51_8 btAt53_3 btAt54_11 btAt57_6 btAt57_7 btAt76_6 btAt77_2 btAt81_4 btAt83_3 btAt83_4 btAt83_6 btAt84_1 btAt88_5 btAt88_8 btAt96_10 btAt115_0 btAt116_3 btAt147_17 btAt149_8 btAt151_4 btAt151_6 btAt152_10 btAt153_10 btAt155_3 btAt156_5 btAt156_11 btAt156_16 btAt156_17 btAt156_22 btAt156_23 btAt157_1 btAt157_3 btAt157_5 btAt157_8 btAt158_1 btAt158_3 btAt158_5 btAt158_8 btAt158_10 btAt158_13 btAt158_15 btAt158_18 btAt158_21 btAt161_3 btAt161_5 btAt161_6 btAt163_1 btAt163_2 btAt163_3 btAt166_1
end Go.Ab
namespace Go.Ab
open Go.Proofs
attribute [go_sem] info0 info1 info2 info3 info4 info5 info6 info7 info8 info9 info10 info11 info12 info13 info14 info15 info16 info17 info18 info19 info20 info21 info22 info23 info24 info25 info26 info27 info28 info29 info30 info31 info32 info34 info36 info37 info38 info39 info40 info42 info43 info49
attribute [go_sem] Try.underlying0 Try.underlying1 Try.underlying2 Try.underlying3 Try.underlying4 Try.underlying5 Try.underlying6 Try.underlying7 Try.underlying8 Try.underlying9 Try.underlying10 Try.underlying11 Try.underlying12 Try.underlying13 Try.underlying14 Try.underlying15 Try.underlying16 Try.underlying17 Try.underlying18 Try.underlying19 Try.underlying20 Try.underlying21 Try.underlying22 Try.underlying23 Try.underlying24 Try.underlying25 Try.underlying26 Try.underlying27 Try.underlying28 Try.underlying29 Try.underlying30 Try.underlying31 Try.underlying32 Try.underlying34 Try.underlying36 Try.underlying37 Try.underlying38 Try.underlying39 Try.underlying40 Try.underlying42 Try.underlying43 Try.underlying49
attribute [go_sem] Try.t0 Try.t1 Try.t2 Try.t3 Try.t4 Try.t5 Try.t6 Try.t7 Try.t8 Try.t9 Try.t10 Try.t11 Try.t12 Try.t13 Try.t14 Try.t15 Try.t16 Try.t17 Try.t18 Try.t19 Try.t20 Try.t21 Try.t22 Try.t23 Try.t24 Try.t25 Try.t26 Try.t27 Try.t28 Try.t29 Try.t30 Try.t31 Try.t32 Try.t34 Try.t36 Try.t37 Try.t38 Try.t39 Try.t40 Try.t42 Try.t43 Try.t49
attribute [go_sem] info90 info91 info96 info97 info98 info99 info100 info102 info106 info109 info111 info112 info115
attribute [go_sem] Try.underlying90 Try.underlying91 Try.underlying96 Try.underlying97 Try.underlying98 Try.underlying99 Try.underlying100 Try.underlying102 Try.underlying106 Try.underlying109 Try.underlying111 Try.underlying112 Try.underlying115
attribute [go_sem] Try.t90 Try.t91 Try.t96 Try.t97 Try.t98 Try.t99 Try.t100 Try.t102 Try.t106 Try.t109 Try.t111 Try.t112 Try.t115
attribute [go_sem] info148 info150 info154 info164
attribute [go_sem] Try.underlying148 Try.underlying150 Try.underlying154 Try.underlying164
attribute [go_sem] Try.t148 Try.t150 Try.t154 Try.t164
attribute [go_sem] info181 info183 info190 info191 info194 info195 info198 info208 info216 info221 info222 info228 info232 info234 info235
attribute [go_sem] Try.underlying181 Try.underlying183 Try.underlying190 Try.underlying191 Try.underlying194 Try.underlying195 Try.underlying198 Try.underlying208 Try.underlying216 Try.underlying221 Try.underlying222 Try.underlying228 Try.underlying232 Try.underlying234 Try.underlying235
attribute [go_sem] Try.t181 Try.t183 Try.t190 Try.t191 Try.t194 Try.t195 Try.t198 Try.t208 Try.t216 Try.t221 Try.t222 Try.t228 Try.t232 Try.t234 Try.t235
attribute [go_sem] body10 body12 body13 body14 body15 body16 body17 body18 body19 body20 body29 body30 body39 body40 body41 body42 body43 body44 body45 body46 body47 body48 body49 body50 body51 body52 body53 body54 body55 body56 body57 body72 body73 body74 body75 body76 body77 body78 body79 body80 body81
attribute [go_sem] body82 body83 body84 body85 body88 body91 body95 body96 body110 body111 body112 body113 body114 body115 body116 body118 body119 body120 body128 body129 body135 body136 body137 body138 body139 body140 body146 body147 body148 body149 body151 body152 body153 body154 body155 body156 body157 body158
end Go.Ab
namespace Go.Ab
open Go.Proofs
attribute [go_sem] wp_skip wp_label wp_exit wp_goto wp_ret wp_seq wp_cond wp_block wp_ops wp_drawn wp_loop wp_scope wp_range wOps_nil wOps_cons wDrawn_nil wDrawn_cons condW_true condW_false condW_dec thenW_norm thenW_exit thenW_goto thenW_ret thenW_panic retW_ret retW_panic opsW_val opsW_new opsW_eff opsW_panic opsW_enter opsW_round opsW_defer retD_ret drawnW_val drawnW_new drawnW_eff drawnW_enter loudOne_quiet loudOne_pure callO_some callO_none dynL pairOk preW_mk blockW_mk preK_eq scopeW_goto scopeW_norm scopeW_ret scopeW_exit scopeW_panic List.isEmpty_toArray Array.isEmpty_empty endW_mk endK_some endD_ret endD_norm endD_panic leaveK_ret leaveK_done recoverA List.mem_cons List.mem_append List.not_mem_nil false_implies implies_true forall_const List.singleton_append List.mem_singleton false_or or_false forall_eq forall_eq_or_imp
section near
variable {p n k : Nat}
theorem lt_ne (h : p < n) : (n = p) = False := eq_false (by omega)
theorem lt_ne' (h : p < n) : (p = n) = False := eq_false (by omega)
theorem lt_ne_add (h : p < n) : (n + k = p) = False := eq_false (by omega)
theorem lt_ne_add' (h : p < n) : (p = n + k) = False := eq_false (by omega)
theorem lt_le (h : p < n) : (n ≤ p) = False := eq_false (by omega)
theorem lt_le_add (h : p < n) : (n + k ≤ p) = False := eq_false (by omega)
theorem lt_lt_add (h : p < n) : (p < n + k) = True := eq_true (by omega)
theorem lt_le' (h : p < n) : (p ≤ n) = True := eq_true (by omega)
theorem lt_le_add' (h : p < n) : (p ≤ n + k) = True := eq_true (by omega)
theorem lt_beq (h : p < n) : (n == p) = false := by simp; omega
theorem lt_beq' (h : p < n) : (p == n) = false := by simp; omega
theorem lt_beq_add (h : p < n) : (n + k == p) = false := by simp; omega
theorem lt_beq_add' (h : p < n) : (p == n + k) = false := by simp; omega
theorem beq_ne (h : ¬ p = n) : (p == n) = false := by simp; omega
end near
attribute [go_sem] lt_ne lt_ne' lt_ne_add lt_ne_add' lt_le lt_le_add lt_lt_add lt_le' lt_le_add' lt_beq lt_beq' lt_beq_add lt_beq_add' beq_ne
theorem wrapI {n : Int} (h1 : -9223372036854775808 ≤ n) (h2 : n < 9223372036854775808) : IntKind.i64.wrap n = n := by rw [IntKind.wrap_i64]; omega
theorem wrapU {n : Int} (h1 : 0 ≤ n) (h2 : n < 18446744073709551616) : IntKind.u64.wrap n = n := by rw [IntKind.wrap_u64]; omega
theorem wrapIN {k : Nat} (h : k < 9223372036854775808) : IntKind.i64.wrap (k : Int) = k := wrapI (by omega) (by omega)
theorem wrapUN {k : Nat} (h : k < 18446744073709551616) : IntKind.u64.wrap (k : Int) = k := wrapU (by omega) (by omega)
theorem toNat_one : Int.toNat 1 = 1 := rfl
theorem toNat_zero : Int.toNat 0 = 0 := rfl
theorem sbA_none {len cap : Nat} : sbA len cap none none none = some (0, len, cap) := rfl
theorem sbA_lo {len cap : Nat} {k : IntKind} {n : Int} : sbA len cap (some (.int k n)) none none = if 0 ≤ n ∧ n ≤ len then some (n.toNat, len, cap) else none := by
 delta sbA
 simp only [bnd]
 by_cases h : 0 ≤ n ∧ n ≤ (len : Int) <;> simp [h]
theorem sbA_hi {len cap : Nat} {k : IntKind} {n : Int} : sbA len cap none (some (.int k n)) none = if 0 ≤ n ∧ n ≤ cap then some (0, n.toNat, cap) else none := by
 delta sbA
 simp only [bnd]
 by_cases h : 0 ≤ n ∧ n ≤ (cap : Int) <;> simp [h]
theorem sbA_both {len cap : Nat} {k k' : IntKind} {a n : Int} : sbA len cap (some (.int k a)) (some (.int k' n)) none = if 0 ≤ n ∧ n ≤ cap then (if 0 ≤ a ∧ a ≤ n.toNat then some (a.toNat, n.toNat, cap) else none) else none := by
 delta sbA
 simp only [bnd]
 by_cases h : 0 ≤ n ∧ n ≤ (cap : Int)
 ·simp only [h, and_self, if_true]
  by_cases h2 : 0 ≤ a ∧ a ≤ (n.toNat : Int)
  ·simp only [h2, and_self, if_true]
  ·simp only [h2, if_false]
 ·simp [h]
attribute [go_sem] wrapIN wrapUN wrapI wrapU toNat_one toNat_zero sbA_none sbA_lo sbA_hi sbA_both opSlice opLookup opMapUpdate opDelete keyOk opMakeMap isMapD
attribute [congr] endK_congr leaveX_congr thenW_congr retW_congr retD_congr callW_congr wp_congr wOps_congr opsW_congr wDrawn_congr drawnW_congr condW_congr callX_congr callO_congr loopX_congr scopeX_congr rangeX_congr
theorem enter {p : PureTab Try.prog} {f : FuncId} {fn : Func} {c : Code} {args : List Value} {σ : St} {K : AE → St → Log → Prop} (hf : Try.prog.funcs[f]? = some fn) (hb : fn.body = some c) (hs : statAll (btAll f) c = true)
  (h : wp (cP Try.prog) p (btAll f) false c (start args fn.ntmps) σ (endW (cP Try.prog) fn.results.toList K)) : callX Try.prog f args σ K :=
 callX.enter cP_ok mixed hf hb hs h
theorem turn (p : PureTab Try.prog) (f : FuncId) {rnd : Bool} {b : Code} {fr : Fr} {σ : St} {Q : RR → Prop} (hs : statAll (btAll f) b = true)
  (h : wp (cP Try.prog) p (btAll f) rnd b fr σ (thenW (loopX Try.prog rnd b) Q)) : loopX Try.prog rnd b fr σ Q := loopX.step cP_ok mixed hs h
def q0 : PureTab Try.prog := ⟨fun _ _ => none, fun _ _ _ h => by cases h⟩
theorem pure_call {f : FuncId} {args : List Value} {σ : St} {v : Value} (h : callX Try.prog f args σ fun e σ' l => e = .ret v ∧ ∀ c ∈ l, σ.next ≤ c) (hv : plain v = true) : DCall Try.prog f args σ (.ret v) σ [] := by
 obtain ⟨e, σ', l, d, rfl, hl⟩ := h
 have h2 : DCall Try.prog f args σ (.ret v) σ' [] := ⟨⟨d.1.1, fun c hc _ => d.1.2 c hc fun hm => by have := hl c hm; omega⟩, d.2⟩
 exact DCall.forget h2 hv
end Go.Ab
namespace Go.Ab
open Go.Proofs
def stepW (I : Nat → Fr → St → Prop) (E : AX → Fr → St → Prop) (B : Nat → Prop) (n : Nat) (r : RR) : Prop :=
 (∀ c ∈ r.lg, B c) ∧ match r.x with
  | .norm => ∃ m, m < n ∧ I m r.fr r.σ
  | x => E x r.fr r.σ
def endL (E : AX → Fr → St → Prop) (B : Nat → Prop) (r : RR) : Prop := (∀ c ∈ r.lg, B c) ∧ E r.x r.fr r.σ
section eqs
variable {I : Nat → Fr → St → Prop} {E : AX → Fr → St → Prop} {B : Nat → Prop} {n : Nat} {fr : Fr} {σ : St} {lg : Log}
theorem stepW_norm : stepW I E B n ⟨.norm, fr, σ, lg⟩ = ((∀ c ∈ lg, B c) ∧ ∃ m, m < n ∧ I m fr σ) := (rfl)
theorem stepW_exit {i : Nat} : stepW I E B n ⟨.exit i, fr, σ, lg⟩ = ((∀ c ∈ lg, B c) ∧ E (.exit i) fr σ) := (rfl)
theorem stepW_ret : stepW I E B n ⟨.ret, fr, σ, lg⟩ = ((∀ c ∈ lg, B c) ∧ E .ret fr σ) := (rfl)
end eqs
theorem loop_ind (p : PureTab Try.prog) (f : FuncId) {rnd : Bool} {b : Code} (hs : statAll (btAll f) b = true) (I : Nat → Fr → St → Prop) (E : AX → Fr → St → Prop) (B : Nat → Prop)
  (step : ∀ n fr σ, I n fr σ → wp (cP Try.prog) p (btAll f) rnd b fr σ (stepW I E B n)) : ∀ n fr σ, I n fr σ → loopX Try.prog rnd b fr σ (endL E B) := by
 intro n
 induction n using Nat.strongRecOn with
 | _ n ih =>
  intro fr σ hI
  obtain ⟨r, h1, h2, h3⟩ := wp_sound cP_ok mixed b fr σ _ hs (step n fr σ hI)
  cases hx : r.x with
  | norm =>
   rw [hx] at h3
   obtain ⟨m, hm, hI'⟩ := h3
   obtain ⟨r', h4, h5, h6⟩ := ih m hm _ _ hI'
   refine ⟨_, DL.next h1 hx h4, fun c hc => ?_, h6⟩
   rcases List.mem_append.1 hc with h | h
   ·exact h2 c h
   ·exact h5 c h
  | exit i => rw [hx] at h3; exact ⟨_, DL.out h1 (by rw [hx]; rfl), h2, by rw [hx]; exact h3⟩
  | goto i => rw [hx] at h3; exact ⟨_, DL.out h1 (by rw [hx]; rfl), h2, by rw [hx]; exact h3⟩
  | ret => rw [hx] at h3; exact ⟨_, DL.out h1 (by rw [hx]; rfl), h2, by rw [hx]; exact h3⟩
  | panic ch => rw [hx] at h3; exact ⟨_, DL.out h1 (by rw [hx]; rfl), h2, by rw [hx]; exact h3⟩
theorem loop_then {rnd : Bool} {b : Code} {fr : Fr} {σ : St} {E : AX → Fr → St → Prop} {B : Nat → Prop} {Q : RR → Prop} (h : loopX Try.prog rnd b fr σ (endL E B))
  (k : ∀ x fr' σ' lg, Logged σ σ' lg → (∀ c ∈ lg, B c) → E x fr' σ' → Q ⟨x, fr', σ', lg⟩) : loopX Try.prog rnd b fr σ Q :=
 h.mono fun r hl ⟨h1, h2⟩ => k r.x r.fr r.σ r.lg hl h1 h2
attribute [go_sem] stepW_norm stepW_exit stepW_ret
end Go.Ab
namespace Go.Ab
open Go.Proofs
def q8 : PureTab Try.prog := ⟨p8, p8_is⟩
theorem callX.ret {f : FuncId} {args : List Value} {σ : St} {v : Value} {R : St → Log → Prop} {K : AE → St → Log → Prop} (h : callX Try.prog f args σ fun e σ' l => e = .ret v ∧ R σ' l) (k : ∀ σ' l, Logged σ σ' l → R σ' l → K (.ret v) σ' l) : callX Try.prog f args σ K :=
 h.use fun _ σ' l hl ⟨a, b⟩ => a ▸ k σ' l hl b
end Go.Ab
namespace Go.Ab
open Go.Proofs
variable {P : Program}
def blockOf : Code → Code
 | .block _ b => b
 | c => c
def dropC : Nat → Code → Code
 | n + 1, .seq _ b => dropC n b
 | _, c => c
def loopOb (st : LoopState) (j : Option Code) (ts : List Value) (ps : Array Tmp) (a b : Code) (d : Nat) : AObj := .loop { state := st, pending := j, fn := 0, tmps := ⟨ts⟩, params := ps, assign := a, body := b, defers := d }
def endRW (l : Nat) (ts : List Value) (ps : Array Tmp) (a b : Code) (d : Nat) (K : AE → St → Log → Prop) (lg : Log) (r : RR) : Prop :=
 r.σ.get l = some (loopOb .busy none ts ps a b d) ∧ match jumpOf r.x with
  | some j => K (.ret (.bool j.isNone)) (r.σ.set l (loopOb (readyIf j) j ts ps a b d)) (lg ++ ([l] ++ (r.lg ++ [l])))
  | none => False
def midRW (C : Cx) (p : PureTab P) (bt : Nat → List Nat) (l : Nat) (ts : List Value) (ps : Array Tmp) (a b : Code) (d : Nat) (K : AE → St → Log → Prop) (r : RR) : Prop :=
 match r.x with
 | .norm => r.σ.get l = some (loopOb .ready none ts ps a b d) ∧ wp C p bt true b r.fr (r.σ.set l (loopOb .busy none ts ps a b d)) (endRW l ts ps a b d K r.lg)
 | _ => False
theorem roundX.enter {C : Cx} {p : PureTab P} (hC : C.Ok P) (hm : P.follows .mixedOrders = true) {bt : Nat → List Nat} {l : Nat} {ts : List Value} {ps : Array Tmp} {a b : Code} {d : Nat} {args : List Value} {σ : St} {K : AE → St → Log → Prop}
  (hg : σ.get l = some (loopOb .ready none ts ps a b d)) (hn : args.length = ps.size) (ha : statAll bt a = true) (hb : statAll bt b = true)
  (h : wp C p bt true a ⟨roundTs ts ps.toList args, []⟩ σ (midRW C p bt l ts ps a b d K)) : roundX P l args σ K := by
 obtain ⟨r, h1, h2⟩ := wp_sound hC hm a _ _ _ ha h
 unfold midRW at h2
 split at h2
 ·rename_i hx
  obtain ⟨h3, h4⟩ := h2
  obtain ⟨r', h5, h6, h7⟩ := wp_sound hC hm b _ _ _ hb h4
  split at h7
  ·rename_i j hj
   obtain ⟨x, fr₁, σ₁, lg₁⟩ := r
   obtain ⟨x', fr₃, σ₃, lg₃⟩ := r'
   simp only at hx h3 h5 h6 h7 hj
   subst hx
   exact ⟨_, _, _, DRound.of_code hg hn h1 h3 rfl h5 h6 hj, h7⟩
  ·exact h7.elim
 ·exact h2.elim
theorem midRW.mk {C : Cx} {p : PureTab P} {bt : Nat → List Nat} {l : Nat} {ts : List Value} {ps : Array Tmp} {a b : Code} {d : Nat} {K : AE → St → Log → Prop} {fr : Fr} {σ : St} {lg : Log} (h1 : σ.get l = some (loopOb .ready none ts ps a b d))
  (h2 : wp C p bt true b fr (σ.set l (loopOb .busy none ts ps a b d)) (endRW l ts ps a b d K lg)) : midRW C p bt l ts ps a b d K ⟨.norm, fr, σ, lg⟩ := ⟨h1, h2⟩
theorem endRW_norm {l : Nat} {ts : List Value} {ps : Array Tmp} {a b : Code} {d : Nat} {K : AE → St → Log → Prop} {fr : Fr} {σ : St} {lg lg' : Log} :
  endRW l ts ps a b d K lg ⟨.norm, fr, σ, lg'⟩ = (σ.get l = some (loopOb .busy none ts ps a b d) ∧ K (.ret (.bool true)) (σ.set l (loopOb .ready none ts ps a b d)) (lg ++ ([l] ++ (lg' ++ [l])))) := (rfl)
def rangeK (fr : Fr) (m : Nat) (ps : Array Tmp) (a b : Code) (Q : RR → Prop) (e : AE) (σ' : St) (lg : Log) : Prop :=
 match e with
 | .ret _ => ∃ st j x, σ'.get (m + 1) = some (loopOb st j fr.ts ps a b m) ∧ isBusy st = false ∧ pendingX j = some x ∧ Q ⟨x, { fr with ds := markOf m :: fr.ds }, σ'.set (m + 1) (loopOb .exhausted j fr.ts ps a b m), lg ++ [m + 1]⟩
 | .panic c => Q ⟨.panic c, { fr with ds := markOf m :: fr.ds }, σ', lg⟩
theorem rangeX.of {C : Cx} (hC : C.Ok P) {g : Operand} {ps : Array Tmp} {a b : Code} {fr : Fr} {σ : St} {Q : RR → Prop} {f : FuncId} {xs ys : List Value} (hev : ev fr.ts g = some (.func (.func f) ⟨xs⟩ ⟨ys⟩)) (hb : C.bodies f = true)
  (h : callX P f (xs ++ [.func (.yield (σ.next + 1)) #[] #[]] ++ ys) ((σ.new (.deferred false)).new (loopOb .ready none fr.ts ps a b σ.next)) (rangeK fr σ.next ps a b Q)) : rangeX P false g ps a b fr σ Q := by
 obtain ⟨e, σ', lg, hd, hk⟩ := h
 have hone := Orc.one_call Orc.none f (xs ++ [.func (.yield (σ.next + 1)) #[] #[]] ++ ys) (rangeSt 0 ps a b fr.ts σ) (e, σ', lg)
 have hok : (Orc.none.one f (xs ++ [.func (.yield (σ.next + 1)) #[] #[]] ++ ys) (rangeSt 0 ps a b fr.ts σ) (e, σ', lg)).Ok P := Orc.one_ok Orc.none_ok hd
 cases e with
 | ret v =>
  obtain ⟨st, j, x, h1, h2, h3, h4⟩ := hk
  refine ⟨_, DC.rangeFunc hC hok (me := 0) (r := _) ?_, h4⟩
  unfold rangeR
  rw [hev]
  simp only [hb, hone, rangeEnd, h1, loopOb, rangeFin, h2, h3]
 | panic c =>
  refine ⟨_, DC.rangeFunc hC hok (me := 0) (r := _) ?_, hk⟩
  unfold rangeR
  rw [hev]
  simp only [hb, hone, rangeEnd]
theorem leaveX.collected {fn : Func} {ts : List Value} {ds : List Deferred} {r : Nat} {u : AM} {σ : St} {K : AE → St → Log → Prop} (hr : σ.get r = some (.deferred false)) (h : leaveX P fn ts ds u (σ.set r (.deferred true)) (preK [r] K)) : leaveX P fn ts (markOf r :: ds) u σ K := by
 obtain ⟨e, σ', l, h1, h2⟩ := h
 exact ⟨_, _, _, DLeave.collected hr h1, h2⟩
structure Hide (p : Prop) : Prop where
 out : p
theorem callX.hid {f : FuncId} {args : List Value} {σ : St} {v : Value} {R : St → Log → Prop} {K : AE → St → Log → Prop} (h : callX Try.prog f args σ fun e σ' l => e = .ret v ∧ R σ' l) (k : ∀ σ' l, Logged σ σ' l → R σ' l → Hide (K (.ret v) σ' l)) : callX Try.prog f args σ K :=
 callX.ret h fun σ' l h1 h2 => (k σ' l h1 h2).out
theorem roundX.hid {y : Nat} {args : List Value} {σ : St} {v : Value} {R : St → Log → Prop} {K : AE → St → Log → Prop} (h : roundX Try.prog y args σ fun e σ' l => e = .ret v ∧ R σ' l) (k : ∀ σ' l, Logged σ σ' l → R σ' l → Hide (K (.ret v) σ' l)) : roundX Try.prog y args σ K := by
 obtain ⟨e, σ', l, d, rfl, hr⟩ := h
 exact ⟨_, _, _, d, (k σ' l d.1 hr).out⟩
theorem callX.hidE {f : FuncId} {args : List Value} {σ : St} {R : AE → St → Log → Prop} {K : AE → St → Log → Prop} (h : callX Try.prog f args σ R) (k : ∀ e σ' l, Logged σ σ' l → R e σ' l → Hide (K e σ' l)) : callX Try.prog f args σ K :=
 callX.use h fun e σ' l h1 h2 => (k e σ' l h1 h2).out
attribute [go_sem] endRW_norm
end Go.Ab
namespace Go.Ab
open Go.Proofs
end Go.Ab
namespace Go.Ab
open Go.Proofs
end Go.Ab
namespace Go.Ab
open Go.Proofs
end Go.Ab
namespace Go.Ab
open Go.Proofs
noncomputable def cE : Cx := withExt (cP Try.prog) extAt
theorem cE_ok : cE.Ok Try.prog := withExt_ok cP_ok extAt_ok
theorem cE_und (t : TypeId) : cE.T.und t = (cP Try.prog).T.und t := withExt_und _ _ t
theorem cE_info (t : TypeId) : cE.T.info t = (cP Try.prog).T.info t := withExt_info _ _ t
theorem cE_flat (t : TypeId) : cE.T.flat t = (cP Try.prog).T.flat t := withExt_flat _ _ t
theorem cE_bodies (g : FuncId) : cE.bodies g = (cP Try.prog).bodies g := withExt_bodies _ _ g
end Go.Ab
namespace Go.Ab
open Go.Proofs
end Go.Ab
namespace Go.Ab
open Go.Proofs
theorem body161 : (cP Try.prog).bodies 161 = true := cx_bodies Try.func161 (by kernel_rfl)
theorem body162 : (cP Try.prog).bodies 162 = true := cx_bodies Try.func162 (by kernel_rfl)
theorem body163 : (cP Try.prog).bodies 163 = true := cx_bodies Try.func163 (by kernel_rfl)
theorem body164 : (cP Try.prog).bodies 164 = true := cx_bodies Try.func164 (by kernel_rfl)
theorem body165 : (cP Try.prog).bodies 165 = true := cx_bodies Try.func165 (by kernel_rfl)
theorem body166 : (cP Try.prog).bodies 166 = true := cx_bodies Try.func166 (by kernel_rfl)
attribute [go_sem] callW q0 lget_put lgetq_put List.length_set Try.underlying2 info2 Try.t2 Try.underlying3 info3 Try.t3 Try.underlying4 info4 Try.t4 Try.underlying5 info5 Try.t5 Try.underlying9 info9 Try.t9 Try.underlying24 info24 Try.t24 Try.underlying23 info23 Try.t23 Try.underlying30 info30 Try.t30 Try.underlying31 info31 Try.t31 Try.underlying37 info37 Try.t37 Try.underlying91 info91 Try.t91 Try.underlying102 info102 Try.t102 Try.underlying115 info115 Try.t115 Try.underlying148 info148 Try.t148 Try.underlying154 info154 Try.t154 Try.underlying216 info216 Try.t216 Try.underlying221 info221 Try.t221 Try.underlying222 info222 Try.t222 Try.underlying228 info228 Try.t228 Try.underlying232 info232 Try.t232 Try.underlying234 info234 Try.t234 Try.underlying235 info235 Try.t235
end Go.Ab
namespace Go.Ab
open Go.Proofs
instance : Inhabited Item := ⟨⟨0, 0, 0, 0⟩⟩
theorem arr_get {d : Array Item} {i : Nat} (h : i < d.size) : d.toList[i]? = some d[i]! := by
 rw [getElem!_pos d i h, Array.getElem?_toList, Array.getElem?_eq_getElem h]
theorem arr_at {d : Array Item} {G : List Value} {i : Nat} (h : i < d.size) : ((cellsL d.toList ++ G).drop (i * 4)).take 4 = d[i]!.cells := cells_at (arr_get h)
theorem arr_over {d : Array Item} {G : List Value} {i : Nat} (x : Item) (h : i < d.size) : over (cellsL d.toList ++ G) (i * 4) x.cells = cellsL (d.setIfInBounds i x).toList ++ G := by
 rw [over_at (L := d.toList) x (by simpa using h)]
 simp
theorem arr_len {d : Array Item} {G : List Value} : (cellsL d.toList ++ G).length = 4 * d.size + G.length := by
 rw [List.length_append, cellsL_length]; simp
structure Base (σ0 : St) (a : Nat) (σ : St) : Prop where
 nx : σ0.next ≤ σ.next
 get : ∀ c, c < σ0.next → c ≠ a → σ.get c = σ0.get c
theorem Base.set {σ0 : St} {a : Nat} {σ : St} (h : Base σ0 a σ) (o : AObj) : Base σ0 a (σ.set a o) := ⟨h.nx, fun c h1 h2 => by rw [St.get_set, if_neg (Ne.symm h2)]; exact h.get c h1 h2⟩
theorem Base.new {σ0 : St} {a : Nat} {σ : St} (h : Base σ0 a σ) (o : AObj) : Base σ0 a (σ.new o) := ⟨by rw [St.next_new]; have := h.nx; omega, fun c h1 h2 => by rw [St.get_new, if_neg (by have := h.nx; omega)]; exact h.get c h1 h2⟩
structure CmpOk (σ0 : St) (a : Nat) (g : FuncId) (ys : List Value) (lt : Item → Item → Bool) (p : Item → Prop) : Prop where
 body : (cP Try.prog).bodies g = true
 call : ∀ σ, Base σ0 a σ → ∀ x y, p x → p y → ∃ r : Int, DCall Try.prog g (.agg ⟨x.cells⟩ :: .agg ⟨y.cells⟩ :: ys) σ (.ret (.int .i64 r)) σ [] ∧ decide (r < 0) = lt x y
structure SAt (σ0 : St) (a : Nat) (d : Array Item) (G : List Value) (p : Item → Prop) (σ : St) : Prop where
 base : Base σ0 a σ
 get : σ.get a = some (.cells (cellsL d.toList ++ G) false)
 lt : a < σ0.next
 all : ∀ i, i < d.size → p d[i]!
 small : d.size < 1000000
theorem swp_size {d : Array Item} {i j : Nat} : (Sort.swp d i j).size = d.size := by simp [Sort.swp]
theorem swp_all {d : Array Item} {p : Item → Prop} {i j : Nat} (hi : i < d.size) (hj : j < d.size) (h : ∀ i, i < d.size → p d[i]!) : ∀ k, k < (Sort.swp d i j).size → p (Sort.swp d i j)[k]! := fun k hk => by
 rw [swp_size] at hk
 by_cases e1 : k = j
 ·rw [e1, Sort.swp_right d i j hj]; exact h i hi
 ·by_cases e2 : k = i
  ·rw [e2, Sort.swp_left d i j hi (fun e => e1 (e2.trans e))]; exact h j hj
  ·rw [Sort.swp_other d i j k e2 e1]; exact h k hk
theorem SAt.swp {σ0 : St} {a : Nat} {d : Array Item} {G : List Value} {p : Item → Prop} {σ : St} (h : SAt σ0 a d G p σ) {i j : Nat} (hi : i < d.size) (hj : j < d.size) (o : AObj) :
  SAt σ0 a (Sort.swp d i j) G p ((σ.set a o).set a (.cells (cellsL ((d.setIfInBounds i d[j]!).setIfInBounds j d[i]!).toList ++ G) false)) :=
 ⟨(h.base.set _).set _, by rw [St.get_set, if_pos rfl]; rfl, h.lt, swp_all hi hj h.all, by rw [swp_size]; exact h.small⟩
def sliceS (a : Nat) (s : Nat) (n cap : Nat) : Value := .slice (some ⟨a, 0, some s⟩) n cap
end Go.Ab
namespace Go.Ab
open Go.Proofs
noncomputable def insOutB : Code := loopOf (Try.f151.body.getD .skip)
structure FI (ts : List Value) (dv cv : Value) (a b i : Nat) : Prop where
 size : ts.length = 53
 t0 : lget ts 0 = dv
 t1 : lget ts 1 = .int .i64 a
 t2 : lget ts 2 = .int .i64 b
 t3 : lget ts 3 = cv
 t8 : lget ts 8 = .int .i64 i
section
variable {σ0 : St} {k s n cap : Nat} {g : FuncId} {ys : List Value} {lt : Item → Item → Bool} {p : Item → Prop} {G : List Value}
def IIn (σ0 : St) (k s n cap : Nat) (g : FuncId) (ys : List Value) (lt : Item → Item → Bool) (p : Item → Prop) (G : List Value) (a b i : Nat) (D : Array Item) (m : Nat) (fr : Fr) (σ : St) : Prop :=
 ∃ ts d, fr = ⟨ts, []⟩ ∧ FI ts (sliceS k s n cap) (.func (.func g) ⟨[]⟩ ⟨ys⟩) a b i ∧ lget ts 9 = .int .i64 (m : Nat) ∧ m ≤ i ∧ SAt σ0 k d G p σ ∧ d.size = n ∧ Sort.insInner lt a m d = D
def EIn (σ0 : St) (k s n cap : Nat) (g : FuncId) (ys : List Value) (p : Item → Prop) (G : List Value) (a b i : Nat) (D : Array Item) (x : AX) (fr : Fr) (σ : St) : Prop :=
 x = .exit 2 ∧ ∃ ts, fr = ⟨ts, []⟩ ∧ FI ts (sliceS k s n cap) (.func (.func g) ⟨[]⟩ ⟨ys⟩) a b i ∧ SAt σ0 k D G p σ ∧ D.size = n
noncomputable def insInB : Code := loopOf (nthC 1 (blockOf (nthC 1 insOutB)))
set_option maxHeartbeats 1600000 in
set_option maxRecDepth 20000 in
theorem ins_in (hc : CmpOk σ0 k g ys lt p) {a b i : Nat} (hib : i < b) (hbn : b ≤ n) {D : Array Item} : ∀ m fr σ, IIn σ0 k s n cap g ys lt p G a b i D m fr σ → loopX Try.prog false insInB fr σ (endL (EIn σ0 k s n cap g ys p G a b i D) fun z => z = k ∨ σ0.next ≤ z) := by
 refine loop_ind q0 151 (by kernel_rfl) _ _ _ ?_
 rintro m fr σ ⟨ts, d, rfl, F, h9, hmi, H, hdn, hD⟩
 have e0 := F.t0
 have e1 := F.t1
 have e2 := F.t2
 have e3 := F.t3
 have e8 := F.t8
 have el := F.size
 simp only [sliceS] at e0
 by_cases ha : a < m
 ·obtain ⟨j, rfl⟩ : ∃ j, m = j + 1 := ⟨m - 1, by omega⟩
  obtain ⟨r, hd, hr⟩ := hc.call σ H.base d[j + 1]! d[j]! (H.all _ (by omega)) (H.all _ (by omega))
  have hb := hc.body
  have g1 := H.get
  have x1 := arr_at (d := d) (G := G) (i := j + 1) (by omega)
  have x2 := arr_at (d := d) (G := G) (i := j) (by omega)
  have l1 : (j + 1) * 4 + 4 ≤ (cellsL d.toList ++ G).length := by rw [arr_len]; omega
  have l2 : j * 4 + 4 ≤ (cellsL d.toList ++ G).length := by rw [arr_len]; omega
  have c0 : (a : Int) < ((j + 1 : Nat) : Int) := by omega
  have c1 : (0 : Int) ≤ ((j + 1 : Nat) : Int) := by omega
  have c2 : ((j + 1 : Nat) : Int) < (n : Int) := by omega
  have c3 : (0 : Int) ≤ (j : Int) := by omega
  have c4 : (j : Int) < (n : Int) := by omega
  have w1 : IntKind.i64.wrap (((j + 1 : Nat) : Int) - 1) = (j : Int) := by
   have : ((j + 1 : Nat) : Int) - 1 = (j : Int) := by omega
   rw [this]; exact wrapIN (by have := H.small; omega)
  have nk : ¬ σ.next ≤ k := by have := H.lt; have := H.base.nx; omega
  simp only [Item.cells] at x1 x2
  have o1 := arr_over (d := d) (G := G) (i := j + 1) d[j]! (by omega)
  have o2 := arr_over (d := d.setIfInBounds (j + 1) d[j]!) (G := G) (i := j) d[j + 1]! (by simp; omega)
  have l3 : j * 4 + 4 ≤ (cellsL (d.setIfInBounds (j + 1) d[j]!).toList ++ G).length := by rw [arr_len]; simp; omega
  simp only [Item.cells] at o1 o2
  by_cases hr0 : r < 0
  ·simp only [go_sem, seval, if_pos rfl, opLen, undef, insInB, insOutB, blockOf, nthC, loopOf, Try.f151, Option.getD, Int.toNat_natCast, e0, e1, e2, e3, e8, el, h9, g1, hb, x1, x2, l1, l2, l3, o1, o2, c0, c1, c2, c3, c4, w1, nk]
   refine .of hd ?_
   simp only [go_sem, seval, if_pos rfl, opLen, undef, insInB, insOutB, blockOf, nthC, loopOf, Try.f151, Option.getD, Int.toNat_natCast, e0, e1, e2, e3, e8, el, h9, g1, hb, x1, x2, l1, l2, l3, o1, o2, c0, c1, c2, c3, c4, w1, nk, hr0]
   have hlt : lt d[j + 1]! d[j]! = true := by rw [← hr]; simp [hr0]
   refine ⟨.inl trivial, j, by omega, _, Sort.swp d (j + 1) j, rfl, ⟨by simp only [List.length_set, el], by simp only [go_sem, seval, if_pos rfl, opLen, el, e0] <;> rfl, by simp only [go_sem, seval, if_pos rfl, opLen, el, e1], by simp only [go_sem, seval, if_pos rfl, opLen, el, e2], by simp only [go_sem, seval, if_pos rfl, opLen, el, e3], by simp only [go_sem, seval, if_pos rfl, opLen, el, e8]⟩, by simp only [go_sem, seval, if_pos rfl, opLen, el], by omega, H.swp (by omega) (by omega) _, by rw [swp_size]; exact hdn, ?_⟩
   rw [← hD]
   simp only [Sort.insInner]
   rw [if_pos]
   simp [hlt, ha]
  ·simp only [go_sem, seval, if_pos rfl, opLen, undef, insInB, insOutB, blockOf, nthC, loopOf, Try.f151, Option.getD, Int.toNat_natCast, e0, e1, e2, e3, e8, el, h9, g1, hb, x1, x2, l1, l2, l3, o1, o2, c0, c1, c2, c3, c4, w1, nk]
   refine .of hd ?_
   simp only [go_sem, seval, if_pos rfl, opLen, undef, insInB, insOutB, blockOf, nthC, loopOf, Try.f151, Option.getD, Int.toNat_natCast, e0, e1, e2, e3, e8, el, h9, g1, hb, x1, x2, l1, l2, l3, o1, o2, c0, c1, c2, c3, c4, w1, nk, hr0]
   have hlt : lt d[j + 1]! d[j]! = false := by rw [← hr]; simp [hr0]
   have hDd : D = d := by
    rw [← hD]
    simp only [Sort.insInner]
    rw [if_neg]
    simp [hlt]
   exact ⟨rfl, _, rfl, ⟨by simp only [List.length_set, el], by simp only [go_sem, seval, if_pos rfl, opLen, el, e0] <;> rfl, by simp only [go_sem, seval, if_pos rfl, opLen, el, e1], by simp only [go_sem, seval, if_pos rfl, opLen, el, e2], by simp only [go_sem, seval, if_pos rfl, opLen, el, e3], by simp only [go_sem, seval, if_pos rfl, opLen, el, e8]⟩, hDd ▸ H, hDd ▸ hdn⟩
 ·have c0 : ¬ (a : Int) < ((m : Nat) : Int) := by omega
  have hDd : D = d := by
   rw [← hD]
   cases m with
   | zero => rfl
   | succ j =>
    simp only [Sort.insInner]
    rw [if_neg]
    simp
    intro h; omega
  simp only [go_sem, seval, if_pos rfl, opLen, undef, insInB, insOutB, blockOf, nthC, loopOf, Try.f151, Option.getD, Int.toNat_natCast, e0, e1, e2, e3, e8, el, h9, c0]
  exact ⟨rfl, _, rfl, ⟨by simp only [List.length_set, el], by simp only [go_sem, seval, if_pos rfl, opLen, el, e0] <;> rfl, by simp only [go_sem, seval, if_pos rfl, opLen, el, e1], by simp only [go_sem, seval, if_pos rfl, opLen, el, e2], by simp only [go_sem, seval, if_pos rfl, opLen, el, e3], by simp only [go_sem, seval, if_pos rfl, opLen, el, e8]⟩, hDd ▸ H, hDd ▸ hdn⟩
def IOut (σ0 : St) (k s n cap : Nat) (g : FuncId) (ys : List Value) (lt : Item → Item → Bool) (p : Item → Prop) (G : List Value) (a b : Nat) (D : Array Item) (m : Nat) (fr : Fr) (σ : St) : Prop :=
 ∃ ts d, ∃ i : Nat, fr = ⟨ts, []⟩ ∧ FI ts (sliceS k s n cap) (.func (.func g) ⟨[]⟩ ⟨ys⟩) a b i ∧ m = b - i ∧ SAt σ0 k d G p σ ∧ d.size = n ∧ Sort.insOuter lt a b i d = D
def EOut (σ0 : St) (k : Nat) (p : Item → Prop) (G : List Value) (D : Array Item) (x : AX) (fr : Fr) (σ : St) : Prop :=
 x = .exit 0 ∧ fr.ds = [] ∧ SAt σ0 k D G p σ
set_option maxHeartbeats 1600000 in
set_option maxRecDepth 20000 in
theorem ins_out (hc : CmpOk σ0 k g ys lt p) {a b : Nat} (hbn : b ≤ n) (hn : n < 1000000) {D : Array Item} : ∀ m fr σ, IOut σ0 k s n cap g ys lt p G a b D m fr σ → loopX Try.prog false insOutB fr σ (endL (EOut σ0 k p G D) fun z => z = k ∨ σ0.next ≤ z) := by
 refine loop_ind q0 151 (by kernel_rfl) _ _ _ ?_
 rintro m fr σ ⟨ts, d, i, rfl, F, hm, H, hdn, hD⟩
 have e0 := F.t0
 have e1 := F.t1
 have e2 := F.t2
 have e3 := F.t3
 have e8 := F.t8
 have el := F.size
 by_cases hi : i < b
 ·have c0 : (i : Int) < (b : Int) := by omega
  have w1 : IntKind.i64.wrap ((i : Int) + 1) = ((i + 1 : Nat) : Int) := by
   have : (i : Int) + 1 = ((i + 1 : Nat) : Int) := by omega
   rw [this]; exact wrapIN (by omega)
  simp only [go_sem, seval, if_pos rfl, opLen, undef, insOutB, loopOf, Try.f151, Option.getD, e0, e1, e2, e3, e8, el, c0]
  refine loop_then (ins_in (s := s) (n := n) (cap := cap) (G := G) hc (a := a) (b := b) (i := i) hi hbn (D := Sort.insInner lt a i d) i _ _ ⟨_, d, rfl, ⟨by simp only [List.length_set, el], by simp only [go_sem, seval, if_pos rfl, opLen, el, e0] <;> rfl, by simp only [go_sem, seval, if_pos rfl, opLen, el, e1], by simp only [go_sem, seval, if_pos rfl, opLen, el, e2], by simp only [go_sem, seval, if_pos rfl, opLen, el, e3], by simp only [go_sem, seval, if_pos rfl, opLen, el, e8]⟩, by simp only [go_sem, seval, if_pos rfl, opLen, el], Nat.le_refl _, H, hdn, rfl⟩) ?_
  intro x fr' σ' lg hlg hB h
  obtain ⟨rfl, ts', rfl, F', H', hs'⟩ := h
  have f0 := F'.t0
  have f1 := F'.t1
  have f2 := F'.t2
  have f3 := F'.t3
  have f8 := F'.t8
  have fl := F'.size
  simp only [go_sem, seval, if_pos rfl, opLen, undef, f0, f1, f2, f3, f8, fl, w1]
  refine ⟨hB, b - (i + 1), by omega, _, _, i + 1, rfl, ⟨by simp only [List.length_set, fl], by simp only [go_sem, seval, if_pos rfl, opLen, fl, f0] <;> rfl, by simp only [go_sem, seval, if_pos rfl, opLen, fl, f1], by simp only [go_sem, seval, if_pos rfl, opLen, fl, f2], by simp only [go_sem, seval, if_pos rfl, opLen, fl, f3], by simp only [go_sem, seval, if_pos rfl, opLen, fl, f8]⟩, rfl, H', hs', ?_⟩
  rw [← hD, Sort.insOuter.eq_def lt a b i d, if_pos hi]
 ·have c0 : ¬ (i : Int) < (b : Int) := by omega
  simp only [go_sem, seval, if_pos rfl, opLen, undef, insOutB, loopOf, Try.f151, Option.getD, e0, e1, e2, e3, e8, el, c0]
  have hDd : D = d := by rw [← hD, Sort.insOuter.eq_def lt a b i d, if_neg hi]
  exact ⟨rfl, rfl, hDd ▸ H⟩
def SortR (σ0 : St) (k : Nat) (G : List Value) (p : Item → Prop) (D : Array Item) (σ' : St) (lg : Log) : Prop := (∀ z ∈ lg, z = k ∨ σ0.next ≤ z) ∧ SAt σ0 k D G p σ'
theorem ins_call (hc : CmpOk σ0 k g ys lt p) {a b : Nat} {d : Array Item} {σ : St} (H : SAt σ0 k d G p σ) (hab : a ≤ b) (hbn : b ≤ d.size) :
  callX Try.prog 151 [sliceS k s d.size cap, .int .i64 a, .int .i64 b, .func (.func g) ⟨[]⟩ ⟨ys⟩] σ fun e σ' lg => e = .ret (.tuple ⟨[]⟩) ∧ SortR σ0 k G p (Sort.insertionSort lt d a b) σ' lg := by
 have w1 : IntKind.i64.wrap ((a : Int) + 1) = ((a + 1 : Nat) : Int) := by
  have : (a : Int) + 1 = ((a + 1 : Nat) : Int) := by omega
  rw [this]; exact wrapIN (by have := H.small; omega)
 refine enter (p := q0) Try.func151 rfl stat151 ?_
 simp only [go_sem, seval, if_pos rfl, opLen, undef, sliceS, Try.f151, w1]
 refine loop_then (ins_out (s := s) (n := d.size) (cap := cap) (G := G) hc (a := a) (b := b) hbn H.small (D := Sort.insertionSort lt d a b) _ _ _ ⟨_, d, a + 1, rfl, ⟨rfl, rfl, rfl, rfl, rfl, rfl⟩, rfl, H, rfl, rfl⟩) ?_
 intro x fr' σ' lg hlg hB h
 obtain ⟨rfl, hds, H'⟩ := h
 obtain ⟨ts', ds'⟩ := fr'
 simp only at hds
 subst hds
 simp only [go_sem, seval, if_pos rfl, opLen]
 exact ⟨hB, H'⟩
end
end Go.Ab
namespace Go.Ab
open Go.Proofs
noncomputable def siftB : Code := loopOf (Try.f161.body.getD .skip)
structure FD (ts : List Value) (dv cv : Value) (hi first root : Nat) : Prop where
 size : ts.length = 82
 t0 : lget ts 0 = dv
 t2 : lget ts 2 = .int .i64 hi
 t3 : lget ts 3 = .int .i64 first
 t4 : lget ts 4 = cv
 t10 : lget ts 10 = .int .i64 root
section
variable {σ0 : St} {k s n cap : Nat} {g : FuncId} {ys : List Value} {lt : Item → Item → Bool} {p : Item → Prop} {G : List Value}
def IDn (σ0 : St) (k s n cap : Nat) (g : FuncId) (ys : List Value) (lt : Item → Item → Bool) (p : Item → Prop) (G : List Value) (hi first : Nat) (D : Array Item) (m : Nat) (fr : Fr) (σ : St) : Prop :=
 ∃ ts d, ∃ root : Nat, fr = ⟨ts, []⟩ ∧ FD ts (sliceS k s n cap) (.func (.func g) ⟨[]⟩ ⟨ys⟩) hi first root ∧ m = hi - root ∧ root < 1000000 ∧ SAt σ0 k d G p σ ∧ d.size = n ∧ Sort.siftDown lt hi first root d = D
def EDn (σ0 : St) (k : Nat) (p : Item → Prop) (G : List Value) (D : Array Item) (x : AX) (fr : Fr) (σ : St) : Prop :=
 (x = .exit 0 ∨ x = .ret) ∧ fr.ds = [] ∧ SAt σ0 k D G p σ
set_option maxHeartbeats 6400000 in
set_option maxRecDepth 20000 in
theorem sift_loop (hc : CmpOk σ0 k g ys lt p) {hi first : Nat} (hn : first + hi ≤ n) {D : Array Item} : ∀ m fr σ, IDn σ0 k s n cap g ys lt p G hi first D m fr σ → loopX Try.prog false siftB fr σ (endL (EDn σ0 k p G D) fun z => z = k ∨ σ0.next ≤ z) := by
 refine loop_ind q0 161 (by kernel_rfl) _ _ _ ?_
 rintro m fr σ ⟨ts, d, root, rfl, F, hm, hrt, H, hdn, hD⟩
 have e0 := F.t0
 have e2 := F.t2
 have e3 := F.t3
 have e4 := F.t4
 have e10 := F.t10
 have el := F.size
 have hsm := H.small
 have hb := hc.body
 have g1 := H.get
 have nk : ¬ σ.next ≤ k := by have := H.lt; have := H.base.nx; omega
 have w1 : IntKind.i64.wrap (2 * (root : Int)) = ((2 * root : Nat) : Int) := by
  have : 2 * (root : Int) = ((2 * root : Nat) : Int) := by omega
  rw [this]; exact wrapIN (by omega)
 have w2 : IntKind.i64.wrap (((2 * root : Nat) : Int) + 1) = ((2 * root + 1 : Nat) : Int) := by
  have : ((2 * root : Nat) : Int) + 1 = ((2 * root + 1 : Nat) : Int) := by omega
  rw [this]; exact wrapIN (by omega)
 have w3 : IntKind.i64.wrap (((2 * root + 1 : Nat) : Int) + 1) = ((2 * root + 2 : Nat) : Int) := by
  have : ((2 * root + 1 : Nat) : Int) + 1 = ((2 * root + 2 : Nat) : Int) := by omega
  rw [this]; exact wrapIN (by omega)
 simp only [sliceS] at e0
 by_cases h1 : hi ≤ 2 * root + 1
 ·have c0 : (hi : Int) ≤ ((2 * root + 1 : Nat) : Int) := by omega
  have hDd : D = d := by rw [← hD, Sort.siftDown.eq_def lt hi first root d, dif_pos (by omega)]
  simp only [go_sem, seval, if_pos rfl, opLen, undef, siftB, loopOf, Try.f161, Option.getD, e0, e2, e3, e4, e10, el, w1, w2, c0]
  exact ⟨.inl rfl, rfl, hDd ▸ H⟩
 have c0 : ¬ (hi : Int) ≤ ((2 * root + 1 : Nat) : Int) := by omega
 have hA : first + root < d.size := by omega
 have hB : first + (2 * root + 1) < d.size := by omega
 have wA : IntKind.i64.wrap ((first : Int) + (root : Int)) = ((first + root : Nat) : Int) := by
  have : (first : Int) + (root : Int) = ((first + root : Nat) : Int) := by omega
  rw [this]; exact wrapIN (by omega)
 have wB : IntKind.i64.wrap ((first : Int) + ((2 * root + 1 : Nat) : Int)) = ((first + (2 * root + 1) : Nat) : Int) := by
  have : (first : Int) + ((2 * root + 1 : Nat) : Int) = ((first + (2 * root + 1) : Nat) : Int) := by omega
  rw [this]; exact wrapIN (by omega)
 have wC : IntKind.i64.wrap ((first : Int) + ((2 * root + 2 : Nat) : Int)) = ((first + (2 * root + 2) : Nat) : Int) := by
  have : (first : Int) + ((2 * root + 2 : Nat) : Int) = ((first + (2 * root + 2) : Nat) : Int) := by omega
  rw [this]; exact wrapIN (by omega)
 have wD : IntKind.i64.wrap (((first + (2 * root + 1) : Nat) : Int) + 1) = ((first + (2 * root + 2) : Nat) : Int) := by
  have : ((first + (2 * root + 1) : Nat) : Int) + 1 = ((first + (2 * root + 2) : Nat) : Int) := by omega
  rw [this]; exact wrapIN (by omega)
 have pA : (0 : Int) ≤ ((first + root : Nat) : Int) := by omega
 have pB : (0 : Int) ≤ ((first + (2 * root + 1) : Nat) : Int) := by omega
 have pC : (0 : Int) ≤ ((first + (2 * root + 2) : Nat) : Int) := by omega
 have qA : ((first + root : Nat) : Int) < (n : Int) := by omega
 have qB : ((first + (2 * root + 1) : Nat) : Int) < (n : Int) := by omega
 have xA := arr_at (d := d) (G := G) (i := first + root) hA
 have xB := arr_at (d := d) (G := G) (i := first + (2 * root + 1)) hB
 have lA : (first + root) * 4 + 4 ≤ (cellsL d.toList ++ G).length := by rw [arr_len]; omega
 have lB : (first + (2 * root + 1)) * 4 + 4 ≤ (cellsL d.toList ++ G).length := by rw [arr_len]; omega
 simp only [Item.cells] at xA xB
 by_cases h2 : 2 * root + 2 < hi
 ·have c1 : ((2 * root + 2 : Nat) : Int) < (hi : Int) := by omega
  have hC : first + (2 * root + 2) < d.size := by omega
  have qC : ((first + (2 * root + 2) : Nat) : Int) < (n : Int) := by omega
  have xC := arr_at (d := d) (G := G) (i := first + (2 * root + 2)) hC
  have lC : (first + (2 * root + 2)) * 4 + 4 ≤ (cellsL d.toList ++ G).length := by rw [arr_len]; omega
  simp only [Item.cells] at xC
  obtain ⟨r1, hd1, hr1⟩ := hc.call σ H.base d[first + (2 * root + 1)]! d[first + (2 * root + 2)]! (H.all _ hB) (H.all _ hC)
  by_cases hr : r1 < 0
  ·obtain ⟨r2, hd2, hr2⟩ := hc.call σ H.base d[first + root]! d[first + (2 * root + 2)]! (H.all _ hA) (H.all _ hC)
   have o1 := arr_over (d := d) (G := G) (i := first + root) d[first + (2 * root + 2)]! hA
   have o2 := arr_over (d := d.setIfInBounds (first + root) d[first + (2 * root + 2)]!) (G := G) (i := first + (2 * root + 2)) d[first + root]! (by simp; omega)
   have l3 : (first + (2 * root + 2)) * 4 + 4 ≤ (cellsL (d.setIfInBounds (first + root) d[first + (2 * root + 2)]!).toList ++ G).length := by rw [arr_len]; simp; omega
   simp only [Item.cells] at o1 o2
   by_cases hr0 : r2 < 0
   ·simp only [go_sem, seval, if_pos rfl, opLen, undef, siftB, loopOf, Try.f161, Option.getD, Int.toNat_natCast, e0, e2, e3, e4, e10, el, hb, g1, nk, w1, w2, w3, wA, wB, wC, wD, pA, pB, pC, qA, qB, xA, xB, lA, lB, c0, o1, o2, l3, c1, qC, xC, lC, hr]
    refine .of hd1 ?_
    simp only [go_sem, seval, if_pos rfl, opLen, undef, siftB, loopOf, Try.f161, Option.getD, Int.toNat_natCast, e0, e2, e3, e4, e10, el, hb, g1, nk, w1, w2, w3, wA, wB, wC, wD, pA, pB, pC, qA, qB, xA, xB, lA, lB, c0, o1, o2, l3, c1, qC, xC, lC, hr]
    refine .of hd2 ?_
    simp only [go_sem, seval, if_pos rfl, opLen, undef, siftB, loopOf, Try.f161, Option.getD, Int.toNat_natCast, e0, e2, e3, e4, e10, el, hb, g1, nk, w1, w2, w3, wA, wB, wC, wD, pA, pB, pC, qA, qB, xA, xB, lA, lB, c0, o1, o2, l3, hr0, c1, qC, xC, lC, hr]
    have hlt2 : lt d[first + root]! d[first + (2 * root + 2)]! = true := by rw [← hr2]; simp [hr0]
    refine ⟨.inl trivial, hi - (2 * root + 2), by omega, _, Sort.swp d (first + root) (first + (2 * root + 2)), 2 * root + 2, rfl, ⟨by simp only [List.length_set, el], by simp only [go_sem, seval, if_pos rfl, opLen, el, e0] <;> rfl, by simp only [go_sem, seval, if_pos rfl, opLen, el, e2], by simp only [go_sem, seval, if_pos rfl, opLen, el, e3], by simp only [go_sem, seval, if_pos rfl, opLen, el, e4], by simp only [go_sem, seval, if_pos rfl, opLen, el]⟩, rfl, by omega, H.swp hA hC _, by rw [swp_size]; exact hdn, ?_⟩
    rw [← hD, Sort.siftDown.eq_def lt hi first root d, dif_neg (by omega)]
    have hlt1 : lt d[first + (2 * root + 1)]! d[first + (2 * root + 1) + 1]! = true := by show lt _ d[first + (2 * root + 2)]! = true; rw [← hr1]; simp [hr]
    rw [if_pos (by rw [hlt1]; simp; omega)]
    rw [if_neg (by simp [hlt2]), dif_pos h2]
   ·simp only [go_sem, seval, if_pos rfl, opLen, undef, siftB, loopOf, Try.f161, Option.getD, Int.toNat_natCast, e0, e2, e3, e4, e10, el, hb, g1, nk, w1, w2, w3, wA, wB, wC, wD, pA, pB, pC, qA, qB, xA, xB, lA, lB, c0, o1, o2, l3, c1, qC, xC, lC, hr]
    refine .of hd1 ?_
    simp only [go_sem, seval, if_pos rfl, opLen, undef, siftB, loopOf, Try.f161, Option.getD, Int.toNat_natCast, e0, e2, e3, e4, e10, el, hb, g1, nk, w1, w2, w3, wA, wB, wC, wD, pA, pB, pC, qA, qB, xA, xB, lA, lB, c0, o1, o2, l3, c1, qC, xC, lC, hr]
    refine .of hd2 ?_
    simp only [go_sem, seval, if_pos rfl, opLen, undef, siftB, loopOf, Try.f161, Option.getD, Int.toNat_natCast, e0, e2, e3, e4, e10, el, hb, g1, nk, w1, w2, w3, wA, wB, wC, wD, pA, pB, pC, qA, qB, xA, xB, lA, lB, c0, o1, o2, l3, hr0, c1, qC, xC, lC, hr]
    have hlt2 : lt d[first + root]! d[first + (2 * root + 2)]! = false := by rw [← hr2]; simp [hr0]
    have hDd : D = d := by
     rw [← hD, Sort.siftDown.eq_def lt hi first root d, dif_neg (by omega)]
     have hlt1 : lt d[first + (2 * root + 1)]! d[first + (2 * root + 1) + 1]! = true := by show lt _ d[first + (2 * root + 2)]! = true; rw [← hr1]; simp [hr]
     rw [if_pos (by rw [hlt1]; simp; omega)]
     rw [if_pos (by simp [hlt2])]
    exact ⟨.inr rfl, rfl, hDd ▸ H⟩
  ·obtain ⟨r2, hd2, hr2⟩ := hc.call σ H.base d[first + root]! d[first + (2 * root + 1)]! (H.all _ hA) (H.all _ hB)
   have o1 := arr_over (d := d) (G := G) (i := first + root) d[first + (2 * root + 1)]! hA
   have o2 := arr_over (d := d.setIfInBounds (first + root) d[first + (2 * root + 1)]!) (G := G) (i := first + (2 * root + 1)) d[first + root]! (by simp; omega)
   have l3 : (first + (2 * root + 1)) * 4 + 4 ≤ (cellsL (d.setIfInBounds (first + root) d[first + (2 * root + 1)]!).toList ++ G).length := by rw [arr_len]; simp; omega
   simp only [Item.cells] at o1 o2
   by_cases hr0 : r2 < 0
   ·simp only [go_sem, seval, if_pos rfl, opLen, undef, siftB, loopOf, Try.f161, Option.getD, Int.toNat_natCast, e0, e2, e3, e4, e10, el, hb, g1, nk, w1, w2, w3, wA, wB, wC, wD, pA, pB, pC, qA, qB, xA, xB, lA, lB, c0, o1, o2, l3, c1, qC, xC, lC, hr]
    refine .of hd1 ?_
    simp only [go_sem, seval, if_pos rfl, opLen, undef, siftB, loopOf, Try.f161, Option.getD, Int.toNat_natCast, e0, e2, e3, e4, e10, el, hb, g1, nk, w1, w2, w3, wA, wB, wC, wD, pA, pB, pC, qA, qB, xA, xB, lA, lB, c0, o1, o2, l3, c1, qC, xC, lC, hr]
    refine .of hd2 ?_
    simp only [go_sem, seval, if_pos rfl, opLen, undef, siftB, loopOf, Try.f161, Option.getD, Int.toNat_natCast, e0, e2, e3, e4, e10, el, hb, g1, nk, w1, w2, w3, wA, wB, wC, wD, pA, pB, pC, qA, qB, xA, xB, lA, lB, c0, o1, o2, l3, hr0, c1, qC, xC, lC, hr]
    have hlt2 : lt d[first + root]! d[first + (2 * root + 1)]! = true := by rw [← hr2]; simp [hr0]
    refine ⟨.inl trivial, hi - (2 * root + 1), by omega, _, Sort.swp d (first + root) (first + (2 * root + 1)), 2 * root + 1, rfl, ⟨by simp only [List.length_set, el], by simp only [go_sem, seval, if_pos rfl, opLen, el, e0] <;> rfl, by simp only [go_sem, seval, if_pos rfl, opLen, el, e2], by simp only [go_sem, seval, if_pos rfl, opLen, el, e3], by simp only [go_sem, seval, if_pos rfl, opLen, el, e4], by simp only [go_sem, seval, if_pos rfl, opLen, el]⟩, rfl, by omega, H.swp hA hB _, by rw [swp_size]; exact hdn, ?_⟩
    rw [← hD, Sort.siftDown.eq_def lt hi first root d, dif_neg (by omega)]
    have hlt1 : lt d[first + (2 * root + 1)]! d[first + (2 * root + 1) + 1]! = false := by show lt _ d[first + (2 * root + 2)]! = false; rw [← hr1]; simp [hr]
    rw [if_neg (by rw [hlt1]; simp)]
    rw [if_neg (by simp [hlt2])]
   ·simp only [go_sem, seval, if_pos rfl, opLen, undef, siftB, loopOf, Try.f161, Option.getD, Int.toNat_natCast, e0, e2, e3, e4, e10, el, hb, g1, nk, w1, w2, w3, wA, wB, wC, wD, pA, pB, pC, qA, qB, xA, xB, lA, lB, c0, o1, o2, l3, c1, qC, xC, lC, hr]
    refine .of hd1 ?_
    simp only [go_sem, seval, if_pos rfl, opLen, undef, siftB, loopOf, Try.f161, Option.getD, Int.toNat_natCast, e0, e2, e3, e4, e10, el, hb, g1, nk, w1, w2, w3, wA, wB, wC, wD, pA, pB, pC, qA, qB, xA, xB, lA, lB, c0, o1, o2, l3, c1, qC, xC, lC, hr]
    refine .of hd2 ?_
    simp only [go_sem, seval, if_pos rfl, opLen, undef, siftB, loopOf, Try.f161, Option.getD, Int.toNat_natCast, e0, e2, e3, e4, e10, el, hb, g1, nk, w1, w2, w3, wA, wB, wC, wD, pA, pB, pC, qA, qB, xA, xB, lA, lB, c0, o1, o2, l3, hr0, c1, qC, xC, lC, hr]
    have hlt2 : lt d[first + root]! d[first + (2 * root + 1)]! = false := by rw [← hr2]; simp [hr0]
    have hDd : D = d := by
     rw [← hD, Sort.siftDown.eq_def lt hi first root d, dif_neg (by omega)]
     have hlt1 : lt d[first + (2 * root + 1)]! d[first + (2 * root + 1) + 1]! = false := by show lt _ d[first + (2 * root + 2)]! = false; rw [← hr1]; simp [hr]
     rw [if_neg (by rw [hlt1]; simp)]
     rw [if_pos (by simp [hlt2])]
    exact ⟨.inr rfl, rfl, hDd ▸ H⟩
 ·have c1 : ¬ ((2 * root + 2 : Nat) : Int) < (hi : Int) := by omega
  obtain ⟨r2, hd2, hr2⟩ := hc.call σ H.base d[first + root]! d[first + (2 * root + 1)]! (H.all _ hA) (H.all _ hB)
  have o1 := arr_over (d := d) (G := G) (i := first + root) d[first + (2 * root + 1)]! hA
  have o2 := arr_over (d := d.setIfInBounds (first + root) d[first + (2 * root + 1)]!) (G := G) (i := first + (2 * root + 1)) d[first + root]! (by simp; omega)
  have l3 : (first + (2 * root + 1)) * 4 + 4 ≤ (cellsL (d.setIfInBounds (first + root) d[first + (2 * root + 1)]!).toList ++ G).length := by rw [arr_len]; simp; omega
  simp only [Item.cells] at o1 o2
  by_cases hr0 : r2 < 0
  ·simp only [go_sem, seval, if_pos rfl, opLen, undef, siftB, loopOf, Try.f161, Option.getD, Int.toNat_natCast, e0, e2, e3, e4, e10, el, hb, g1, nk, w1, w2, w3, wA, wB, wC, wD, pA, pB, pC, qA, qB, xA, xB, lA, lB, c0, o1, o2, l3, c1]
   refine .of hd2 ?_
   simp only [go_sem, seval, if_pos rfl, opLen, undef, siftB, loopOf, Try.f161, Option.getD, Int.toNat_natCast, e0, e2, e3, e4, e10, el, hb, g1, nk, w1, w2, w3, wA, wB, wC, wD, pA, pB, pC, qA, qB, xA, xB, lA, lB, c0, o1, o2, l3, hr0, c1]
   have hlt2 : lt d[first + root]! d[first + (2 * root + 1)]! = true := by rw [← hr2]; simp [hr0]
   refine ⟨.inl trivial, hi - (2 * root + 1), by omega, _, Sort.swp d (first + root) (first + (2 * root + 1)), 2 * root + 1, rfl, ⟨by simp only [List.length_set, el], by simp only [go_sem, seval, if_pos rfl, opLen, el, e0] <;> rfl, by simp only [go_sem, seval, if_pos rfl, opLen, el, e2], by simp only [go_sem, seval, if_pos rfl, opLen, el, e3], by simp only [go_sem, seval, if_pos rfl, opLen, el, e4], by simp only [go_sem, seval, if_pos rfl, opLen, el]⟩, rfl, by omega, H.swp hA hB _, by rw [swp_size]; exact hdn, ?_⟩
   rw [← hD, Sort.siftDown.eq_def lt hi first root d, dif_neg (by omega)]
   rw [if_neg (by simp; omega)]
   rw [if_neg (by simp [hlt2])]
  ·simp only [go_sem, seval, if_pos rfl, opLen, undef, siftB, loopOf, Try.f161, Option.getD, Int.toNat_natCast, e0, e2, e3, e4, e10, el, hb, g1, nk, w1, w2, w3, wA, wB, wC, wD, pA, pB, pC, qA, qB, xA, xB, lA, lB, c0, o1, o2, l3, c1]
   refine .of hd2 ?_
   simp only [go_sem, seval, if_pos rfl, opLen, undef, siftB, loopOf, Try.f161, Option.getD, Int.toNat_natCast, e0, e2, e3, e4, e10, el, hb, g1, nk, w1, w2, w3, wA, wB, wC, wD, pA, pB, pC, qA, qB, xA, xB, lA, lB, c0, o1, o2, l3, hr0, c1]
   have hlt2 : lt d[first + root]! d[first + (2 * root + 1)]! = false := by rw [← hr2]; simp [hr0]
   have hDd : D = d := by
    rw [← hD, Sort.siftDown.eq_def lt hi first root d, dif_neg (by omega)]
    rw [if_neg (by simp; omega)]
    rw [if_pos (by simp [hlt2])]
   exact ⟨.inr rfl, rfl, hDd ▸ H⟩
theorem sift_call (hc : CmpOk σ0 k g ys lt p) {lo hi first : Nat} {d : Array Item} {σ : St} (H : SAt σ0 k d G p σ) (hn : first + hi ≤ d.size) (hlo : lo < 1000000) :
  callX Try.prog 161 [sliceS k s d.size cap, .int .i64 lo, .int .i64 hi, .int .i64 first, .func (.func g) ⟨[]⟩ ⟨ys⟩] σ fun e σ' lg => e = .ret (.tuple ⟨[]⟩) ∧ SortR σ0 k G p (Sort.siftDown lt hi first lo d) σ' lg := by
 refine enter (p := q0) Try.func161 rfl stat161 ?_
 simp only [go_sem, seval, if_pos rfl, opLen, undef, sliceS, Try.f161]
 refine loop_then (sift_loop (s := s) (n := d.size) (cap := cap) (G := G) hc (hi := hi) (first := first) hn (D := Sort.siftDown lt hi first lo d) _ _ _ ⟨_, d, lo, rfl, ⟨rfl, rfl, rfl, rfl, rfl, rfl⟩, rfl, hlo, H, rfl, rfl⟩) ?_
 intro x fr' σ' lg hlg hB h
 obtain ⟨hx, hds, H'⟩ := h
 obtain ⟨ts', ds'⟩ := fr'
 simp only at hds
 subst hds
 rcases hx with rfl | rfl
 ·simp only [go_sem, seval, if_pos rfl, opLen]
  exact ⟨hB, H'⟩
 ·simp only [go_sem, seval, if_pos rfl, opLen]
  exact ⟨hB, H'⟩
end
end Go.Ab
namespace Go.Ab
open Go.Proofs
noncomputable def hpB1 : Code := loopOf (nthC 3 (Try.f152.body.getD .skip))
noncomputable def hpB2 : Code := loopOf (dropC 4 (Try.f152.body.getD .skip))
structure FH (ts : List Value) (dv cv : Value) (first hi : Nat) : Prop where
 size : ts.length = 60
 t0 : lget ts 0 = dv
 t3 : lget ts 3 = cv
 t8 : lget ts 8 = .int .i64 first
 t9 : lget ts 9 = .int .i64 0
 t10 : lget ts 10 = .int .i64 hi
section
variable {σ0 : St} {k s n cap : Nat} {g : FuncId} {ys : List Value} {lt : Item → Item → Bool} {p : Item → Prop} {G : List Value}
def IH1 (σ0 : St) (k s n cap : Nat) (g : FuncId) (ys : List Value) (lt : Item → Item → Bool) (p : Item → Prop) (G : List Value) (first hi : Nat) (D : Array Item) (m : Nat) (fr : Fr) (σ : St) : Prop :=
 ∃ ts d, fr = ⟨ts, []⟩ ∧ FH ts (sliceS k s n cap) (.func (.func g) ⟨[]⟩ ⟨ys⟩) first hi ∧ lget ts 11 = .int .i64 ((m : Int) - 1) ∧ m ≤ n + 1 ∧ SAt σ0 k d G p σ ∧ d.size = n ∧ Sort.heapBuild lt hi first m d = D
def EH1 (σ0 : St) (k s n cap : Nat) (g : FuncId) (ys : List Value) (p : Item → Prop) (G : List Value) (first hi : Nat) (D : Array Item) (x : AX) (fr : Fr) (σ : St) : Prop :=
 x = .exit 0 ∧ ∃ ts, fr = ⟨ts, []⟩ ∧ FH ts (sliceS k s n cap) (.func (.func g) ⟨[]⟩ ⟨ys⟩) first hi ∧ SAt σ0 k D G p σ ∧ D.size = n
def IH2 (σ0 : St) (k s n cap : Nat) (g : FuncId) (ys : List Value) (lt : Item → Item → Bool) (p : Item → Prop) (G : List Value) (first hi : Nat) (D : Array Item) (m : Nat) (fr : Fr) (σ : St) : Prop :=
 ∃ ts d, fr = ⟨ts, []⟩ ∧ FH ts (sliceS k s n cap) (.func (.func g) ⟨[]⟩ ⟨ys⟩) first hi ∧ lget ts 12 = .int .i64 ((m : Int) - 1) ∧ m ≤ hi ∧ SAt σ0 k d G p σ ∧ d.size = n ∧ Sort.heapPop lt first m d = D
def EH2 (σ0 : St) (k : Nat) (p : Item → Prop) (G : List Value) (D : Array Item) (x : AX) (fr : Fr) (σ : St) : Prop :=
 x = .exit 2 ∧ fr.ds = [] ∧ SAt σ0 k D G p σ
theorem sift_size {hi first : Nat} : ∀ (m root : Nat) (d : Array Item), hi - root ≤ m → (Sort.siftDown lt hi first root d).size = d.size := by
 intro m
 induction m with
 | zero =>
  intro root d h
  rw [Sort.siftDown.eq_def, dif_pos (by omega)]
 | succ m ih =>
  intro root d h
  rw [Sort.siftDown.eq_def]
  split
  ·rfl
  ·split
   ·split
    ·rfl
    ·split
     ·rw [ih _ _ (by omega), swp_size]
     ·rfl
   ·split
    ·rfl
    ·rw [ih _ _ (by omega), swp_size]
set_option maxHeartbeats 1600000 in
set_option maxRecDepth 20000 in
theorem hp_build (hc : CmpOk σ0 k g ys lt p) {first hi : Nat} (hn : first + hi ≤ n) (hsm : n < 500000) {D : Array Item} : ∀ m fr σ, IH1 σ0 k s n cap g ys lt p G first hi D m fr σ → loopX Try.prog false hpB1 fr σ (endL (EH1 σ0 k s n cap g ys p G first hi D) fun z => z = k ∨ σ0.next ≤ z) := by
 refine loop_ind q0 152 (by kernel_rfl) _ _ _ ?_
 rintro m fr σ ⟨ts, d, rfl, F, h11, hmn, H, hdn, hD⟩
 have e0 := F.t0
 have e3 := F.t3
 have e8 := F.t8
 have e9 := F.t9
 have e10 := F.t10
 have el := F.size
 cases m with
 | zero =>
  have c0 : ¬ (0 : Int) ≤ ((0 : Nat) : Int) - 1 := by omega
  simp only [Int.cast_ofNat_Int] at h11 c0
  simp only [go_sem, seval, if_pos rfl, opLen, undef, hpB1, nthC, loopOf, Try.f152, Option.getD, e0, e3, e8, e9, e10, el, h11, c0]
  exact ⟨rfl, _, rfl, ⟨by simp only [List.length_set, el], by simp only [go_sem, seval, if_pos rfl, opLen, el, e0], by simp only [go_sem, seval, if_pos rfl, opLen, el, e3], by simp only [go_sem, seval, if_pos rfl, opLen, el, e8], by simp only [go_sem, seval, if_pos rfl, opLen, el, e9], by simp only [go_sem, seval, if_pos rfl, opLen, el, e10]⟩, hD ▸ H, hD ▸ hdn⟩
 | succ i =>
  have ei : ((i + 1 : Nat) : Int) - 1 = (i : Int) := by omega
  rw [ei] at h11
  have c0 : (0 : Int) ≤ (i : Int) := by omega
  have w1 : IntKind.i64.wrap ((i : Int) - 1) = (i : Int) - 1 := wrapI (by omega) (by omega)
  simp only [go_sem, seval, if_pos rfl, opLen, undef, hpB1, nthC, loopOf, Try.f152, Option.getD, e0, e3, e8, e9, e10, el, h11, c0, body161]
  refine callX.hid (show callX Try.prog 161 [sliceS k s n cap, .int .i64 i, .int .i64 hi, .int .i64 first, .func (.func g) ⟨[]⟩ ⟨ys⟩] σ _ from hdn ▸ sift_call (s := s) (cap := cap) (G := G) hc (lo := i) (hi := hi) (first := first) H (by omega) (by omega)) ?_
  intro σ1 lg1 hlg1 hA
  obtain ⟨hB, H1⟩ := hA
  refine ⟨?_⟩
  simp only [go_sem, seval, if_pos rfl, opLen, undef, e0, e3, e8, e9, e10, el, h11, w1]
  refine ⟨hB, i, by omega, _, _, rfl, ⟨by simp only [List.length_set, el], by simp only [go_sem, seval, if_pos rfl, opLen, el, e0], by simp only [go_sem, seval, if_pos rfl, opLen, el, e3], by simp only [go_sem, seval, if_pos rfl, opLen, el, e8], by simp only [go_sem, seval, if_pos rfl, opLen, el, e9], by simp only [go_sem, seval, if_pos rfl, opLen, el, e10]⟩, by simp only [go_sem, seval, if_pos rfl, opLen, el], by omega, H1, by rw [sift_size _ _ _ (Nat.le_refl _)]; exact hdn, hD⟩
set_option maxHeartbeats 1600000 in
set_option maxRecDepth 20000 in
theorem hp_pop (hc : CmpOk σ0 k g ys lt p) {first hi : Nat} (hn : first + hi ≤ n) (hsm : n < 500000) {D : Array Item} : ∀ m fr σ, IH2 σ0 k s n cap g ys lt p G first hi D m fr σ → loopX Try.prog false hpB2 fr σ (endL (EH2 σ0 k p G D) fun z => z = k ∨ σ0.next ≤ z) := by
 refine loop_ind q0 152 (by kernel_rfl) _ _ _ ?_
 rintro m fr σ ⟨ts, d, rfl, F, h12, hmn, H, hdn, hD⟩
 have e0 := F.t0
 have e3 := F.t3
 have e8 := F.t8
 have e9 := F.t9
 have e10 := F.t10
 have el := F.size
 simp only [sliceS] at e0
 cases m with
 | zero =>
  have c0 : ¬ (0 : Int) ≤ ((0 : Nat) : Int) - 1 := by omega
  simp only [Int.cast_ofNat_Int] at h12 c0
  simp only [go_sem, seval, if_pos rfl, opLen, undef, hpB2, dropC, loopOf, Try.f152, Option.getD, e0, e3, e8, e9, e10, el, h12, c0]
  exact ⟨rfl, rfl, hD ▸ H⟩
 | succ i =>
  have ei : ((i + 1 : Nat) : Int) - 1 = (i : Int) := by omega
  rw [ei] at h12
  have hA : first < d.size := by omega
  have hB : first + i < d.size := by omega
  have c0 : (0 : Int) ≤ (i : Int) := by omega
  have c1 : (0 : Int) ≤ (first : Int) := by omega
  have c2 : (first : Int) < (n : Int) := by omega
  have c3 : (0 : Int) ≤ ((first + i : Nat) : Int) := by omega
  have c4 : ((first + i : Nat) : Int) < (n : Int) := by omega
  have w1 : IntKind.i64.wrap ((i : Int) - 1) = (i : Int) - 1 := wrapI (by omega) (by omega)
  have w2 : IntKind.i64.wrap ((first : Int) + (i : Int)) = ((first + i : Nat) : Int) := by
   have : (first : Int) + (i : Int) = ((first + i : Nat) : Int) := by omega
   rw [this]; exact wrapIN (by omega)
  have g1 := H.get
  have nk : ¬ σ.next ≤ k := by have := H.lt; have := H.base.nx; omega
  have x1 := arr_at (d := d) (G := G) (i := first) hA
  have x2 := arr_at (d := d) (G := G) (i := first + i) hB
  have l1 : first * 4 + 4 ≤ (cellsL d.toList ++ G).length := by rw [arr_len]; omega
  have l2 : (first + i) * 4 + 4 ≤ (cellsL d.toList ++ G).length := by rw [arr_len]; omega
  have o1 := arr_over (d := d) (G := G) (i := first) d[first + i]! hA
  have o2 := arr_over (d := d.setIfInBounds first d[first + i]!) (G := G) (i := first + i) d[first]! (by simp; omega)
  have l3 : (first + i) * 4 + 4 ≤ (cellsL (d.setIfInBounds first d[first + i]!).toList ++ G).length := by rw [arr_len]; simp; omega
  simp only [Item.cells] at x1 x2 o1 o2
  simp only [go_sem, seval, if_pos rfl, opLen, undef, hpB2, dropC, loopOf, Try.f152, Option.getD, Int.toNat_natCast, e0, e3, e8, e9, e10, el, h12, c0, c1, c2, c3, c4, w1, w2, g1, nk, x1, x2, l1, l2, l3, o1, o2, body161]
  have H1 := H.swp (i := first) (j := first + i) hA hB (.cells (cellsL (d.setIfInBounds first d[first + i]!).toList ++ G) false)
  have hs1 : (Sort.swp d first (first + i)).size = n := by rw [swp_size]; exact hdn
  refine callX.hid (show callX Try.prog 161 [sliceS k s n cap, .int .i64 (0 : Nat), .int .i64 i, .int .i64 first, .func (.func g) ⟨[]⟩ ⟨ys⟩] _ _ from hs1 ▸ sift_call (s := s) (cap := cap) (G := G) hc (lo := 0) (hi := i) (first := first) H1 (by rw [hs1]; omega) (by omega)) ?_
  intro σ1 lg1 hlg1 hA
  obtain ⟨hB, H2⟩ := hA
  refine ⟨?_⟩
  simp only [go_sem, seval, if_pos rfl, opLen, undef, e0, e3, e8, e9, e10, el, h12, w1]
  exact ⟨⟨.inl trivial, .inl trivial, hB⟩, i, by omega, _, _, rfl, ⟨by simp only [List.length_set, el], by simp only [go_sem, seval, if_pos rfl, opLen, el, e0] <;> rfl, by simp only [go_sem, seval, if_pos rfl, opLen, el, e3], by simp only [go_sem, seval, if_pos rfl, opLen, el, e8], by simp only [go_sem, seval, if_pos rfl, opLen, el, e9], by simp only [go_sem, seval, if_pos rfl, opLen, el, e10]⟩, by simp only [go_sem, seval, if_pos rfl, opLen, el], by omega, H2, by rw [sift_size _ _ _ (Nat.le_refl _)]; exact hs1, hD⟩
set_option maxHeartbeats 1600000 in
set_option maxRecDepth 20000 in
theorem heap_call (hc : CmpOk σ0 k g ys lt p) {a b : Nat} {d : Array Item} {σ : St} (H : SAt σ0 k d G p σ) (hab : a ≤ b) (hbn : b ≤ d.size) (hsm : d.size < 500000) :
  callX Try.prog 152 [sliceS k s d.size cap, .int .i64 a, .int .i64 b, .func (.func g) ⟨[]⟩ ⟨ys⟩] σ fun e σ' lg => e = .ret (.tuple ⟨[]⟩) ∧ SortR σ0 k G p (Sort.heapSort lt d a b) σ' lg := by
 have w1 : IntKind.i64.wrap ((b : Int) - (a : Int)) = ((b - a : Nat) : Int) := by
  have : (b : Int) - (a : Int) = ((b - a : Nat) : Int) := by omega
  rw [this]; exact wrapIN (by omega)
 have w2 : IntKind.i64.wrap (((b - a : Nat) : Int) - 1) = ((b - a : Nat) : Int) - 1 := wrapI (by omega) (by omega)
 have w3 : IntKind.i64.wrap ((((b - a : Nat) : Int) - 1).tdiv 2) = (((b - a - 1) / 2 + 1 : Nat) : Int) - 1 := by
  have e : (((b - a : Nat) : Int) - 1).tdiv 2 = (((b - a - 1) / 2 + 1 : Nat) : Int) - 1 := by
   by_cases h : b - a = 0
   ·rw [h]; decide
   ·rw [Int.tdiv_eq_ediv_of_nonneg (by omega)]; omega
  rw [e]; exact wrapI (by omega) (by omega)
 have nz : ¬ (2 : Int) = 0 := by decide
 refine enter (p := q0) Try.func152 rfl stat152 ?_
 simp only [go_sem, seval, if_pos rfl, opLen, undef, sliceS, Try.f152, w1, w2, w3, nz]
 refine loop_then (hp_build (s := s) (n := d.size) (cap := cap) (G := G) hc (first := a) (hi := b - a) (by omega) hsm (D := Sort.heapBuild lt (b - a) a ((b - a - 1) / 2 + 1) d) ((b - a - 1) / 2 + 1) _ _ ⟨_, d, rfl, ⟨rfl, rfl, rfl, rfl, rfl, rfl⟩, rfl, by omega, H, rfl, rfl⟩) ?_
 intro x fr' σ1 lg1 hlg1 hB1 h
 obtain ⟨rfl, ts, rfl, F, H1, hs1⟩ := h
 have e0 := F.t0
 have e3 := F.t3
 have e8 := F.t8
 have e9 := F.t9
 have e10 := F.t10
 have el := F.size
 simp only [go_sem, seval, if_pos rfl, opLen, undef, e0, e3, e8, e9, e10, el, w2]
 refine loop_then (hp_pop (s := s) (n := d.size) (cap := cap) (G := G) hc (first := a) (hi := b - a) (by omega) hsm (D := Sort.heapSort lt d a b) (b - a) _ _ ⟨_, _, rfl, ⟨by simp only [List.length_set, el], by simp only [go_sem, seval, if_pos rfl, opLen, el, e0], by simp only [go_sem, seval, if_pos rfl, opLen, el, e3], by simp only [go_sem, seval, if_pos rfl, opLen, el, e8], by simp only [go_sem, seval, if_pos rfl, opLen, el, e9], by simp only [go_sem, seval, if_pos rfl, opLen, el, e10]⟩, by simp only [go_sem, seval, if_pos rfl, opLen, el], Nat.le_refl _, H1, hs1, rfl⟩) ?_
 intro x fr' σ2 lg2 hlg2 hB2 h
 obtain ⟨rfl, hds, H2⟩ := h
 obtain ⟨ts', ds'⟩ := fr'
 simp only at hds
 subst hds
 simp only [go_sem, seval, if_pos rfl, opLen]
 exact ⟨fun z hz => (List.mem_append.1 hz).elim (hB1 z) (hB2 z), H2⟩
end
end Go.Ab
namespace Go.Ab
open Go.Proofs
structure FP (sz ti tj : Nat) (ts : List Value) (dv cv : Value) (a i j : Nat) : Prop where
 size : ts.length = sz
 t0 : lget ts 0 = dv
 t1 : lget ts 1 = .int .i64 a
 t4 : lget ts 4 = cv
 ti : lget ts ti = .int .i64 i
 tj : lget ts tj = .int .i64 j
def IScan (sz ti tj : Nat) (dv cv : Value) (a : Nat) (σs : St) (Q : Nat → Nat → Nat → Prop) (m : Nat) (fr : Fr) (σ : St) : Prop :=
 ∃ ts, ∃ i j : Nat, fr = ⟨ts, []⟩ ∧ FP sz ti tj ts dv cv a i j ∧ σ = σs ∧ Q m i j
def EScan (ex sz ti tj : Nat) (dv cv : Value) (a : Nat) (σs : St) (i j : Nat) (x : AX) (fr : Fr) (σ : St) : Prop :=
 x = .exit ex ∧ σ = σs ∧ ∃ ts, fr = ⟨ts, []⟩ ∧ FP sz ti tj ts dv cv a i j
section
variable {σ0 : St} {k s cap : Nat} {g : FuncId} {ys : List Value} {lt : Item → Item → Bool} {p : Item → Prop} {G : List Value}
noncomputable def pu1B : Code := loopOf (nthC 3 (Try.f158.body.getD .skip))
set_option maxHeartbeats 1600000 in
set_option maxRecDepth 20000 in
theorem pu1 (hc : CmpOk σ0 k g ys lt p) {d : Array Item} {σs : St} (H : SAt σ0 k d G p σs) {a j I : Nat} (ha : a < d.size) (hj : j < d.size) :
  ∀ m fr σ, IScan 178 12 13 (sliceS k s d.size cap) (.func (.func g) ⟨[]⟩ ⟨ys⟩) a σs (fun m i' j' => j' = j ∧ m = j + 1 - i' ∧ Sort.scanUp (fun x => lt x d[a]!) d j i' = I) m fr σ →
   loopX Try.prog false pu1B fr σ (endL (EScan 0 178 12 13 (sliceS k s d.size cap) (.func (.func g) ⟨[]⟩ ⟨ys⟩) a σs I j) fun _ => False) := by
 refine loop_ind q0 158 (by kernel_rfl) _ _ _ ?_
 rintro m fr σ ⟨ts, i, j, rfl, F, rfl, hQ⟩
 obtain ⟨rfl, hm, hI⟩ := hQ
 have e0 := F.t0
 have e1 := F.t1
 have e4 := F.t4
 have ei := F.ti
 have ej := F.tj
 have el := F.size
 have hsm := H.small
 simp only [sliceS] at e0
 by_cases hij : i ≤ j
 ·have c0 : (i : Int) ≤ (j : Int) := by omega
  obtain ⟨r, hd, hr⟩ := hc.call σ H.base d[i]! d[a]! (H.all _ (by omega)) (H.all _ ha)
  have hb := hc.body
  have g1 := H.get
  have x1 := arr_at (d := d) (G := G) (i := i) (by omega)
  have x2 := arr_at (d := d) (G := G) (i := a) ha
  have l1 : i * 4 + 4 ≤ (cellsL d.toList ++ G).length := by rw [arr_len]; omega
  have l2 : a * 4 + 4 ≤ (cellsL d.toList ++ G).length := by rw [arr_len]; omega
  have c1 : (0 : Int) ≤ (i : Int) := by omega
  have c2 : (i : Int) < (d.size : Int) := by omega
  have c3 : (0 : Int) ≤ (a : Int) := by omega
  have c4 : (a : Int) < (d.size : Int) := by omega
  have w1 : IntKind.i64.wrap ((i : Int) + 1) = ((i + 1 : Nat) : Int) := by
   have : (i : Int) + 1 = ((i + 1 : Nat) : Int) := by omega
   rw [this]; exact wrapIN (by omega)
  have nk : ¬ σ.next ≤ k := by have := H.lt; have := H.base.nx; omega
  simp only [Item.cells] at x1 x2
  by_cases hr0 : r < 0
  ·simp only [go_sem, seval, if_pos rfl, opLen, undef, pu1B, blockOf, nthC, dropC, loopOf, Try.f158, Option.getD, Int.toNat_natCast, e0, e1, e4, ei, ej, el, g1, hb, x1, x2, l1, l2, c0, c1, c2, c3, c4, w1, nk]
   refine .of hd ?_
   simp only [go_sem, seval, if_pos rfl, opLen, undef, pu1B, blockOf, nthC, dropC, loopOf, Try.f158, Option.getD, Int.toNat_natCast, e0, e1, e4, ei, ej, el, g1, hb, x1, x2, l1, l2, c0, c1, c2, c3, c4, w1, nk, hr0]
   have hlt : lt d[i]! d[a]! = true := by rw [← hr]; simp [hr0]
   refine ⟨j + 1 - (i + 1), by omega, _, i + 1, j, rfl, ⟨by simp only [List.length_set, el], by simp only [go_sem, seval, if_pos rfl, opLen, el, e0] <;> rfl, by simp only [go_sem, seval, if_pos rfl, opLen, el, e1], by simp only [go_sem, seval, if_pos rfl, opLen, el, e4], by simp only [go_sem, seval, if_pos rfl, opLen, el], by simp only [go_sem, seval, if_pos rfl, opLen, el, ej]⟩, rfl, rfl, rfl, ?_⟩
   rw [← hI, Sort.scanUp.eq_def (fun x => lt x d[a]!) d j i, if_pos (by simp [hlt, hij])]
  ·simp only [go_sem, seval, if_pos rfl, opLen, undef, pu1B, blockOf, nthC, dropC, loopOf, Try.f158, Option.getD, Int.toNat_natCast, e0, e1, e4, ei, ej, el, g1, hb, x1, x2, l1, l2, c0, c1, c2, c3, c4, w1, nk]
   refine .of hd ?_
   simp only [go_sem, seval, if_pos rfl, opLen, undef, pu1B, blockOf, nthC, dropC, loopOf, Try.f158, Option.getD, Int.toNat_natCast, e0, e1, e4, ei, ej, el, g1, hb, x1, x2, l1, l2, c0, c1, c2, c3, c4, w1, nk, hr0]
   have hlt : lt d[i]! d[a]! = false := by rw [← hr]; simp [hr0]
   have hIi : I = i := by rw [← hI, Sort.scanUp.eq_def (fun x => lt x d[a]!) d j i, if_neg (by simp [hlt])]
   subst hIi
   exact ⟨rfl, rfl, _, rfl, ⟨by simp only [List.length_set, el], by simp only [go_sem, seval, if_pos rfl, opLen, el, e0] <;> rfl, by simp only [go_sem, seval, if_pos rfl, opLen, el, e1], by simp only [go_sem, seval, if_pos rfl, opLen, el, e4], by simp only [go_sem, seval, if_pos rfl, opLen, el, ei], by simp only [go_sem, seval, if_pos rfl, opLen, el, ej]⟩⟩
 ·have c0 : ¬ (i : Int) ≤ (j : Int) := by omega
  simp only [go_sem, seval, if_pos rfl, opLen, undef, pu1B, blockOf, nthC, dropC, loopOf, Try.f158, Option.getD, Int.toNat_natCast, e0, e1, e4, ei, ej, el, c0]
  have hIi : I = i := by rw [← hI, Sort.scanUp.eq_def (fun x => lt x d[a]!) d j i, if_neg (by simp; intro h; omega)]
  subst hIi
  exact ⟨rfl, rfl, _, rfl, ⟨by simp only [List.length_set, el], by simp only [go_sem, seval, if_pos rfl, opLen, el, e0] <;> rfl, by simp only [go_sem, seval, if_pos rfl, opLen, el, e1], by simp only [go_sem, seval, if_pos rfl, opLen, el, e4], by simp only [go_sem, seval, if_pos rfl, opLen, el, ei], by simp only [go_sem, seval, if_pos rfl, opLen, el, ej]⟩⟩
noncomputable def pd1B : Code := loopOf (nthC 4 (Try.f158.body.getD .skip))
set_option maxHeartbeats 1600000 in
set_option maxRecDepth 20000 in
theorem pd1 (hc : CmpOk σ0 k g ys lt p) {d : Array Item} {σs : St} (H : SAt σ0 k d G p σs) {a i I : Nat} (ha : a < d.size) (hi0 : 0 < i) :
  ∀ m fr σ, IScan 178 12 13 (sliceS k s d.size cap) (.func (.func g) ⟨[]⟩ ⟨ys⟩) a σs (fun m i' j' => i' = i ∧ m = j' ∧ j' < d.size ∧ Sort.scanDown (fun x => !lt x d[a]!) d i j' = I) m fr σ →
   loopX Try.prog false pd1B fr σ (endL (EScan 2 178 12 13 (sliceS k s d.size cap) (.func (.func g) ⟨[]⟩ ⟨ys⟩) a σs i I) fun _ => False) := by
 refine loop_ind q0 158 (by kernel_rfl) _ _ _ ?_
 rintro m fr σ ⟨ts, i, j, rfl, F, rfl, hQ⟩
 obtain ⟨rfl, hm, hjn, hI⟩ := hQ
 have e0 := F.t0
 have e1 := F.t1
 have e4 := F.t4
 have ei := F.ti
 have ej := F.tj
 have el := F.size
 have hsm := H.small
 simp only [sliceS] at e0
 by_cases hij : i ≤ j
 ·have c0 : (i : Int) ≤ (j : Int) := by omega
  obtain ⟨r, hd, hr⟩ := hc.call σ H.base d[j]! d[a]! (H.all _ (by omega)) (H.all _ ha)
  have hb := hc.body
  have g1 := H.get
  have x1 := arr_at (d := d) (G := G) (i := j) (by omega)
  have x2 := arr_at (d := d) (G := G) (i := a) ha
  have l1 : j * 4 + 4 ≤ (cellsL d.toList ++ G).length := by rw [arr_len]; omega
  have l2 : a * 4 + 4 ≤ (cellsL d.toList ++ G).length := by rw [arr_len]; omega
  have c1 : (0 : Int) ≤ (j : Int) := by omega
  have c2 : (j : Int) < (d.size : Int) := by omega
  have c3 : (0 : Int) ≤ (a : Int) := by omega
  have c4 : (a : Int) < (d.size : Int) := by omega
  have w1 : IntKind.i64.wrap ((j : Int) - 1) = ((j - 1 : Nat) : Int) := by
   have : (j : Int) - 1 = ((j - 1 : Nat) : Int) := by omega
   rw [this]; exact wrapIN (by omega)
  have nk : ¬ σ.next ≤ k := by have := H.lt; have := H.base.nx; omega
  simp only [Item.cells] at x1 x2
  by_cases hr0 : r < 0
  ·simp only [go_sem, seval, if_pos rfl, opLen, undef, pd1B, blockOf, nthC, dropC, loopOf, Try.f158, Option.getD, Int.toNat_natCast, e0, e1, e4, ei, ej, el, g1, hb, x1, x2, l1, l2, c0, c1, c2, c3, c4, w1, nk]
   refine .of hd ?_
   simp only [go_sem, seval, if_pos rfl, opLen, undef, pd1B, blockOf, nthC, dropC, loopOf, Try.f158, Option.getD, Int.toNat_natCast, e0, e1, e4, ei, ej, el, g1, hb, x1, x2, l1, l2, c0, c1, c2, c3, c4, w1, nk, hr0]
   have hlt : lt d[j]! d[a]! = true := by rw [← hr]; simp [hr0]
   have hIj : I = j := by
    rw [← hI]
    cases j with
    | zero => rfl
    | succ j' =>
     simp only [Sort.scanDown]
     rw [if_neg (by simp [hlt])]
   subst hIj
   exact ⟨rfl, rfl, _, rfl, ⟨by simp only [List.length_set, el], by simp only [go_sem, seval, if_pos rfl, opLen, el, e0] <;> rfl, by simp only [go_sem, seval, if_pos rfl, opLen, el, e1], by simp only [go_sem, seval, if_pos rfl, opLen, el, e4], by simp only [go_sem, seval, if_pos rfl, opLen, el, ei], by simp only [go_sem, seval, if_pos rfl, opLen, el, ej]⟩⟩
  ·simp only [go_sem, seval, if_pos rfl, opLen, undef, pd1B, blockOf, nthC, dropC, loopOf, Try.f158, Option.getD, Int.toNat_natCast, e0, e1, e4, ei, ej, el, g1, hb, x1, x2, l1, l2, c0, c1, c2, c3, c4, w1, nk]
   refine .of hd ?_
   simp only [go_sem, seval, if_pos rfl, opLen, undef, pd1B, blockOf, nthC, dropC, loopOf, Try.f158, Option.getD, Int.toNat_natCast, e0, e1, e4, ei, ej, el, g1, hb, x1, x2, l1, l2, c0, c1, c2, c3, c4, w1, nk, hr0]
   have hlt : lt d[j]! d[a]! = false := by rw [← hr]; simp [hr0]
   obtain ⟨j', rfl⟩ : ∃ j', j = j' + 1 := ⟨j - 1, by omega⟩
   refine ⟨j', by omega, _, i, j', rfl, ⟨by simp only [List.length_set, el], by simp only [go_sem, seval, if_pos rfl, opLen, el, e0] <;> rfl, by simp only [go_sem, seval, if_pos rfl, opLen, el, e1], by simp only [go_sem, seval, if_pos rfl, opLen, el, e4], by simp only [go_sem, seval, if_pos rfl, opLen, el, ei], by simp only [go_sem, seval, if_pos rfl, opLen, el] <;> rfl⟩, rfl, rfl, rfl, by omega, ?_⟩
   rw [← hI]
   simp only [Sort.scanDown]
   rw [if_pos (by simp [hlt, hij])]
 ·have c0 : ¬ (i : Int) ≤ (j : Int) := by omega
  simp only [go_sem, seval, if_pos rfl, opLen, undef, pd1B, blockOf, nthC, dropC, loopOf, Try.f158, Option.getD, Int.toNat_natCast, e0, e1, e4, ei, ej, el, c0]
  have hIj : I = j := by
   rw [← hI]
   cases j with
   | zero => rfl
   | succ j' =>
    simp only [Sort.scanDown]
    rw [if_neg (by simp; intro h; omega)]
  subst hIj
  exact ⟨rfl, rfl, _, rfl, ⟨by simp only [List.length_set, el], by simp only [go_sem, seval, if_pos rfl, opLen, el, e0] <;> rfl, by simp only [go_sem, seval, if_pos rfl, opLen, el, e1], by simp only [go_sem, seval, if_pos rfl, opLen, el, e4], by simp only [go_sem, seval, if_pos rfl, opLen, el, ei], by simp only [go_sem, seval, if_pos rfl, opLen, el, ej]⟩⟩
noncomputable def pu2B : Code := loopOf (nthC 0 (blockOf (loopOf (nthC 9 (Try.f158.body.getD .skip)))))
set_option maxHeartbeats 1600000 in
set_option maxRecDepth 20000 in
theorem pu2 (hc : CmpOk σ0 k g ys lt p) {d : Array Item} {σs : St} (H : SAt σ0 k d G p σs) {a j I : Nat} (ha : a < d.size) (hj : j < d.size) :
  ∀ m fr σ, IScan 178 12 13 (sliceS k s d.size cap) (.func (.func g) ⟨[]⟩ ⟨ys⟩) a σs (fun m i' j' => j' = j ∧ m = j + 1 - i' ∧ Sort.scanUp (fun x => lt x d[a]!) d j i' = I) m fr σ →
   loopX Try.prog false pu2B fr σ (endL (EScan 6 178 12 13 (sliceS k s d.size cap) (.func (.func g) ⟨[]⟩ ⟨ys⟩) a σs I j) fun _ => False) := by
 refine loop_ind q0 158 (by kernel_rfl) _ _ _ ?_
 rintro m fr σ ⟨ts, i, j, rfl, F, rfl, hQ⟩
 obtain ⟨rfl, hm, hI⟩ := hQ
 have e0 := F.t0
 have e1 := F.t1
 have e4 := F.t4
 have ei := F.ti
 have ej := F.tj
 have el := F.size
 have hsm := H.small
 simp only [sliceS] at e0
 by_cases hij : i ≤ j
 ·have c0 : (i : Int) ≤ (j : Int) := by omega
  obtain ⟨r, hd, hr⟩ := hc.call σ H.base d[i]! d[a]! (H.all _ (by omega)) (H.all _ ha)
  have hb := hc.body
  have g1 := H.get
  have x1 := arr_at (d := d) (G := G) (i := i) (by omega)
  have x2 := arr_at (d := d) (G := G) (i := a) ha
  have l1 : i * 4 + 4 ≤ (cellsL d.toList ++ G).length := by rw [arr_len]; omega
  have l2 : a * 4 + 4 ≤ (cellsL d.toList ++ G).length := by rw [arr_len]; omega
  have c1 : (0 : Int) ≤ (i : Int) := by omega
  have c2 : (i : Int) < (d.size : Int) := by omega
  have c3 : (0 : Int) ≤ (a : Int) := by omega
  have c4 : (a : Int) < (d.size : Int) := by omega
  have w1 : IntKind.i64.wrap ((i : Int) + 1) = ((i + 1 : Nat) : Int) := by
   have : (i : Int) + 1 = ((i + 1 : Nat) : Int) := by omega
   rw [this]; exact wrapIN (by omega)
  have nk : ¬ σ.next ≤ k := by have := H.lt; have := H.base.nx; omega
  simp only [Item.cells] at x1 x2
  by_cases hr0 : r < 0
  ·simp only [go_sem, seval, if_pos rfl, opLen, undef, pu2B, blockOf, nthC, dropC, loopOf, Try.f158, Option.getD, Int.toNat_natCast, e0, e1, e4, ei, ej, el, g1, hb, x1, x2, l1, l2, c0, c1, c2, c3, c4, w1, nk]
   refine .of hd ?_
   simp only [go_sem, seval, if_pos rfl, opLen, undef, pu2B, blockOf, nthC, dropC, loopOf, Try.f158, Option.getD, Int.toNat_natCast, e0, e1, e4, ei, ej, el, g1, hb, x1, x2, l1, l2, c0, c1, c2, c3, c4, w1, nk, hr0]
   have hlt : lt d[i]! d[a]! = true := by rw [← hr]; simp [hr0]
   refine ⟨j + 1 - (i + 1), by omega, _, i + 1, j, rfl, ⟨by simp only [List.length_set, el], by simp only [go_sem, seval, if_pos rfl, opLen, el, e0] <;> rfl, by simp only [go_sem, seval, if_pos rfl, opLen, el, e1], by simp only [go_sem, seval, if_pos rfl, opLen, el, e4], by simp only [go_sem, seval, if_pos rfl, opLen, el], by simp only [go_sem, seval, if_pos rfl, opLen, el, ej]⟩, rfl, rfl, rfl, ?_⟩
   rw [← hI, Sort.scanUp.eq_def (fun x => lt x d[a]!) d j i, if_pos (by simp [hlt, hij])]
  ·simp only [go_sem, seval, if_pos rfl, opLen, undef, pu2B, blockOf, nthC, dropC, loopOf, Try.f158, Option.getD, Int.toNat_natCast, e0, e1, e4, ei, ej, el, g1, hb, x1, x2, l1, l2, c0, c1, c2, c3, c4, w1, nk]
   refine .of hd ?_
   simp only [go_sem, seval, if_pos rfl, opLen, undef, pu2B, blockOf, nthC, dropC, loopOf, Try.f158, Option.getD, Int.toNat_natCast, e0, e1, e4, ei, ej, el, g1, hb, x1, x2, l1, l2, c0, c1, c2, c3, c4, w1, nk, hr0]
   have hlt : lt d[i]! d[a]! = false := by rw [← hr]; simp [hr0]
   have hIi : I = i := by rw [← hI, Sort.scanUp.eq_def (fun x => lt x d[a]!) d j i, if_neg (by simp [hlt])]
   subst hIi
   exact ⟨rfl, rfl, _, rfl, ⟨by simp only [List.length_set, el], by simp only [go_sem, seval, if_pos rfl, opLen, el, e0] <;> rfl, by simp only [go_sem, seval, if_pos rfl, opLen, el, e1], by simp only [go_sem, seval, if_pos rfl, opLen, el, e4], by simp only [go_sem, seval, if_pos rfl, opLen, el, ei], by simp only [go_sem, seval, if_pos rfl, opLen, el, ej]⟩⟩
 ·have c0 : ¬ (i : Int) ≤ (j : Int) := by omega
  simp only [go_sem, seval, if_pos rfl, opLen, undef, pu2B, blockOf, nthC, dropC, loopOf, Try.f158, Option.getD, Int.toNat_natCast, e0, e1, e4, ei, ej, el, c0]
  have hIi : I = i := by rw [← hI, Sort.scanUp.eq_def (fun x => lt x d[a]!) d j i, if_neg (by simp; intro h; omega)]
  subst hIi
  exact ⟨rfl, rfl, _, rfl, ⟨by simp only [List.length_set, el], by simp only [go_sem, seval, if_pos rfl, opLen, el, e0] <;> rfl, by simp only [go_sem, seval, if_pos rfl, opLen, el, e1], by simp only [go_sem, seval, if_pos rfl, opLen, el, e4], by simp only [go_sem, seval, if_pos rfl, opLen, el, ei], by simp only [go_sem, seval, if_pos rfl, opLen, el, ej]⟩⟩
noncomputable def pd2B : Code := loopOf (nthC 1 (blockOf (loopOf (nthC 9 (Try.f158.body.getD .skip)))))
set_option maxHeartbeats 1600000 in
set_option maxRecDepth 20000 in
theorem pd2 (hc : CmpOk σ0 k g ys lt p) {d : Array Item} {σs : St} (H : SAt σ0 k d G p σs) {a i I : Nat} (ha : a < d.size) (hi0 : 0 < i) :
  ∀ m fr σ, IScan 178 12 13 (sliceS k s d.size cap) (.func (.func g) ⟨[]⟩ ⟨ys⟩) a σs (fun m i' j' => i' = i ∧ m = j' ∧ j' < d.size ∧ Sort.scanDown (fun x => !lt x d[a]!) d i j' = I) m fr σ →
   loopX Try.prog false pd2B fr σ (endL (EScan 8 178 12 13 (sliceS k s d.size cap) (.func (.func g) ⟨[]⟩ ⟨ys⟩) a σs i I) fun _ => False) := by
 refine loop_ind q0 158 (by kernel_rfl) _ _ _ ?_
 rintro m fr σ ⟨ts, i, j, rfl, F, rfl, hQ⟩
 obtain ⟨rfl, hm, hjn, hI⟩ := hQ
 have e0 := F.t0
 have e1 := F.t1
 have e4 := F.t4
 have ei := F.ti
 have ej := F.tj
 have el := F.size
 have hsm := H.small
 simp only [sliceS] at e0
 by_cases hij : i ≤ j
 ·have c0 : (i : Int) ≤ (j : Int) := by omega
  obtain ⟨r, hd, hr⟩ := hc.call σ H.base d[j]! d[a]! (H.all _ (by omega)) (H.all _ ha)
  have hb := hc.body
  have g1 := H.get
  have x1 := arr_at (d := d) (G := G) (i := j) (by omega)
  have x2 := arr_at (d := d) (G := G) (i := a) ha
  have l1 : j * 4 + 4 ≤ (cellsL d.toList ++ G).length := by rw [arr_len]; omega
  have l2 : a * 4 + 4 ≤ (cellsL d.toList ++ G).length := by rw [arr_len]; omega
  have c1 : (0 : Int) ≤ (j : Int) := by omega
  have c2 : (j : Int) < (d.size : Int) := by omega
  have c3 : (0 : Int) ≤ (a : Int) := by omega
  have c4 : (a : Int) < (d.size : Int) := by omega
  have w1 : IntKind.i64.wrap ((j : Int) - 1) = ((j - 1 : Nat) : Int) := by
   have : (j : Int) - 1 = ((j - 1 : Nat) : Int) := by omega
   rw [this]; exact wrapIN (by omega)
  have nk : ¬ σ.next ≤ k := by have := H.lt; have := H.base.nx; omega
  simp only [Item.cells] at x1 x2
  by_cases hr0 : r < 0
  ·simp only [go_sem, seval, if_pos rfl, opLen, undef, pd2B, blockOf, nthC, dropC, loopOf, Try.f158, Option.getD, Int.toNat_natCast, e0, e1, e4, ei, ej, el, g1, hb, x1, x2, l1, l2, c0, c1, c2, c3, c4, w1, nk]
   refine .of hd ?_
   simp only [go_sem, seval, if_pos rfl, opLen, undef, pd2B, blockOf, nthC, dropC, loopOf, Try.f158, Option.getD, Int.toNat_natCast, e0, e1, e4, ei, ej, el, g1, hb, x1, x2, l1, l2, c0, c1, c2, c3, c4, w1, nk, hr0]
   have hlt : lt d[j]! d[a]! = true := by rw [← hr]; simp [hr0]
   have hIj : I = j := by
    rw [← hI]
    cases j with
    | zero => rfl
    | succ j' =>
     simp only [Sort.scanDown]
     rw [if_neg (by simp [hlt])]
   subst hIj
   exact ⟨rfl, rfl, _, rfl, ⟨by simp only [List.length_set, el], by simp only [go_sem, seval, if_pos rfl, opLen, el, e0] <;> rfl, by simp only [go_sem, seval, if_pos rfl, opLen, el, e1], by simp only [go_sem, seval, if_pos rfl, opLen, el, e4], by simp only [go_sem, seval, if_pos rfl, opLen, el, ei], by simp only [go_sem, seval, if_pos rfl, opLen, el, ej]⟩⟩
  ·simp only [go_sem, seval, if_pos rfl, opLen, undef, pd2B, blockOf, nthC, dropC, loopOf, Try.f158, Option.getD, Int.toNat_natCast, e0, e1, e4, ei, ej, el, g1, hb, x1, x2, l1, l2, c0, c1, c2, c3, c4, w1, nk]
   refine .of hd ?_
   simp only [go_sem, seval, if_pos rfl, opLen, undef, pd2B, blockOf, nthC, dropC, loopOf, Try.f158, Option.getD, Int.toNat_natCast, e0, e1, e4, ei, ej, el, g1, hb, x1, x2, l1, l2, c0, c1, c2, c3, c4, w1, nk, hr0]
   have hlt : lt d[j]! d[a]! = false := by rw [← hr]; simp [hr0]
   obtain ⟨j', rfl⟩ : ∃ j', j = j' + 1 := ⟨j - 1, by omega⟩
   refine ⟨j', by omega, _, i, j', rfl, ⟨by simp only [List.length_set, el], by simp only [go_sem, seval, if_pos rfl, opLen, el, e0] <;> rfl, by simp only [go_sem, seval, if_pos rfl, opLen, el, e1], by simp only [go_sem, seval, if_pos rfl, opLen, el, e4], by simp only [go_sem, seval, if_pos rfl, opLen, el, ei], by simp only [go_sem, seval, if_pos rfl, opLen, el] <;> rfl⟩, rfl, rfl, rfl, by omega, ?_⟩
   rw [← hI]
   simp only [Sort.scanDown]
   rw [if_pos (by simp [hlt, hij])]
 ·have c0 : ¬ (i : Int) ≤ (j : Int) := by omega
  simp only [go_sem, seval, if_pos rfl, opLen, undef, pd2B, blockOf, nthC, dropC, loopOf, Try.f158, Option.getD, Int.toNat_natCast, e0, e1, e4, ei, ej, el, c0]
  have hIj : I = j := by
   rw [← hI]
   cases j with
   | zero => rfl
   | succ j' =>
    simp only [Sort.scanDown]
    rw [if_neg (by simp; intro h; omega)]
  subst hIj
  exact ⟨rfl, rfl, _, rfl, ⟨by simp only [List.length_set, el], by simp only [go_sem, seval, if_pos rfl, opLen, el, e0] <;> rfl, by simp only [go_sem, seval, if_pos rfl, opLen, el, e1], by simp only [go_sem, seval, if_pos rfl, opLen, el, e4], by simp only [go_sem, seval, if_pos rfl, opLen, el, ei], by simp only [go_sem, seval, if_pos rfl, opLen, el, ej]⟩⟩
noncomputable def euB : Code := loopOf (nthC 0 (blockOf (loopOf (nthC 3 (Try.f157.body.getD .skip)))))
set_option maxHeartbeats 1600000 in
set_option maxRecDepth 20000 in
theorem eu (hc : CmpOk σ0 k g ys lt p) {d : Array Item} {σs : St} (H : SAt σ0 k d G p σs) {a j I : Nat} (ha : a < d.size) (hj : j < d.size) :
  ∀ m fr σ, IScan 90 11 12 (sliceS k s d.size cap) (.func (.func g) ⟨[]⟩ ⟨ys⟩) a σs (fun m i' j' => j' = j ∧ m = j + 1 - i' ∧ Sort.scanUp (fun x => !lt d[a]! x) d j i' = I) m fr σ →
   loopX Try.prog false euB fr σ (endL (EScan 2 90 11 12 (sliceS k s d.size cap) (.func (.func g) ⟨[]⟩ ⟨ys⟩) a σs I j) fun _ => False) := by
 refine loop_ind q0 157 (by kernel_rfl) _ _ _ ?_
 rintro m fr σ ⟨ts, i, j, rfl, F, rfl, hQ⟩
 obtain ⟨rfl, hm, hI⟩ := hQ
 have e0 := F.t0
 have e1 := F.t1
 have e4 := F.t4
 have ei := F.ti
 have ej := F.tj
 have el := F.size
 have hsm := H.small
 simp only [sliceS] at e0
 by_cases hij : i ≤ j
 ·have c0 : (i : Int) ≤ (j : Int) := by omega
  obtain ⟨r, hd, hr⟩ := hc.call σ H.base d[a]! d[i]! (H.all _ ha) (H.all _ (by omega))
  have hb := hc.body
  have g1 := H.get
  have x1 := arr_at (d := d) (G := G) (i := i) (by omega)
  have x2 := arr_at (d := d) (G := G) (i := a) ha
  have l1 : i * 4 + 4 ≤ (cellsL d.toList ++ G).length := by rw [arr_len]; omega
  have l2 : a * 4 + 4 ≤ (cellsL d.toList ++ G).length := by rw [arr_len]; omega
  have c1 : (0 : Int) ≤ (i : Int) := by omega
  have c2 : (i : Int) < (d.size : Int) := by omega
  have c3 : (0 : Int) ≤ (a : Int) := by omega
  have c4 : (a : Int) < (d.size : Int) := by omega
  have w1 : IntKind.i64.wrap ((i : Int) + 1) = ((i + 1 : Nat) : Int) := by
   have : (i : Int) + 1 = ((i + 1 : Nat) : Int) := by omega
   rw [this]; exact wrapIN (by omega)
  have nk : ¬ σ.next ≤ k := by have := H.lt; have := H.base.nx; omega
  simp only [Item.cells] at x1 x2
  by_cases hr0 : r < 0
  ·simp only [go_sem, seval, if_pos rfl, opLen, undef, euB, blockOf, nthC, dropC, loopOf, Try.f157, Option.getD, Int.toNat_natCast, e0, e1, e4, ei, ej, el, g1, hb, x1, x2, l1, l2, c0, c1, c2, c3, c4, w1, nk]
   refine .of hd ?_
   simp only [go_sem, seval, if_pos rfl, opLen, undef, euB, blockOf, nthC, dropC, loopOf, Try.f157, Option.getD, Int.toNat_natCast, e0, e1, e4, ei, ej, el, g1, hb, x1, x2, l1, l2, c0, c1, c2, c3, c4, w1, nk, hr0]
   have hlt : lt d[a]! d[i]! = true := by rw [← hr]; simp [hr0]
   have hIi : I = i := by rw [← hI, Sort.scanUp.eq_def (fun x => !lt d[a]! x) d j i, if_neg (by simp [hlt])]
   subst hIi
   exact ⟨rfl, rfl, _, rfl, ⟨by simp only [List.length_set, el], by simp only [go_sem, seval, if_pos rfl, opLen, el, e0] <;> rfl, by simp only [go_sem, seval, if_pos rfl, opLen, el, e1], by simp only [go_sem, seval, if_pos rfl, opLen, el, e4], by simp only [go_sem, seval, if_pos rfl, opLen, el, ei], by simp only [go_sem, seval, if_pos rfl, opLen, el, ej]⟩⟩
  ·simp only [go_sem, seval, if_pos rfl, opLen, undef, euB, blockOf, nthC, dropC, loopOf, Try.f157, Option.getD, Int.toNat_natCast, e0, e1, e4, ei, ej, el, g1, hb, x1, x2, l1, l2, c0, c1, c2, c3, c4, w1, nk]
   refine .of hd ?_
   simp only [go_sem, seval, if_pos rfl, opLen, undef, euB, blockOf, nthC, dropC, loopOf, Try.f157, Option.getD, Int.toNat_natCast, e0, e1, e4, ei, ej, el, g1, hb, x1, x2, l1, l2, c0, c1, c2, c3, c4, w1, nk, hr0]
   have hlt : lt d[a]! d[i]! = false := by rw [← hr]; simp [hr0]
   refine ⟨j + 1 - (i + 1), by omega, _, i + 1, j, rfl, ⟨by simp only [List.length_set, el], by simp only [go_sem, seval, if_pos rfl, opLen, el, e0] <;> rfl, by simp only [go_sem, seval, if_pos rfl, opLen, el, e1], by simp only [go_sem, seval, if_pos rfl, opLen, el, e4], by simp only [go_sem, seval, if_pos rfl, opLen, el], by simp only [go_sem, seval, if_pos rfl, opLen, el, ej]⟩, rfl, rfl, rfl, ?_⟩
   rw [← hI, Sort.scanUp.eq_def (fun x => !lt d[a]! x) d j i, if_pos (by simp [hlt, hij])]
 ·have c0 : ¬ (i : Int) ≤ (j : Int) := by omega
  simp only [go_sem, seval, if_pos rfl, opLen, undef, euB, blockOf, nthC, dropC, loopOf, Try.f157, Option.getD, Int.toNat_natCast, e0, e1, e4, ei, ej, el, c0]
  have hIi : I = i := by rw [← hI, Sort.scanUp.eq_def (fun x => !lt d[a]! x) d j i, if_neg (by simp; intro h; omega)]
  subst hIi
  exact ⟨rfl, rfl, _, rfl, ⟨by simp only [List.length_set, el], by simp only [go_sem, seval, if_pos rfl, opLen, el, e0] <;> rfl, by simp only [go_sem, seval, if_pos rfl, opLen, el, e1], by simp only [go_sem, seval, if_pos rfl, opLen, el, e4], by simp only [go_sem, seval, if_pos rfl, opLen, el, ei], by simp only [go_sem, seval, if_pos rfl, opLen, el, ej]⟩⟩
noncomputable def edB : Code := loopOf (nthC 1 (blockOf (loopOf (nthC 3 (Try.f157.body.getD .skip)))))
set_option maxHeartbeats 1600000 in
set_option maxRecDepth 20000 in
theorem ed (hc : CmpOk σ0 k g ys lt p) {d : Array Item} {σs : St} (H : SAt σ0 k d G p σs) {a i I : Nat} (ha : a < d.size) (hi0 : 0 < i) :
  ∀ m fr σ, IScan 90 11 12 (sliceS k s d.size cap) (.func (.func g) ⟨[]⟩ ⟨ys⟩) a σs (fun m i' j' => i' = i ∧ m = j' ∧ j' < d.size ∧ Sort.scanDown (fun x => lt d[a]! x) d i j' = I) m fr σ →
   loopX Try.prog false edB fr σ (endL (EScan 4 90 11 12 (sliceS k s d.size cap) (.func (.func g) ⟨[]⟩ ⟨ys⟩) a σs i I) fun _ => False) := by
 refine loop_ind q0 157 (by kernel_rfl) _ _ _ ?_
 rintro m fr σ ⟨ts, i, j, rfl, F, rfl, hQ⟩
 obtain ⟨rfl, hm, hjn, hI⟩ := hQ
 have e0 := F.t0
 have e1 := F.t1
 have e4 := F.t4
 have ei := F.ti
 have ej := F.tj
 have el := F.size
 have hsm := H.small
 simp only [sliceS] at e0
 by_cases hij : i ≤ j
 ·have c0 : (i : Int) ≤ (j : Int) := by omega
  obtain ⟨r, hd, hr⟩ := hc.call σ H.base d[a]! d[j]! (H.all _ ha) (H.all _ (by omega))
  have hb := hc.body
  have g1 := H.get
  have x1 := arr_at (d := d) (G := G) (i := j) (by omega)
  have x2 := arr_at (d := d) (G := G) (i := a) ha
  have l1 : j * 4 + 4 ≤ (cellsL d.toList ++ G).length := by rw [arr_len]; omega
  have l2 : a * 4 + 4 ≤ (cellsL d.toList ++ G).length := by rw [arr_len]; omega
  have c1 : (0 : Int) ≤ (j : Int) := by omega
  have c2 : (j : Int) < (d.size : Int) := by omega
  have c3 : (0 : Int) ≤ (a : Int) := by omega
  have c4 : (a : Int) < (d.size : Int) := by omega
  have w1 : IntKind.i64.wrap ((j : Int) - 1) = ((j - 1 : Nat) : Int) := by
   have : (j : Int) - 1 = ((j - 1 : Nat) : Int) := by omega
   rw [this]; exact wrapIN (by omega)
  have nk : ¬ σ.next ≤ k := by have := H.lt; have := H.base.nx; omega
  simp only [Item.cells] at x1 x2
  by_cases hr0 : r < 0
  ·simp only [go_sem, seval, if_pos rfl, opLen, undef, edB, blockOf, nthC, dropC, loopOf, Try.f157, Option.getD, Int.toNat_natCast, e0, e1, e4, ei, ej, el, g1, hb, x1, x2, l1, l2, c0, c1, c2, c3, c4, w1, nk]
   refine .of hd ?_
   simp only [go_sem, seval, if_pos rfl, opLen, undef, edB, blockOf, nthC, dropC, loopOf, Try.f157, Option.getD, Int.toNat_natCast, e0, e1, e4, ei, ej, el, g1, hb, x1, x2, l1, l2, c0, c1, c2, c3, c4, w1, nk, hr0]
   have hlt : lt d[a]! d[j]! = true := by rw [← hr]; simp [hr0]
   obtain ⟨j', rfl⟩ : ∃ j', j = j' + 1 := ⟨j - 1, by omega⟩
   refine ⟨j', by omega, _, i, j', rfl, ⟨by simp only [List.length_set, el], by simp only [go_sem, seval, if_pos rfl, opLen, el, e0] <;> rfl, by simp only [go_sem, seval, if_pos rfl, opLen, el, e1], by simp only [go_sem, seval, if_pos rfl, opLen, el, e4], by simp only [go_sem, seval, if_pos rfl, opLen, el, ei], by simp only [go_sem, seval, if_pos rfl, opLen, el] <;> rfl⟩, rfl, rfl, rfl, by omega, ?_⟩
   rw [← hI]
   simp only [Sort.scanDown]
   rw [if_pos (by simp [hlt, hij])]
  ·simp only [go_sem, seval, if_pos rfl, opLen, undef, edB, blockOf, nthC, dropC, loopOf, Try.f157, Option.getD, Int.toNat_natCast, e0, e1, e4, ei, ej, el, g1, hb, x1, x2, l1, l2, c0, c1, c2, c3, c4, w1, nk]
   refine .of hd ?_
   simp only [go_sem, seval, if_pos rfl, opLen, undef, edB, blockOf, nthC, dropC, loopOf, Try.f157, Option.getD, Int.toNat_natCast, e0, e1, e4, ei, ej, el, g1, hb, x1, x2, l1, l2, c0, c1, c2, c3, c4, w1, nk, hr0]
   have hlt : lt d[a]! d[j]! = false := by rw [← hr]; simp [hr0]
   have hIj : I = j := by
    rw [← hI]
    cases j with
    | zero => rfl
    | succ j' =>
     simp only [Sort.scanDown]
     rw [if_neg (by simp [hlt])]
   subst hIj
   exact ⟨rfl, rfl, _, rfl, ⟨by simp only [List.length_set, el], by simp only [go_sem, seval, if_pos rfl, opLen, el, e0] <;> rfl, by simp only [go_sem, seval, if_pos rfl, opLen, el, e1], by simp only [go_sem, seval, if_pos rfl, opLen, el, e4], by simp only [go_sem, seval, if_pos rfl, opLen, el, ei], by simp only [go_sem, seval, if_pos rfl, opLen, el, ej]⟩⟩
 ·have c0 : ¬ (i : Int) ≤ (j : Int) := by omega
  simp only [go_sem, seval, if_pos rfl, opLen, undef, edB, blockOf, nthC, dropC, loopOf, Try.f157, Option.getD, Int.toNat_natCast, e0, e1, e4, ei, ej, el, c0]
  have hIj : I = j := by
   rw [← hI]
   cases j with
   | zero => rfl
   | succ j' =>
    simp only [Sort.scanDown]
    rw [if_neg (by simp; intro h; omega)]
  subst hIj
  exact ⟨rfl, rfl, _, rfl, ⟨by simp only [List.length_set, el], by simp only [go_sem, seval, if_pos rfl, opLen, el, e0] <;> rfl, by simp only [go_sem, seval, if_pos rfl, opLen, el, e1], by simp only [go_sem, seval, if_pos rfl, opLen, el, e4], by simp only [go_sem, seval, if_pos rfl, opLen, el, ei], by simp only [go_sem, seval, if_pos rfl, opLen, el, ej]⟩⟩
end
end Go.Ab
namespace Go.Ab
open Go.Proofs
noncomputable def pt158L : Code := loopOf (nthC 9 (Try.f158.body.getD .skip))
noncomputable def pt157L : Code := loopOf (nthC 3 (Try.f157.body.getD .skip))
section
variable {σ0 : St} {k s cap : Nat} {g : FuncId} {ys : List Value} {lt : Item → Item → Bool} {p : Item → Prop} {G : List Value}
def Iptl (σ0 : St) (k s n cap : Nat) (g : FuncId) (ys : List Value) (lt : Item → Item → Bool) (p : Item → Prop) (G : List Value) (a : Nat) (R : Nat × Array Item) (m : Nat) (fr : Fr) (σ : St) : Prop :=
 ∃ ts d, ∃ i j : Nat, fr = ⟨ts, []⟩ ∧ FP 178 12 13 ts (sliceS k s n cap) (.func (.func g) ⟨[]⟩ ⟨ys⟩) a i j ∧ m = j + 1 - i ∧ 0 < i ∧ i ≤ n ∧ j < n ∧ SAt σ0 k d G p σ ∧ d.size = n ∧ Sort.partLoop lt a i j d = R
def Eptl (σ0 : St) (k s n cap : Nat) (g : FuncId) (ys : List Value) (p : Item → Prop) (G : List Value) (a : Nat) (R : Nat × Array Item) (x : AX) (fr : Fr) (σ : St) : Prop :=
 x = .exit 4 ∧ ∃ ts, ∃ i j : Nat, fr = ⟨ts, []⟩ ∧ FP 178 12 13 ts (sliceS k s n cap) (.func (.func g) ⟨[]⟩ ⟨ys⟩) a i j ∧ j = R.1 ∧ j < n ∧ SAt σ0 k R.2 G p σ ∧ R.2.size = n
set_option maxHeartbeats 3200000 in
set_option maxRecDepth 20000 in
theorem ptl (hc : CmpOk σ0 k g ys lt p) {n a : Nat} (ha : a < n) {R : Nat × Array Item} :
  ∀ m fr σ, Iptl σ0 k s n cap g ys lt p G a R m fr σ → loopX Try.prog false pt158L fr σ (endL (Eptl σ0 k s n cap g ys p G a R) fun z => z = k ∨ σ0.next ≤ z) := by
 refine loop_ind q0 158 (by kernel_rfl) _ _ _ ?_
 rintro m fr σ ⟨ts, d, i, j, rfl, F, hm, hi0, hin, hjn, H, rfl, hR⟩
 have e0 := F.t0
 have e1 := F.t1
 have e4 := F.t4
 have ei := F.ti
 have ej := F.tj
 have el := F.size
 have hsm := H.small
 obtain ⟨i2, hi2⟩ : ∃ i2, Sort.scanUp (fun x => lt x d[a]!) d j i = i2 := ⟨_, rfl⟩
 obtain ⟨j2, hj2⟩ : ∃ j2, Sort.scanDown (fun x => !lt x d[a]!) d i2 j = j2 := ⟨_, rfl⟩
 have hi2g : i ≤ i2 := hi2 ▸ Sort.scanUp_ge _ _ _ _
 have hj2l : j2 ≤ j := hj2 ▸ Sort.scanDown_le _ _ _ _
 have heq := Sort.partLoop_eq lt a i j d
 have hgd := Sort.partLoop_guard lt a i j d
 simp only [hi2, hj2] at heq hgd
 by_cases hij : i2 > j2
 ·have c1 : (j2 : Int) < (i2 : Int) := by omega
  rw [if_pos hij] at heq
  have hRd : R = (j2, d) := by rw [← hR, heq]
  subst hRd
  simp only [go_sem, seval, if_pos rfl, opLen, undef, pt158L, nthC, blockOf, loopOf, Try.f158, Option.getD, e0, e1, e4, ei, ej, el]
  refine loop_then (pu2 (s := s) (cap := cap) (G := G) hc H ha hjn (I := i2) (j + 1 - i) _ _ ⟨ts, i, j, rfl, F, rfl, rfl, rfl, hi2⟩) ?_
  intro x fr' σ1 lg1 hlg1 hB1 h
  obtain ⟨rfl, rfl, ts1, rfl, F1⟩ := h
  obtain rfl : lg1 = [] := List.eq_nil_iff_forall_not_mem.2 fun z hz => hB1 z hz
  simp only [go_sem, seval, if_pos rfl, opLen, undef, F1.t0, F1.t1, F1.t4, F1.ti, F1.tj, F1.size]
  refine loop_then (pd2 (s := s) (cap := cap) (G := G) hc H ha (i := i2) (by omega) (I := j2) j _ _ ⟨ts1, i2, j, rfl, F1, rfl, rfl, rfl, hjn, hj2⟩) ?_
  intro x fr' σ1 lg2 hlg2 hB2 h
  obtain ⟨rfl, rfl, ts2, rfl, F2⟩ := h
  obtain rfl : lg2 = [] := List.eq_nil_iff_forall_not_mem.2 fun z hz => hB2 z hz
  clear e0 e1 e4 ei ej el
  have e0 := F2.t0
  have e1 := F2.t1
  have e4 := F2.t4
  have ei := F2.ti
  have ej := F2.tj
  have el := F2.size
  simp only [sliceS] at e0
  simp only [go_sem, seval, if_pos rfl, opLen, undef, e0, e1, e4, ei, ej, el, c1]
  exact ⟨rfl, _, i2, j2, rfl, ⟨by simp only [List.length_set, el], by simp only [go_sem, seval, if_pos rfl, opLen, el, e0] <;> rfl, by simp only [go_sem, seval, if_pos rfl, opLen, el, e1], by simp only [go_sem, seval, if_pos rfl, opLen, el, e4], by simp only [go_sem, seval, if_pos rfl, opLen, el, ei], by simp only [go_sem, seval, if_pos rfl, opLen, el, ej]⟩, rfl, by omega, H, rfl⟩
 ·have c1 : ¬ (j2 : Int) < (i2 : Int) := by omega
  rw [if_neg hij] at heq
  have hlt := hgd hij
  have p1 : (0 : Int) ≤ (i2 : Int) := by omega
  have p2 : (i2 : Int) < (d.size : Int) := by omega
  have p3 : (0 : Int) ≤ (j2 : Int) := by omega
  have p4 : (j2 : Int) < (d.size : Int) := by omega
  have w1 : IntKind.i64.wrap ((i2 : Int) + 1) = ((i2 + 1 : Nat) : Int) := by
   have : (i2 : Int) + 1 = ((i2 + 1 : Nat) : Int) := by omega
   rw [this]; exact wrapIN (by omega)
  have w2 : IntKind.i64.wrap ((j2 : Int) - 1) = ((j2 - 1 : Nat) : Int) := by
   have : (j2 : Int) - 1 = ((j2 - 1 : Nat) : Int) := by omega
   rw [this]; exact wrapIN (by omega)
  have g1 := H.get
  have nk : ¬ σ.next ≤ k := by have := H.lt; have := H.base.nx; omega
  have x1 := arr_at (d := d) (G := G) (i := i2) (by omega)
  have x2 := arr_at (d := d) (G := G) (i := j2) (by omega)
  have l1 : (i2) * 4 + 4 ≤ (cellsL (d).toList ++ G).length := by rw [arr_len]; omega
  have l2 : (j2) * 4 + 4 ≤ (cellsL (d).toList ++ G).length := by rw [arr_len]; omega
  have o1 := arr_over (d := d) (G := G) (i := i2) (d)[j2]! (by omega)
  have o2 := arr_over (d := (d).setIfInBounds (i2) (d)[j2]!) (G := G) (i := j2) (d)[i2]! (by simp; omega)
  have l3 : (j2) * 4 + 4 ≤ (cellsL ((d).setIfInBounds (i2) (d)[j2]!).toList ++ G).length := by rw [arr_len]; simp; omega
  simp only [Item.cells] at x1 x2 o1 o2
  simp only [go_sem, seval, if_pos rfl, opLen, undef, pt158L, nthC, blockOf, loopOf, Try.f158, Option.getD, e0, e1, e4, ei, ej, el]
  refine loop_then (pu2 (s := s) (cap := cap) (G := G) hc H ha hjn (I := i2) (j + 1 - i) _ _ ⟨ts, i, j, rfl, F, rfl, rfl, rfl, hi2⟩) ?_
  intro x fr' σ1 lg1 hlg1 hB1 h
  obtain ⟨rfl, rfl, ts1, rfl, F1⟩ := h
  obtain rfl : lg1 = [] := List.eq_nil_iff_forall_not_mem.2 fun z hz => hB1 z hz
  simp only [go_sem, seval, if_pos rfl, opLen, undef, F1.t0, F1.t1, F1.t4, F1.ti, F1.tj, F1.size]
  refine loop_then (pd2 (s := s) (cap := cap) (G := G) hc H ha (i := i2) (by omega) (I := j2) j _ _ ⟨ts1, i2, j, rfl, F1, rfl, rfl, rfl, hjn, hj2⟩) ?_
  intro x fr' σ1 lg2 hlg2 hB2 h
  obtain ⟨rfl, rfl, ts2, rfl, F2⟩ := h
  obtain rfl : lg2 = [] := List.eq_nil_iff_forall_not_mem.2 fun z hz => hB2 z hz
  clear e0 e1 e4 ei ej el
  have e0 := F2.t0
  have e1 := F2.t1
  have e4 := F2.t4
  have ei := F2.ti
  have ej := F2.tj
  have el := F2.size
  simp only [sliceS] at e0
  simp only [go_sem, seval, if_pos rfl, opLen, undef, Int.toNat_natCast, e0, e1, e4, ei, ej, el, c1, p1, p2, p3, p4, w1, w2, g1, nk, x1, x2, l1, l2, o1, o2, l3]
  exact ⟨.inl trivial, (j2 - 1) + 1 - (i2 + 1), by omega, _, Sort.swp d i2 j2, i2 + 1, j2 - 1, rfl, ⟨by simp only [List.length_set, el], by simp only [go_sem, seval, if_pos rfl, opLen, el, e0] <;> rfl, by simp only [go_sem, seval, if_pos rfl, opLen, el, e1], by simp only [go_sem, seval, if_pos rfl, opLen, el, e4], by simp only [go_sem, seval, if_pos rfl, opLen, el], by simp only [go_sem, seval, if_pos rfl, opLen, el]⟩, rfl, by omega, by omega, by omega, H.swp (by omega) (by omega) _, swp_size, by rw [← heq, hR]⟩
def Ipql (σ0 : St) (k s n cap : Nat) (g : FuncId) (ys : List Value) (lt : Item → Item → Bool) (p : Item → Prop) (G : List Value) (a : Nat) (R : Nat × Array Item) (m : Nat) (fr : Fr) (σ : St) : Prop :=
 ∃ ts d, ∃ i j : Nat, fr = ⟨ts, []⟩ ∧ FP 90 11 12 ts (sliceS k s n cap) (.func (.func g) ⟨[]⟩ ⟨ys⟩) a i j ∧ m = j + 1 - i ∧ 0 < i ∧ i ≤ n ∧ j < n ∧ SAt σ0 k d G p σ ∧ d.size = n ∧ Sort.partEqLoop lt a i j d = R
def Epql (σ0 : St) (k s n cap : Nat) (g : FuncId) (ys : List Value) (p : Item → Prop) (G : List Value) (a : Nat) (R : Nat × Array Item) (x : AX) (fr : Fr) (σ : St) : Prop :=
 x = .exit 0 ∧ ∃ ts, ∃ i j : Nat, fr = ⟨ts, []⟩ ∧ FP 90 11 12 ts (sliceS k s n cap) (.func (.func g) ⟨[]⟩ ⟨ys⟩) a i j ∧ i = R.1 ∧ j < n ∧ SAt σ0 k R.2 G p σ ∧ R.2.size = n
set_option maxHeartbeats 3200000 in
set_option maxRecDepth 20000 in
theorem pql (hc : CmpOk σ0 k g ys lt p) {n a : Nat} (ha : a < n) {R : Nat × Array Item} :
  ∀ m fr σ, Ipql σ0 k s n cap g ys lt p G a R m fr σ → loopX Try.prog false pt157L fr σ (endL (Epql σ0 k s n cap g ys p G a R) fun z => z = k ∨ σ0.next ≤ z) := by
 refine loop_ind q0 157 (by kernel_rfl) _ _ _ ?_
 rintro m fr σ ⟨ts, d, i, j, rfl, F, hm, hi0, hin, hjn, H, rfl, hR⟩
 have e0 := F.t0
 have e1 := F.t1
 have e4 := F.t4
 have ei := F.ti
 have ej := F.tj
 have el := F.size
 have hsm := H.small
 obtain ⟨i2, hi2⟩ : ∃ i2, Sort.scanUp (fun x => !lt d[a]! x) d j i = i2 := ⟨_, rfl⟩
 obtain ⟨j2, hj2⟩ : ∃ j2, Sort.scanDown (fun x => lt d[a]! x) d i2 j = j2 := ⟨_, rfl⟩
 have hi2g : i ≤ i2 := hi2 ▸ Sort.scanUp_ge _ _ _ _
 have hj2l : j2 ≤ j := hj2 ▸ Sort.scanDown_le _ _ _ _
 have heq := Sort.partEqLoop_eq lt a i j d
 have hgd := Sort.partEqLoop_guard lt a i j d
 simp only [hi2, hj2] at heq hgd
 by_cases hij : i2 > j2
 ·have c1 : (j2 : Int) < (i2 : Int) := by omega
  rw [if_pos hij] at heq
  have hRd : R = (i2, d) := by rw [← hR, heq]
  subst hRd
  simp only [go_sem, seval, if_pos rfl, opLen, undef, pt157L, nthC, blockOf, loopOf, Try.f157, Option.getD, e0, e1, e4, ei, ej, el]
  refine loop_then (eu (s := s) (cap := cap) (G := G) hc H ha hjn (I := i2) (j + 1 - i) _ _ ⟨ts, i, j, rfl, F, rfl, rfl, rfl, hi2⟩) ?_
  intro x fr' σ1 lg1 hlg1 hB1 h
  obtain ⟨rfl, rfl, ts1, rfl, F1⟩ := h
  obtain rfl : lg1 = [] := List.eq_nil_iff_forall_not_mem.2 fun z hz => hB1 z hz
  simp only [go_sem, seval, if_pos rfl, opLen, undef, F1.t0, F1.t1, F1.t4, F1.ti, F1.tj, F1.size]
  refine loop_then (ed (s := s) (cap := cap) (G := G) hc H ha (i := i2) (by omega) (I := j2) j _ _ ⟨ts1, i2, j, rfl, F1, rfl, rfl, rfl, hjn, hj2⟩) ?_
  intro x fr' σ1 lg2 hlg2 hB2 h
  obtain ⟨rfl, rfl, ts2, rfl, F2⟩ := h
  obtain rfl : lg2 = [] := List.eq_nil_iff_forall_not_mem.2 fun z hz => hB2 z hz
  clear e0 e1 e4 ei ej el
  have e0 := F2.t0
  have e1 := F2.t1
  have e4 := F2.t4
  have ei := F2.ti
  have ej := F2.tj
  have el := F2.size
  simp only [sliceS] at e0
  simp only [go_sem, seval, if_pos rfl, opLen, undef, e0, e1, e4, ei, ej, el, c1]
  exact ⟨rfl, _, i2, j2, rfl, ⟨by simp only [List.length_set, el], by simp only [go_sem, seval, if_pos rfl, opLen, el, e0] <;> rfl, by simp only [go_sem, seval, if_pos rfl, opLen, el, e1], by simp only [go_sem, seval, if_pos rfl, opLen, el, e4], by simp only [go_sem, seval, if_pos rfl, opLen, el, ei], by simp only [go_sem, seval, if_pos rfl, opLen, el, ej]⟩, rfl, by omega, H, rfl⟩
 ·have c1 : ¬ (j2 : Int) < (i2 : Int) := by omega
  rw [if_neg hij] at heq
  have hlt := hgd hij
  have p1 : (0 : Int) ≤ (i2 : Int) := by omega
  have p2 : (i2 : Int) < (d.size : Int) := by omega
  have p3 : (0 : Int) ≤ (j2 : Int) := by omega
  have p4 : (j2 : Int) < (d.size : Int) := by omega
  have w1 : IntKind.i64.wrap ((i2 : Int) + 1) = ((i2 + 1 : Nat) : Int) := by
   have : (i2 : Int) + 1 = ((i2 + 1 : Nat) : Int) := by omega
   rw [this]; exact wrapIN (by omega)
  have w2 : IntKind.i64.wrap ((j2 : Int) - 1) = ((j2 - 1 : Nat) : Int) := by
   have : (j2 : Int) - 1 = ((j2 - 1 : Nat) : Int) := by omega
   rw [this]; exact wrapIN (by omega)
  have g1 := H.get
  have nk : ¬ σ.next ≤ k := by have := H.lt; have := H.base.nx; omega
  have x1 := arr_at (d := d) (G := G) (i := i2) (by omega)
  have x2 := arr_at (d := d) (G := G) (i := j2) (by omega)
  have l1 : (i2) * 4 + 4 ≤ (cellsL (d).toList ++ G).length := by rw [arr_len]; omega
  have l2 : (j2) * 4 + 4 ≤ (cellsL (d).toList ++ G).length := by rw [arr_len]; omega
  have o1 := arr_over (d := d) (G := G) (i := i2) (d)[j2]! (by omega)
  have o2 := arr_over (d := (d).setIfInBounds (i2) (d)[j2]!) (G := G) (i := j2) (d)[i2]! (by simp; omega)
  have l3 : (j2) * 4 + 4 ≤ (cellsL ((d).setIfInBounds (i2) (d)[j2]!).toList ++ G).length := by rw [arr_len]; simp; omega
  simp only [Item.cells] at x1 x2 o1 o2
  simp only [go_sem, seval, if_pos rfl, opLen, undef, pt157L, nthC, blockOf, loopOf, Try.f157, Option.getD, e0, e1, e4, ei, ej, el]
  refine loop_then (eu (s := s) (cap := cap) (G := G) hc H ha hjn (I := i2) (j + 1 - i) _ _ ⟨ts, i, j, rfl, F, rfl, rfl, rfl, hi2⟩) ?_
  intro x fr' σ1 lg1 hlg1 hB1 h
  obtain ⟨rfl, rfl, ts1, rfl, F1⟩ := h
  obtain rfl : lg1 = [] := List.eq_nil_iff_forall_not_mem.2 fun z hz => hB1 z hz
  simp only [go_sem, seval, if_pos rfl, opLen, undef, F1.t0, F1.t1, F1.t4, F1.ti, F1.tj, F1.size]
  refine loop_then (ed (s := s) (cap := cap) (G := G) hc H ha (i := i2) (by omega) (I := j2) j _ _ ⟨ts1, i2, j, rfl, F1, rfl, rfl, rfl, hjn, hj2⟩) ?_
  intro x fr' σ1 lg2 hlg2 hB2 h
  obtain ⟨rfl, rfl, ts2, rfl, F2⟩ := h
  obtain rfl : lg2 = [] := List.eq_nil_iff_forall_not_mem.2 fun z hz => hB2 z hz
  clear e0 e1 e4 ei ej el
  have e0 := F2.t0
  have e1 := F2.t1
  have e4 := F2.t4
  have ei := F2.ti
  have ej := F2.tj
  have el := F2.size
  simp only [sliceS] at e0
  simp only [go_sem, seval, if_pos rfl, opLen, undef, Int.toNat_natCast, e0, e1, e4, ei, ej, el, c1, p1, p2, p3, p4, w1, w2, g1, nk, x1, x2, l1, l2, o1, o2, l3]
  exact ⟨.inl trivial, (j2 - 1) + 1 - (i2 + 1), by omega, _, Sort.swp d i2 j2, i2 + 1, j2 - 1, rfl, ⟨by simp only [List.length_set, el], by simp only [go_sem, seval, if_pos rfl, opLen, el, e0] <;> rfl, by simp only [go_sem, seval, if_pos rfl, opLen, el, e1], by simp only [go_sem, seval, if_pos rfl, opLen, el, e4], by simp only [go_sem, seval, if_pos rfl, opLen, el], by simp only [go_sem, seval, if_pos rfl, opLen, el]⟩, rfl, by omega, by omega, by omega, H.swp (by omega) (by omega) _, swp_size, by rw [← heq, hR]⟩
end
end Go.Ab
namespace Go.Ab
open Go.Proofs
section
variable {σ0 : St} {k s cap : Nat} {g : FuncId} {ys : List Value} {lt : Item → Item → Bool} {p : Item → Prop} {G : List Value}
def SortE (σ0 : St) (k : Nat) (G : List Value) (p : Item → Prop) (v : Value) (D : Array Item) (e : AE) (σ' : St) (lg : Log) : Prop := e = .ret v ∧ SortR σ0 k G p D σ' lg
set_option maxHeartbeats 6400000 in
set_option maxRecDepth 20000 in
theorem part_call (hc : CmpOk σ0 k g ys lt p) {a b pivot : Nat} {d : Array Item} {σ : St} (H : SAt σ0 k d G p σ) (hap : a ≤ pivot) (hpb : pivot < b) (hbn : b ≤ d.size) :
  callX Try.prog 158 [sliceS k s d.size cap, .int .i64 a, .int .i64 b, .int .i64 pivot, .func (.func g) ⟨[]⟩ ⟨ys⟩] σ (SortE σ0 k G p (.tuple ⟨[.int .i64 (Sort.partition lt d a b pivot).1, .bool (Sort.partition lt d a b pivot).2.1]⟩) (Sort.partition lt d a b pivot).2.2) := by
 have hsm := H.small
 have hs1 : (Sort.swp d a pivot).size = d.size := swp_size
 have w1 : IntKind.i64.wrap ((a : Int) + 1) = ((a + 1 : Nat) : Int) := by
  have : (a : Int) + 1 = ((a + 1 : Nat) : Int) := by omega
  rw [this]; exact wrapIN (by omega)
 have w2 : IntKind.i64.wrap ((b : Int) - 1) = ((b - 1 : Nat) : Int) := by
  have : (b : Int) - 1 = ((b - 1 : Nat) : Int) := by omega
  rw [this]; exact wrapIN (by omega)
 have g1 := H.get
 have nk : ¬ σ.next ≤ k := by have := H.lt; have := H.base.nx; omega
 have x1a := arr_at (d := d) (G := G) (i := a) (by omega)
 have x2a := arr_at (d := d) (G := G) (i := pivot) (by omega)
 have l1a : (a) * 4 + 4 ≤ (cellsL (d).toList ++ G).length := by rw [arr_len]; omega
 have l2a : (pivot) * 4 + 4 ≤ (cellsL (d).toList ++ G).length := by rw [arr_len]; omega
 have o1a := arr_over (d := d) (G := G) (i := a) (d)[pivot]! (by omega)
 have o2a := arr_over (d := (d).setIfInBounds (a) (d)[pivot]!) (G := G) (i := pivot) (d)[a]! (by simp; omega)
 have l3a : (pivot) * 4 + 4 ≤ (cellsL ((d).setIfInBounds (a) (d)[pivot]!).toList ++ G).length := by rw [arr_len]; simp; omega
 have l4a : (a) * 4 + 4 ≤ (cellsL ((d).setIfInBounds (a) (d)[pivot]!).toList ++ G).length := by rw [arr_len]; simp; omega
 have p1a : (0 : Int) ≤ ((a : Nat) : Int) := by omega
 have p2a : ((a : Nat) : Int) < (d.size : Int) := by omega
 have p3a : (0 : Int) ≤ ((pivot : Nat) : Int) := by omega
 have p4a : ((pivot : Nat) : Int) < (d.size : Int) := by omega
 simp only [Item.cells] at x1a x2a o1a o2a
 have H1 := H.swp (i := a) (j := pivot) (by omega) (by omega) (.cells (cellsL (d.setIfInBounds a d[pivot]!).toList ++ G) false)
 obtain ⟨d1, hd1⟩ : ∃ d1, Sort.swp d a pivot = d1 := ⟨_, rfl⟩
 have hz1 : d1.size = d.size := by rw [← hd1]; exact hs1
 rw [hd1] at H1
 obtain ⟨i2, hi2⟩ : ∃ i2, Sort.scanUp (fun x => lt x d1[a]!) d1 (b - 1) (a + 1) = i2 := ⟨_, rfl⟩
 obtain ⟨j2, hj2⟩ : ∃ j2, Sort.scanDown (fun x => !lt x d1[a]!) d1 i2 (b - 1) = j2 := ⟨_, rfl⟩
 have hi2g : a + 1 ≤ i2 := hi2 ▸ Sort.scanUp_ge _ _ _ _
 have hj2l : j2 ≤ b - 1 := hj2 ▸ Sort.scanDown_le _ _ _ _
 have heq : Sort.partition lt d a b pivot = if i2 > j2 then (j2, true, Sort.swp d1 j2 a) else ((Sort.partLoop lt a (i2 + 1) (j2 - 1) (Sort.swp d1 i2 j2)).1, false, Sort.swp (Sort.partLoop lt a (i2 + 1) (j2 - 1) (Sort.swp d1 i2 j2)).2 (Sort.partLoop lt a (i2 + 1) (j2 - 1) (Sort.swp d1 i2 j2)).1 a) := by
  unfold Sort.partition
  simp only [hd1, hi2, hj2]
 obtain ⟨A1, hA1⟩ : ∃ A1, A1 = AObj.cells (cellsL (d.setIfInBounds a d[pivot]!).toList ++ G) false := ⟨_, rfl⟩
 rw [heq]
 by_cases hij : i2 > j2
 ·rw [if_pos hij]
  have c1 : (j2 : Int) < (i2 : Int) := by omega
  have x1b := arr_at (d := d1) (G := G) (i := j2) (by omega)
  have x2b := arr_at (d := d1) (G := G) (i := a) (by omega)
  have l1b : (j2) * 4 + 4 ≤ (cellsL (d1).toList ++ G).length := by rw [arr_len]; omega
  have l2b : (a) * 4 + 4 ≤ (cellsL (d1).toList ++ G).length := by rw [arr_len]; omega
  have o1b := arr_over (d := d1) (G := G) (i := j2) (d1)[a]! (by omega)
  have o2b := arr_over (d := (d1).setIfInBounds (j2) (d1)[a]!) (G := G) (i := a) (d1)[j2]! (by simp; omega)
  have l3b : (a) * 4 + 4 ≤ (cellsL ((d1).setIfInBounds (j2) (d1)[a]!).toList ++ G).length := by rw [arr_len]; simp; omega
  have l4b : (j2) * 4 + 4 ≤ (cellsL ((d1).setIfInBounds (j2) (d1)[a]!).toList ++ G).length := by rw [arr_len]; simp; omega
  have p1b : (0 : Int) ≤ ((j2 : Nat) : Int) := by omega
  have p2b : ((j2 : Nat) : Int) < (d.size : Int) := by omega
  have p3b : (0 : Int) ≤ ((a : Nat) : Int) := by omega
  have p4b : ((a : Nat) : Int) < (d.size : Int) := by omega
  simp only [Item.cells] at x1b x2b o1b o2b
  refine enter (p := q0) Try.func158 rfl stat158 ?_
  simp only [go_sem, seval, if_pos rfl, opLen, undef, sliceS, Try.f158, Int.toNat_natCast, g1, nk, w1, w2, x1a, x2a, l1a, l2a, o1a, o2a, l3a, p1a, p2a, p3a, p4a]
  generalize hσs : (σ.set k (AObj.cells (cellsL (d.setIfInBounds a d[pivot]!).toList ++ G) false)).set k (AObj.cells (cellsL ((d.setIfInBounds a d[pivot]!).setIfInBounds pivot d[a]!).toList ++ G) false) = σs at H1 ⊢
  clear hσs
  refine loop_then (pu1 (s := s) (cap := cap) (G := G) hc H1 (a := a) (j := b - 1) (by omega) (by omega) (I := i2) _ _ _ ⟨_, a + 1, b - 1, rfl, ⟨rfl, by rw [hz1]; rfl, rfl, rfl, rfl, rfl⟩, rfl, rfl, rfl, hi2⟩) ?_
  intro x fr' σ1 lg1 hlg1 hB1 h
  obtain ⟨rfl, rfl, ts1, rfl, F1⟩ := h
  obtain rfl : lg1 = [] := List.eq_nil_iff_forall_not_mem.2 fun z hz => hB1 z hz
  simp only [go_sem, seval, if_pos rfl, opLen, undef, Int.toNat_natCast, F1.t0, F1.t1, F1.t4, F1.ti, F1.tj, F1.size]
  refine loop_then (pd1 (s := s) (cap := cap) (G := G) hc H1 (a := a) (i := i2) (by omega) (by omega) (I := j2) (b - 1) _ _ ⟨ts1, i2, b - 1, rfl, F1, rfl, rfl, rfl, by omega, hj2⟩) ?_
  intro x fr' σ1 lg2 hlg2 hB2 h
  obtain ⟨rfl, rfl, ts2, rfl, F2⟩ := h
  obtain rfl : lg2 = [] := List.eq_nil_iff_forall_not_mem.2 fun z hz => hB2 z hz
  have e0 := F2.t0
  have e1 := F2.t1
  have e4 := F2.t4
  have ei := F2.ti
  have ej := F2.tj
  have el := F2.size
  simp only [sliceS, hz1] at e0
  have g2 := H1.get
  have nk2 : ¬ σ1.next ≤ k := by have := H1.lt; have := H1.base.nx; omega
  simp only [go_sem, seval, if_pos rfl, opLen, undef, Int.toNat_natCast, e0, e1, e4, ei, ej, el, c1, g2, nk2, x1b, x2b, l1b, l2b, o1b, o2b, l3b, p1b, p2b, p3b, p4b]
  refine ⟨rfl, fun z hz => by simp at hz; exact .inl hz, ?_⟩
  exact H1.swp (i := j2) (j := a) (by omega) (by omega) _
 ·rw [if_neg hij]
  have c1 : ¬ (j2 : Int) < (i2 : Int) := by omega
  have x1c := arr_at (d := d1) (G := G) (i := i2) (by omega)
  have x2c := arr_at (d := d1) (G := G) (i := j2) (by omega)
  have l1c : (i2) * 4 + 4 ≤ (cellsL (d1).toList ++ G).length := by rw [arr_len]; omega
  have l2c : (j2) * 4 + 4 ≤ (cellsL (d1).toList ++ G).length := by rw [arr_len]; omega
  have o1c := arr_over (d := d1) (G := G) (i := i2) (d1)[j2]! (by omega)
  have o2c := arr_over (d := (d1).setIfInBounds (i2) (d1)[j2]!) (G := G) (i := j2) (d1)[i2]! (by simp; omega)
  have l3c : (j2) * 4 + 4 ≤ (cellsL ((d1).setIfInBounds (i2) (d1)[j2]!).toList ++ G).length := by rw [arr_len]; simp; omega
  have l4c : (i2) * 4 + 4 ≤ (cellsL ((d1).setIfInBounds (i2) (d1)[j2]!).toList ++ G).length := by rw [arr_len]; simp; omega
  have p1c : (0 : Int) ≤ ((i2 : Nat) : Int) := by omega
  have p2c : ((i2 : Nat) : Int) < (d.size : Int) := by omega
  have p3c : (0 : Int) ≤ ((j2 : Nat) : Int) := by omega
  have p4c : ((j2 : Nat) : Int) < (d.size : Int) := by omega
  simp only [Item.cells] at x1c x2c o1c o2c
  obtain ⟨R, hR⟩ : ∃ R, Sort.partLoop lt a (i2 + 1) (j2 - 1) (Sort.swp d1 i2 j2) = R := ⟨_, rfl⟩
  rw [hR]
  have w3 : IntKind.i64.wrap ((i2 : Int) + 1) = ((i2 + 1 : Nat) : Int) := by
   have : (i2 : Int) + 1 = ((i2 + 1 : Nat) : Int) := by omega
   rw [this]; exact wrapIN (by omega)
  have w4 : IntKind.i64.wrap ((j2 : Int) - 1) = ((j2 - 1 : Nat) : Int) := by
   have : (j2 : Int) - 1 = ((j2 - 1 : Nat) : Int) := by omega
   rw [this]; exact wrapIN (by omega)
  refine enter (p := q0) Try.func158 rfl stat158 ?_
  simp only [go_sem, seval, if_pos rfl, opLen, undef, sliceS, Try.f158, Int.toNat_natCast, g1, nk, w1, w2, x1a, x2a, l1a, l2a, o1a, o2a, l3a, p1a, p2a, p3a, p4a]
  generalize hσs : (σ.set k (AObj.cells (cellsL (d.setIfInBounds a d[pivot]!).toList ++ G) false)).set k (AObj.cells (cellsL ((d.setIfInBounds a d[pivot]!).setIfInBounds pivot d[a]!).toList ++ G) false) = σs at H1 ⊢
  clear hσs
  refine loop_then (pu1 (s := s) (cap := cap) (G := G) hc H1 (a := a) (j := b - 1) (by omega) (by omega) (I := i2) _ _ _ ⟨_, a + 1, b - 1, rfl, ⟨rfl, by rw [hz1]; rfl, rfl, rfl, rfl, rfl⟩, rfl, rfl, rfl, hi2⟩) ?_
  intro x fr' σ1 lg1 hlg1 hB1 h
  obtain ⟨rfl, rfl, ts1, rfl, F1⟩ := h
  obtain rfl : lg1 = [] := List.eq_nil_iff_forall_not_mem.2 fun z hz => hB1 z hz
  simp only [go_sem, seval, if_pos rfl, opLen, undef, Int.toNat_natCast, F1.t0, F1.t1, F1.t4, F1.ti, F1.tj, F1.size]
  refine loop_then (pd1 (s := s) (cap := cap) (G := G) hc H1 (a := a) (i := i2) (by omega) (by omega) (I := j2) (b - 1) _ _ ⟨ts1, i2, b - 1, rfl, F1, rfl, rfl, rfl, by omega, hj2⟩) ?_
  intro x fr' σ1 lg2 hlg2 hB2 h
  obtain ⟨rfl, rfl, ts2, rfl, F2⟩ := h
  obtain rfl : lg2 = [] := List.eq_nil_iff_forall_not_mem.2 fun z hz => hB2 z hz
  have e0 := F2.t0
  have e1 := F2.t1
  have e4 := F2.t4
  have ei := F2.ti
  have ej := F2.tj
  have el := F2.size
  simp only [sliceS, hz1] at e0
  have g2 := H1.get
  have nk2 : ¬ σ1.next ≤ k := by have := H1.lt; have := H1.base.nx; omega
  simp only [go_sem, seval, if_pos rfl, opLen, undef, Int.toNat_natCast, e0, e1, e4, ei, ej, el, c1, w3, w4, g2, nk2, x1c, x2c, l1c, l2c, o1c, o2c, l3c, p1c, p2c, p3c, p4c]
  have H2 := H1.swp (i := i2) (j := j2) (by omega) (by omega) (.cells (cellsL (d1.setIfInBounds i2 d1[j2]!).toList ++ G) false)
  have hz2 : (Sort.swp d1 i2 j2).size = d.size := by rw [swp_size]; exact hz1
  refine loop_then (ptl (s := s) (cap := cap) (G := G) hc (n := d.size) (a := a) (by omega) (R := R) _ _ _ ⟨_, _, i2 + 1, j2 - 1, rfl, ⟨by simp only [List.length_set, el], by simp only [go_sem, seval, if_pos rfl, opLen, el, e0] <;> rfl, by simp only [go_sem, seval, if_pos rfl, opLen, el, e1], by simp only [go_sem, seval, if_pos rfl, opLen, el, e4], by simp only [go_sem, seval, if_pos rfl, opLen, el], by simp only [go_sem, seval, if_pos rfl, opLen, el]⟩, rfl, by omega, by omega, by omega, H2, hz2, hR⟩) ?_
  intro x fr' σ3 lg3 hlg3 hB3 h
  obtain ⟨rfl, ts3, i3, j3, rfl, F3, hj3, hj3n, H3, hz3⟩ := h
  rw [← hj3]
  obtain ⟨d2, hd2⟩ : ∃ d2, R.2 = d2 := ⟨_, rfl⟩
  rw [hd2] at H3 hz3 ⊢
  have x1e := arr_at (d := d2) (G := G) (i := j3) (by omega)
  have x2e := arr_at (d := d2) (G := G) (i := a) (by omega)
  have l1e : (j3) * 4 + 4 ≤ (cellsL (d2).toList ++ G).length := by rw [arr_len]; omega
  have l2e : (a) * 4 + 4 ≤ (cellsL (d2).toList ++ G).length := by rw [arr_len]; omega
  have o1e := arr_over (d := d2) (G := G) (i := j3) (d2)[a]! (by omega)
  have o2e := arr_over (d := (d2).setIfInBounds (j3) (d2)[a]!) (G := G) (i := a) (d2)[j3]! (by simp; omega)
  have l3e : (a) * 4 + 4 ≤ (cellsL ((d2).setIfInBounds (j3) (d2)[a]!).toList ++ G).length := by rw [arr_len]; simp; omega
  have l4e : (j3) * 4 + 4 ≤ (cellsL ((d2).setIfInBounds (j3) (d2)[a]!).toList ++ G).length := by rw [arr_len]; simp; omega
  have p1e : (0 : Int) ≤ ((j3 : Nat) : Int) := by omega
  have p2e : ((j3 : Nat) : Int) < (d.size : Int) := by omega
  have p3e : (0 : Int) ≤ ((a : Nat) : Int) := by omega
  have p4e : ((a : Nat) : Int) < (d.size : Int) := by omega
  simp only [Item.cells] at x1e x2e o1e o2e
  have f0 := F3.t0
  have f1 := F3.t1
  have f4 := F3.t4
  have fi := F3.ti
  have fj := F3.tj
  have fl := F3.size
  have g3 := H3.get
  simp only [sliceS] at f0
  have nk3 : ¬ σ3.next ≤ k := by have := H3.lt; have := H3.base.nx; omega
  simp only [go_sem, seval, if_pos rfl, opLen, undef, Int.toNat_natCast, f0, f1, f4, fi, fj, fl, g3, nk3, x1e, x2e, l1e, l2e, o1e, o2e, l3e, p1e, p2e, p3e, p4e]
  refine ⟨rfl, fun z hz => ?_, H3.swp (i := j3) (j := a) (by omega) (by omega) _⟩
  simp only [List.mem_cons, List.mem_append, List.not_mem_nil, or_false] at hz
  rcases hz with h | h | h | h | h | h | h <;> first | exact .inl h | exact hB3 z h
set_option maxHeartbeats 6400000 in
set_option maxRecDepth 20000 in
theorem parteq_call (hc : CmpOk σ0 k g ys lt p) {a b pivot : Nat} {d : Array Item} {σ : St} (H : SAt σ0 k d G p σ) (hap : a ≤ pivot) (hpb : pivot < b) (hbn : b ≤ d.size) :
  callX Try.prog 157 [sliceS k s d.size cap, .int .i64 a, .int .i64 b, .int .i64 pivot, .func (.func g) ⟨[]⟩ ⟨ys⟩] σ (SortE σ0 k G p (.int .i64 (Sort.partitionEqual lt d a b pivot).1) (Sort.partitionEqual lt d a b pivot).2) := by
 have hsm := H.small
 have w1 : IntKind.i64.wrap ((a : Int) + 1) = ((a + 1 : Nat) : Int) := by
  have : (a : Int) + 1 = ((a + 1 : Nat) : Int) := by omega
  rw [this]; exact wrapIN (by omega)
 have w2 : IntKind.i64.wrap ((b : Int) - 1) = ((b - 1 : Nat) : Int) := by
  have : (b : Int) - 1 = ((b - 1 : Nat) : Int) := by omega
  rw [this]; exact wrapIN (by omega)
 have g1 := H.get
 have nk : ¬ σ.next ≤ k := by have := H.lt; have := H.base.nx; omega
 have x1a := arr_at (d := d) (G := G) (i := a) (by omega)
 have x2a := arr_at (d := d) (G := G) (i := pivot) (by omega)
 have l1a : (a) * 4 + 4 ≤ (cellsL (d).toList ++ G).length := by rw [arr_len]; omega
 have l2a : (pivot) * 4 + 4 ≤ (cellsL (d).toList ++ G).length := by rw [arr_len]; omega
 have o1a := arr_over (d := d) (G := G) (i := a) (d)[pivot]! (by omega)
 have o2a := arr_over (d := (d).setIfInBounds (a) (d)[pivot]!) (G := G) (i := pivot) (d)[a]! (by simp; omega)
 have l3a : (pivot) * 4 + 4 ≤ (cellsL ((d).setIfInBounds (a) (d)[pivot]!).toList ++ G).length := by rw [arr_len]; simp; omega
 have l4a : (a) * 4 + 4 ≤ (cellsL ((d).setIfInBounds (a) (d)[pivot]!).toList ++ G).length := by rw [arr_len]; simp; omega
 have p1a : (0 : Int) ≤ ((a : Nat) : Int) := by omega
 have p2a : ((a : Nat) : Int) < (d.size : Int) := by omega
 have p3a : (0 : Int) ≤ ((pivot : Nat) : Int) := by omega
 have p4a : ((pivot : Nat) : Int) < (d.size : Int) := by omega
 simp only [Item.cells] at x1a x2a o1a o2a
 have H1 := H.swp (i := a) (j := pivot) (by omega) (by omega) (.cells (cellsL (d.setIfInBounds a d[pivot]!).toList ++ G) false)
 obtain ⟨R, hR⟩ : ∃ R, Sort.partEqLoop lt a (a + 1) (b - 1) (Sort.swp d a pivot) = R := ⟨_, rfl⟩
 have heq : Sort.partitionEqual lt d a b pivot = R := hR
 rw [heq]
 refine enter (p := q0) Try.func157 rfl stat157 ?_
 simp only [go_sem, seval, if_pos rfl, opLen, undef, sliceS, Try.f157, Int.toNat_natCast, g1, nk, w1, w2, x1a, x2a, l1a, l2a, o1a, o2a, l3a, p1a, p2a, p3a, p4a]
 refine loop_then (pql (s := s) (cap := cap) (G := G) hc (n := d.size) (a := a) (by omega) (R := R) _ _ _ ⟨_, _, a + 1, b - 1, rfl, ⟨rfl, rfl, rfl, rfl, rfl, rfl⟩, rfl, by omega, by omega, by omega, H1, swp_size, hR⟩) ?_
 intro x fr' σ3 lg3 hlg3 hB3 h
 obtain ⟨rfl, ts3, i3, j3, rfl, F3, hj3, hj3n, H3, hz3⟩ := h
 rw [← hj3]
 simp only [go_sem, seval, if_pos rfl, opLen, undef, F3.t0, F3.t1, F3.t4, F3.ti, F3.tj, F3.size]
 refine ⟨rfl, fun z hz => ?_, H3⟩
 simp only [List.mem_cons, List.mem_append, List.not_mem_nil, or_false] at hz
 rcases hz with h | h | h <;> first | exact .inl h | exact hB3 z h
noncomputable def revB : Code := loopOf (Try.f155.body.getD .skip)
def IRev (σ0 : St) (k s n cap : Nat) (p : Item → Prop) (G : List Value) (D : Array Item) (m : Nat) (fr : Fr) (σ : St) : Prop :=
 ∃ ts d, ∃ i j : Nat, fr = ⟨ts, []⟩ ∧ ts.length = 34 ∧ lget ts 0 = sliceS k s n cap ∧ lget ts 8 = .int .i64 i ∧ lget ts 9 = .int .i64 j ∧ m = j - i ∧ j < n ∧ i ≤ n ∧ SAt σ0 k d G p σ ∧ d.size = n ∧ Sort.reverseLoop i j d = D
def ERev (σ0 : St) (k : Nat) (p : Item → Prop) (G : List Value) (D : Array Item) (x : AX) (fr : Fr) (σ : St) : Prop :=
 x = .exit 0 ∧ fr.ds = [] ∧ SAt σ0 k D G p σ
set_option maxHeartbeats 1600000 in
set_option maxRecDepth 20000 in
theorem rev_loop {n : Nat} {D : Array Item} : ∀ m fr σ, IRev σ0 k s n cap p G D m fr σ → loopX Try.prog false revB fr σ (endL (ERev σ0 k p G D) fun z => z = k ∨ σ0.next ≤ z) := by
 refine loop_ind q0 155 (by kernel_rfl) _ _ _ ?_
 rintro m fr σ ⟨ts, d, i, j, rfl, el, e0, e8, e9, hm, hjn, hin, H, rfl, hD⟩
 have hsm := H.small
 simp only [sliceS] at e0
 by_cases hij : i < j
 ·have c1 : (i : Int) < (j : Int) := by omega
  have w1 : IntKind.i64.wrap ((i : Int) + 1) = ((i + 1 : Nat) : Int) := by
   have : (i : Int) + 1 = ((i + 1 : Nat) : Int) := by omega
   rw [this]; exact wrapIN (by omega)
  have w2 : IntKind.i64.wrap ((j : Int) - 1) = ((j - 1 : Nat) : Int) := by
   have : (j : Int) - 1 = ((j - 1 : Nat) : Int) := by omega
   rw [this]; exact wrapIN (by omega)
  have g1 := H.get
  have nk : ¬ σ.next ≤ k := by have := H.lt; have := H.base.nx; omega
  have x1r := arr_at (d := d) (G := G) (i := i) (by omega)
  have x2r := arr_at (d := d) (G := G) (i := j) (by omega)
  have l1r : (i) * 4 + 4 ≤ (cellsL (d).toList ++ G).length := by rw [arr_len]; omega
  have l2r : (j) * 4 + 4 ≤ (cellsL (d).toList ++ G).length := by rw [arr_len]; omega
  have o1r := arr_over (d := d) (G := G) (i := i) (d)[j]! (by omega)
  have o2r := arr_over (d := (d).setIfInBounds (i) (d)[j]!) (G := G) (i := j) (d)[i]! (by simp; omega)
  have l3r : (j) * 4 + 4 ≤ (cellsL ((d).setIfInBounds (i) (d)[j]!).toList ++ G).length := by rw [arr_len]; simp; omega
  have l4r : (i) * 4 + 4 ≤ (cellsL ((d).setIfInBounds (i) (d)[j]!).toList ++ G).length := by rw [arr_len]; simp; omega
  have p1r : (0 : Int) ≤ ((i : Nat) : Int) := by omega
  have p2r : ((i : Nat) : Int) < (d.size : Int) := by omega
  have p3r : (0 : Int) ≤ ((j : Nat) : Int) := by omega
  have p4r : ((j : Nat) : Int) < (d.size : Int) := by omega
  simp only [Item.cells] at x1r x2r o1r o2r
  simp only [go_sem, seval, if_pos rfl, opLen, undef, revB, loopOf, Try.f155, Option.getD, Int.toNat_natCast, el, e0, e8, e9, c1, w1, w2, g1, nk, x1r, x2r, l1r, l2r, o1r, o2r, l3r, p1r, p2r, p3r, p4r]
  refine ⟨.inl trivial, (j - 1) - (i + 1), by omega, _, Sort.swp d i j, i + 1, j - 1, rfl, by simp only [List.length_set, el], by simp only [go_sem, seval, if_pos rfl, opLen, el, e0] <;> rfl, by simp only [go_sem, seval, if_pos rfl, opLen, el], by simp only [go_sem, seval, if_pos rfl, opLen, el], rfl, by omega, by omega, H.swp (by omega) (by omega) _, swp_size, ?_⟩
  rw [← hD, Sort.reverseLoop.eq_def i j d, if_pos hij]
 ·have c1 : ¬ (i : Int) < (j : Int) := by omega
  simp only [go_sem, seval, if_pos rfl, opLen, undef, revB, loopOf, Try.f155, Option.getD, el, e0, e8, e9, c1]
  have hDd : D = d := by rw [← hD, Sort.reverseLoop.eq_def i j d, if_neg hij]
  exact ⟨rfl, rfl, hDd ▸ H⟩
theorem rev_call {a b : Nat} {d : Array Item} {cv : Value} {σ : St} (H : SAt σ0 k d G p σ) (hab : a < b) (hbn : b ≤ d.size) :
  callX Try.prog 155 [sliceS k s d.size cap, .int .i64 a, .int .i64 b, cv] σ fun e σ' lg => e = .ret (.tuple ⟨[]⟩) ∧ SortR σ0 k G p (Sort.reverseRange d a b) σ' lg := by
 have w2 : IntKind.i64.wrap ((b : Int) - 1) = ((b - 1 : Nat) : Int) := by
  have : (b : Int) - 1 = ((b - 1 : Nat) : Int) := by omega
  rw [this]; exact wrapIN (by have := H.small; omega)
 refine enter (p := q0) Try.func155 rfl stat155 ?_
 simp only [go_sem, seval, if_pos rfl, opLen, undef, sliceS, Try.f155, w2]
 refine loop_then (rev_loop (s := s) (n := d.size) (cap := cap) (G := G) (p := p) (σ0 := σ0) (k := k) (D := Sort.reverseRange d a b) _ _ _ ⟨_, d, a, b - 1, rfl, rfl, rfl, rfl, rfl, rfl, by omega, by omega, H, rfl, rfl⟩) ?_
 intro x fr' σ' lg hlg hB h
 obtain ⟨rfl, hds, H'⟩ := h
 obtain ⟨ts', ds'⟩ := fr'
 simp only at hds
 subst hds
 simp only [go_sem, seval, if_pos rfl, opLen]
 exact ⟨hB, H'⟩
end
end Go.Ab
namespace Go.Ab
open Go.Proofs
section
variable {σ0 : St} {k s cap : Nat} {g : FuncId} {ys : List Value} {lt : Item → Item → Bool} {p : Item → Prop} {G : List Value}
structure CntAt (σ0 : St) (sb : Nat) (m : Int) (σ : St) : Prop where
 get : ∃ v : Int, σ.get sb = some (.cells [.int .i64 v] false) ∧ 0 ≤ v ∧ v ≤ m
 lo : σ0.next ≤ sb
 lt : sb < σ.next
theorem SAt.cnt {d : Array Item} {σ : St} (H : SAt σ0 k d G p σ) {sb : Nat} (h : σ0.next ≤ sb) (o : AObj) : SAt σ0 k d G p (σ.set sb o) :=
 ⟨⟨H.base.nx, fun c h1 h2 => by rw [St.get_set, if_neg (by omega)]; exact H.base.get c h1 h2⟩, by rw [St.get_set, if_neg (by have := H.lt; omega)]; exact H.get, H.lt, H.all, H.small⟩
def Ord2R (σ0 : St) (k : Nat) (G : List Value) (p : Item → Prop) (d : Array Item) (sb : Nat) (m : Int) (a b : Nat) (e : AE) (σ' : St) (lg : Log) : Prop :=
 ∃ x y : Nat, ((x = a ∧ y = b) ∨ (x = b ∧ y = a)) ∧ e = .ret (.tuple ⟨[.int .i64 x, .int .i64 y]⟩) ∧ (∀ z ∈ lg, z = sb) ∧ SAt σ0 k d G p σ' ∧ CntAt σ0 sb (m + 1) σ'
set_option maxHeartbeats 1600000 in
set_option maxRecDepth 20000 in
theorem ord2_call (hc : CmpOk σ0 k g ys lt p) {a b sb : Nat} {m : Int} {d : Array Item} {σ : St} (H : SAt σ0 k d G p σ) (hs : CntAt σ0 sb m σ) (hm : m < 1000000) (ha : a < d.size) (hb : b < d.size) :
  callX Try.prog 166 [sliceS k s d.size cap, .int .i64 a, .int .i64 b, .pointer (some ⟨sb, 0, none⟩), .func (.func g) ⟨[]⟩ ⟨ys⟩] σ (Ord2R σ0 k G p d sb m a b) := by
 obtain ⟨v, gs, hv0, hv1⟩ := hs.get
 have hsb := hs.lt
 have hlo := hs.lo
 have hsm := H.small
 have hkl := H.lt
 obtain ⟨r, hd, hr⟩ := hc.call σ H.base d[b]! d[a]! (H.all _ hb) (H.all _ ha)
 have hbd := hc.body
 have g1 := H.get
 have x1 := arr_at (d := d) (G := G) (i := a) ha
 have x2 := arr_at (d := d) (G := G) (i := b) hb
 have l1 : a * 4 + 4 ≤ (cellsL d.toList ++ G).length := by rw [arr_len]; omega
 have l2 : b * 4 + 4 ≤ (cellsL d.toList ++ G).length := by rw [arr_len]; omega
 have c1 : (0 : Int) ≤ (a : Int) := by omega
 have c2 : (a : Int) < (d.size : Int) := by omega
 have c3 : (0 : Int) ≤ (b : Int) := by omega
 have c4 : (b : Int) < (d.size : Int) := by omega
 have w1 : IntKind.i64.wrap (v + 1) = v + 1 := wrapI (by omega) (by omega)
 have nk : ¬ σ.next ≤ k := by have := H.base.nx; omega
 simp only [Item.cells] at x1 x2
 refine enter (p := q0) Try.func166 rfl stat166 ?_
 by_cases hr0 : r < 0
 ·simp only [go_sem, seval, if_pos rfl, opLen, undef, sliceS, Try.f166, Int.toNat_natCast, g1, gs, hsb, hbd, x1, x2, l1, l2, c1, c2, c3, c4, w1, nk]
  refine .of hd ?_
  simp only [go_sem, seval, if_pos rfl, opLen, undef, Int.toNat_natCast, gs, hsb, hr0, w1, nk]
  exact ⟨b, a, .inr ⟨rfl, rfl⟩, rfl, fun z hz => by simpa using hz, H.cnt hlo _, ⟨v + 1, by rw [St.get_set, if_pos rfl], by omega, by omega⟩, hlo, hsb⟩
 ·simp only [go_sem, seval, if_pos rfl, opLen, undef, sliceS, Try.f166, Int.toNat_natCast, g1, gs, hsb, hbd, x1, x2, l1, l2, c1, c2, c3, c4, w1, nk]
  refine .of hd ?_
  simp only [go_sem, seval, if_pos rfl, opLen, undef, Int.toNat_natCast, gs, hsb, hr0, w1, nk]
  exact ⟨a, b, .inl ⟨rfl, rfl⟩, rfl, fun z hz => by simp at hz, H, ⟨v, gs, hv0, by omega⟩, hlo, hsb⟩
def MedR (σ0 : St) (k : Nat) (G : List Value) (p : Item → Prop) (d : Array Item) (sb : Nat) (m : Int) (a b c : Nat) (e : AE) (σ' : St) (lg : Log) : Prop :=
 ∃ x : Nat, (x = a ∨ x = b ∨ x = c) ∧ e = .ret (.int .i64 x) ∧ (∀ z ∈ lg, z = sb) ∧ SAt σ0 k d G p σ' ∧ CntAt σ0 sb (m + 3) σ'
set_option maxHeartbeats 1600000 in
set_option maxRecDepth 20000 in
theorem med_call (hc : CmpOk σ0 k g ys lt p) {a b c sb : Nat} {m : Int} {d : Array Item} {σ : St} (H : SAt σ0 k d G p σ) (hs : CntAt σ0 sb m σ) (hm : m < 1000) (ha : a < d.size) (hb : b < d.size) (hcc : c < d.size) :
  callX Try.prog 165 [sliceS k s d.size cap, .int .i64 a, .int .i64 b, .int .i64 c, .pointer (some ⟨sb, 0, none⟩), .func (.func g) ⟨[]⟩ ⟨ys⟩] σ (MedR σ0 k G p d sb m a b c) := by
 refine enter (p := q0) Try.func165 rfl stat165 ?_
 simp only [go_sem, seval, if_pos rfl, opLen, undef, Try.f165, body166]
 refine callX.hidE (ord2_call (s := s) (cap := cap) hc H hs (by omega) ha hb) ?_
 intro e σ1 lg1 hlg1 hA
 obtain ⟨x1, y1, hxy1, rfl, hB1, H1, hs1⟩ := hA
 have hx1 : x1 < d.size := by omega
 have hy1 : y1 < d.size := by omega
 refine ⟨?_⟩
 simp only [go_sem, seval, if_pos rfl, opLen, undef, body166]
 refine callX.hidE (ord2_call (s := s) (cap := cap) hc H1 hs1 (by omega) hy1 hcc) ?_
 intro e σ2 lg2 hlg2 hA
 obtain ⟨x2, y2, hxy2, rfl, hB2, H2, hs2⟩ := hA
 have hx2 : x2 < d.size := by omega
 refine ⟨?_⟩
 simp only [go_sem, seval, if_pos rfl, opLen, undef, body166]
 refine callX.hidE (ord2_call (s := s) (cap := cap) hc H2 hs2 (by omega) hx1 hx2) ?_
 intro e σ3 lg3 hlg3 hA
 obtain ⟨x3, y3, hxy3, rfl, hB3, H3, hs3⟩ := hA
 refine ⟨?_⟩
 simp only [go_sem, seval, if_pos rfl, opLen, undef, body166]
 have e3 : m + 1 + 1 + 1 = m + 3 := by omega
 rw [e3] at hs3
 refine ⟨y3, by omega, rfl, fun z hz => ?_, H3, hs3⟩
 simp only [List.mem_append] at hz
 rcases hz with h | h | h
 ·exact hB1 z h
 ·exact hB2 z h
 ·exact hB3 z h
theorem medadj_call (hc : CmpOk σ0 k g ys lt p) {a sb : Nat} {m : Int} {d : Array Item} {σ : St} (H : SAt σ0 k d G p σ) (hs : CntAt σ0 sb m σ) (hm : m < 1000) (ha0 : 0 < a) (ha : a + 1 < d.size) :
  callX Try.prog 164 [sliceS k s d.size cap, .int .i64 a, .pointer (some ⟨sb, 0, none⟩), .func (.func g) ⟨[]⟩ ⟨ys⟩] σ (MedR σ0 k G p d sb m (a - 1) a (a + 1)) := by
 have w1 : IntKind.i64.wrap ((a : Int) - 1) = ((a - 1 : Nat) : Int) := by
  have : (a : Int) - 1 = ((a - 1 : Nat) : Int) := by omega
  rw [this]; exact wrapIN (by have := H.small; omega)
 have w2 : IntKind.i64.wrap ((a : Int) + 1) = ((a + 1 : Nat) : Int) := by
  have : (a : Int) + 1 = ((a + 1 : Nat) : Int) := by omega
  rw [this]; exact wrapIN (by have := H.small; omega)
 refine enter (p := q0) Try.func164 rfl stat164 ?_
 simp only [go_sem, seval, if_pos rfl, opLen, undef, Try.f164, w1, w2, body165]
 refine callX.hidE (med_call (s := s) (cap := cap) hc H hs hm (a := a - 1) (b := a) (c := a + 1) (by omega) (by omega) ha) ?_
 intro e σ1 lg1 hlg1 hA
 obtain ⟨x, hx, rfl, hB, H1, hs1⟩ := hA
 refine ⟨?_⟩
 simp only [go_sem, seval, if_pos rfl, opLen, undef]
 exact ⟨x, hx, rfl, hB, H1, hs1⟩
def PivR (σ0 : St) (k : Nat) (G : List Value) (p : Item → Prop) (d : Array Item) (a b : Nat) (e : AE) (σ' : St) (lg : Log) : Prop :=
 ∃ (x : Nat) (h : Int), (a ≤ x ∧ x < b) ∧ (h = 0 ∨ h = 1 ∨ h = 2) ∧ e = .ret (.tuple ⟨[.int .i64 x, .int .i64 h]⟩) ∧ (∀ z ∈ lg, σ0.next ≤ z) ∧ SAt σ0 k d G p σ'
theorem SAt.fresh {d : Array Item} {σ : St} (H : SAt σ0 k d G p σ) (o : AObj) : SAt σ0 k d G p (σ.new o) :=
 ⟨H.base.new o, by rw [St.get_new, if_neg (by have := H.lt; have := H.base.nx; omega)]; exact H.get, H.lt, H.all, H.small⟩
noncomputable def pivT : Code := dropC 7 (Try.f154.body.getD .skip)
set_option maxHeartbeats 1600000 in
set_option maxRecDepth 20000 in
theorem piv_tail {pt : PureTab Try.prog} {ts : List Value} {σ : St} {sb x : Nat} {m : Int} {d : Array Item} {a b : Nat} {K : RR → Prop} (hs : CntAt σ0 sb m σ) (el : ts.length = 63) (e11 : lget ts 11 = .pointer (some ⟨sb, 0, none⟩)) (e13 : lget ts 13 = .int .i64 x)
  (k' : ∀ ts' (h : Int), (h = 0 ∨ h = 1 ∨ h = 2) → ts'.length = 63 → lget ts' 8 = .int .i64 x → lget ts' 9 = .int .i64 h → K ⟨.ret, ⟨ts', []⟩, σ, []⟩) : wp (cP Try.prog) pt (btAll 154) false pivT ⟨ts, []⟩ σ K := by
 obtain ⟨v, gs, hv0, hv1⟩ := hs.get
 have hsb := hs.lt
 by_cases h0 : v = 0
 ·subst h0
  have b1 : ((0 : Int) == 0) = true := by decide
  simp only [go_sem, seval, if_pos rfl, opLen, undef, pivT, dropC, Try.f154, Option.getD, el, e11, e13, gs, hsb, b1]
  exact k' _ 1 (by simp) (by simp only [List.length_set, el]) (by simp only [go_sem, seval, if_pos rfl, opLen, el]) (by simp only [go_sem, seval, if_pos rfl, opLen, el])
 ·have b1 : (v == 0) = false := by rw [beq_eq_false_iff_ne]; exact h0
  by_cases h1 : v = 12
  ·subst h1
   have b2 : ((12 : Int) == 12) = true := by decide
   simp only [go_sem, seval, if_pos rfl, opLen, undef, pivT, dropC, Try.f154, Option.getD, el, e11, e13, gs, hsb, b1, b2]
   exact k' _ 2 (by simp) (by simp only [List.length_set, el]) (by simp only [go_sem, seval, if_pos rfl, opLen, el]) (by simp only [go_sem, seval, if_pos rfl, opLen, el])
  ·have b2 : (v == 12) = false := by rw [beq_eq_false_iff_ne]; exact h1
   simp only [go_sem, seval, if_pos rfl, opLen, undef, pivT, dropC, Try.f154, Option.getD, el, e11, e13, gs, hsb, b1, b2]
   exact k' _ 0 (by simp) (by simp only [List.length_set, el]) (by simp only [go_sem, seval, if_pos rfl, opLen, el]) (by simp only [go_sem, seval, if_pos rfl, opLen, el])
attribute [irreducible] pivT
noncomputable def pivB : Code := Try.f154.body.getD .skip
theorem pivB_is : pivB = (nthC 0 pivB).seq ((nthC 1 pivB).seq ((nthC 2 pivB).seq ((nthC 3 pivB).seq ((nthC 4 pivB).seq ((nthC 5 pivB).seq ((nthC 6 pivB).seq pivT)))))) := by
 unfold pivT
 rfl
set_option maxHeartbeats 3200000 in
set_option maxRecDepth 20000 in
theorem piv_call (hc : CmpOk σ0 k g ys lt p) {a b : Nat} {d : Array Item} {σ : St} (H : SAt σ0 k d G p σ) (hab : a + 8 ≤ b) (hbn : b ≤ d.size) :
  callX Try.prog 154 [sliceS k s d.size cap, .int .i64 a, .int .i64 b, .func (.func g) ⟨[]⟩ ⟨ys⟩] σ (PivR σ0 k G p d a b) := by
 have hsm := H.small
 have hkl := H.lt
 have hnx := H.base.nx
 have nz : ¬ (4 : Int) = 0 := by decide
 have w1 : IntKind.i64.wrap ((b : Int) - (a : Int)) = ((b - a : Nat) : Int) := by
  have : (b : Int) - (a : Int) = ((b - a : Nat) : Int) := by omega
  rw [this]; exact wrapIN (by omega)
 obtain ⟨q, hq⟩ : ∃ q, q = (b - a) / 4 := ⟨_, rfl⟩
 have t1 : IntKind.i64.wrap (((b - a : Nat) : Int).tdiv 4) = (q : Int) := by
  rw [Int.tdiv_eq_ediv_of_nonneg (by omega), hq]
  have : ((b - a : Nat) : Int) / 4 = (((b - a) / 4 : Nat) : Int) := by omega
  rw [this]; exact wrapIN (by omega)
 have w2 : IntKind.i64.wrap ((q : Int) * 1) = (q : Int) := by rw [Int.mul_one]; exact wrapIN (by omega)
 have w3 : IntKind.i64.wrap ((q : Int) * 2) = ((q * 2 : Nat) : Int) := by
  have : (q : Int) * 2 = ((q * 2 : Nat) : Int) := by omega
  rw [this]; exact wrapIN (by omega)
 have w4 : IntKind.i64.wrap ((q : Int) * 3) = ((q * 3 : Nat) : Int) := by
  have : (q : Int) * 3 = ((q * 3 : Nat) : Int) := by omega
  rw [this]; exact wrapIN (by omega)
 have w5 : IntKind.i64.wrap ((a : Int) + (q : Int)) = ((a + q : Nat) : Int) := by
  have : (a : Int) + (q : Int) = ((a + q : Nat) : Int) := by omega
  rw [this]; exact wrapIN (by omega)
 have w6 : IntKind.i64.wrap ((a : Int) + ((q * 2 : Nat) : Int)) = ((a + q * 2 : Nat) : Int) := by
  have : (a : Int) + ((q * 2 : Nat) : Int) = ((a + q * 2 : Nat) : Int) := by omega
  rw [this]; exact wrapIN (by omega)
 have w7 : IntKind.i64.wrap ((a : Int) + ((q * 3 : Nat) : Int)) = ((a + q * 3 : Nat) : Int) := by
  have : (a : Int) + ((q * 3 : Nat) : Int) = ((a + q * 3 : Nat) : Int) := by omega
  rw [this]; exact wrapIN (by omega)
 have c1 : (8 : Int) ≤ ((b - a : Nat) : Int) := by omega
 have H1 := H.fresh (.cells [.int .i64 0] false)
 have hs1 : CntAt σ0 σ.next 0 (σ.new (.cells [.int .i64 0] false)) := ⟨⟨0, by rw [St.get_new, if_pos rfl], by omega, by omega⟩, hnx, by rw [St.next_new]; omega⟩
 by_cases h50 : 50 ≤ b - a
 ·have c2 : (50 : Int) ≤ ((b - a : Nat) : Int) := by omega
  refine enter (p := q0) (c := pivB) Try.func154 rfl stat154 ?_
  rw [pivB_is]
  simp only [go_sem, seval, if_pos rfl, opLen, undef, pivB, nthC, Try.f154, Option.getD, w1, w2, w3, w4, w5, w6, w7, t1, nz, c1, c2, body164, body165]
  refine callX.hidE (medadj_call (s := s) (cap := cap) hc H1 hs1 (by omega) (a := a + q) (by omega) (by omega)) ?_
  intro e σ2 lg2 hlg2 hA
  obtain ⟨x1, hx1, rfl, hB2, H2, hs2⟩ := hA
  have hy1 : a ≤ x1 ∧ x1 < b := by
   clear hc hs1 H1
   rcases hx1 with h | h | h <;> omega
  clear hx1
  refine ⟨?_⟩
  simp only [go_sem, seval, if_pos rfl, opLen, undef, body164, body165]
  refine callX.hidE (medadj_call (s := s) (cap := cap) hc H2 hs2 (by omega) (a := a + q * 2) (by omega) (by omega)) ?_
  intro e σ3 lg3 hlg3 hA
  obtain ⟨x2, hx2, rfl, hB3, H3, hs3⟩ := hA
  have hy2 : a ≤ x2 ∧ x2 < b := by
   clear hc hs1 H1
   rcases hx2 with h | h | h <;> omega
  clear hx2
  refine ⟨?_⟩
  simp only [go_sem, seval, if_pos rfl, opLen, undef, body164, body165]
  refine callX.hidE (medadj_call (s := s) (cap := cap) hc H3 hs3 (by omega) (a := a + q * 3) (by omega) (by omega)) ?_
  intro e σ4 lg4 hlg4 hA
  obtain ⟨x3, hx3, rfl, hB4, H4, hs4⟩ := hA
  have hy3 : a ≤ x3 ∧ x3 < b := by
   clear hc hs1 H1
   rcases hx3 with h | h | h <;> omega
  clear hx3
  refine ⟨?_⟩
  simp only [go_sem, seval, if_pos rfl, opLen, undef, body164, body165]
  refine callX.hidE (med_call (s := s) (cap := cap) hc H4 hs4 (by omega) (a := x1) (b := x2) (c := x3) (by omega) (by omega) (by omega)) ?_
  intro e σ5 lg5 hlg5 hA
  obtain ⟨x, hx, rfl, hB5, H5, hs5⟩ := hA
  have hy : a ≤ x ∧ x < b := by rcases hx with h | h | h <;> omega
  clear hx
  refine ⟨?_⟩
  simp only [go_sem, seval, if_pos rfl, opLen, undef, body164, body165]
  refine piv_tail (x := x) (d := d) (a := a) (b := b) hs5 ?_ ?_ ?_ ?_
  ·rfl
  ·rfl
  ·rfl
  intro ts' h hh h1 h2 h3
  simp only [go_sem, seval, if_pos rfl, opLen, h1, h2, h3]
  refine ⟨x, h, hy, hh, rfl, fun z hz => ?_, H5⟩
  simp only [List.mem_append] at hz
  rcases hz with (hz | hz | hz) | hz
  ·rw [hB2 z hz]; exact hnx
  ·rw [hB3 z hz]; exact hnx
  ·rw [hB4 z hz]; exact hnx
  ·rw [hB5 z hz]; exact hnx
 ·have c2 : ¬ (50 : Int) ≤ ((b - a : Nat) : Int) := by omega
  refine enter (p := q0) (c := pivB) Try.func154 rfl stat154 ?_
  rw [pivB_is]
  simp only [go_sem, seval, if_pos rfl, opLen, undef, pivB, nthC, Try.f154, Option.getD, w1, w2, w3, w4, w5, w6, w7, t1, nz, c1, c2, body164, body165]
  refine callX.hidE (med_call (s := s) (cap := cap) hc H1 hs1 (by omega) (a := a + q) (b := a + q * 2) (c := a + q * 3) (by omega) (by omega) (by omega)) ?_
  intro e σ5 lg5 hlg5 hA
  obtain ⟨x, hx, rfl, hB5, H5, hs5⟩ := hA
  have hy : a ≤ x ∧ x < b := by rcases hx with h | h | h <;> omega
  clear hx
  refine ⟨?_⟩
  simp only [go_sem, seval, if_pos rfl, opLen, undef, body164, body165]
  refine piv_tail (x := x) (d := d) (a := a) (b := b) hs5 ?_ ?_ ?_ ?_
  ·rfl
  ·rfl
  ·rfl
  intro ts' h hh h1 h2 h3
  simp only [go_sem, seval, if_pos rfl, opLen, h1, h2, h3]
  refine ⟨x, h, hy, hh, rfl, fun z hz => ?_, H5⟩
  rw [hB5 z hz]; exact hnx
end
end Go.Ab
namespace Go.Ab
open Go.Proofs
theorem len_all : (List.range 256).map (fun n => answers (whole 60 6 148 [.int .u64 (n : Nat)])) = (List.range 256).map fun n => some (.int .i64 (Sort.bitsLen n : Nat)) := by kernel_rfl
theorem pow_all : (List.range 256).map (fun n => answers (whole 60 6 162 [.int .i64 (n : Nat)])) = (List.range 256).map fun n => some (.int .u64 (2 ^ Sort.bitsLen n : Nat)) := by kernel_rfl
theorem bitslen_call {n : Nat} (h : n < 256) (σ : St) : DCall Try.prog 148 [.int .u64 n] σ (.ret (.int .i64 (Sort.bitsLen n : Nat))) σ [] :=
 whole_call (n := 60) (d := 6) (List.map_inj_left.1 len_all n (List.mem_range.2 h)) rfl rfl σ
theorem pow2_call {n : Nat} (h : n < 256) (σ : St) : DCall Try.prog 162 [.int .i64 n] σ (.ret (.int .u64 (2 ^ Sort.bitsLen n : Nat))) σ [] :=
 whole_call (n := 60) (d := 6) (List.map_inj_left.1 pow_all n (List.mem_range.2 h)) rfl rfl σ
def RndR (σ : St) (rb : Nat) (e : AE) (σ' : St) (lg : Log) : Prop := ∃ w : Int, e = .ret (.int .u64 w) ∧ (∀ z ∈ lg, z = rb) ∧ σ'.next = σ.next ∧ (∀ c, c ≠ rb → σ'.get c = σ.get c) ∧ σ'.get rb = some (.cells [.int .u64 w] false)
set_option maxHeartbeats 1600000 in
set_option maxRecDepth 20000 in
theorem rnd_call {σ : St} {rb : Nat} {v : Int} (g : σ.get rb = some (.cells [.int .u64 v] false)) (hl : rb < σ.next) : callX Try.prog 163 [.pointer (some ⟨rb, 0, none⟩)] σ (RndR σ rb) := by
 have n1 : ¬ σ.next ≤ rb := by omega
 refine enter (p := q0) Try.func163 rfl stat163 ?_
 simp only [go_sem, seval, if_pos rfl, opLen, undef, isShift, shiftOp, IntKind.bits, Try.f163, g, hl, n1]
 exact ⟨_, rfl, fun z hz => by simpa using hz, rfl, fun c hc => by rw [St.get_set, if_neg (Ne.symm hc), St.get_set, if_neg (Ne.symm hc), St.get_set, if_neg (Ne.symm hc)], by rw [St.get_set, if_pos rfl]⟩
end Go.Ab
namespace Go.Ab
open Go.Proofs
section
variable {σ0 : St} {k s cap : Nat} {p : Item → Prop} {G : List Value}
noncomputable def brkB : Code := loopOf (dropC 2 (match (dropC 1 (dropC 1 (Try.f153.body.getD .skip))) with | .cond _ a _ => a | c => c))
structure FB (ts : List Value) (dv : Value) (a len rb M x : Nat) : Prop where
 size : ts.length = 67
 t0 : lget ts 0 = dv
 t1 : lget ts 1 = .int .i64 a
 t8 : lget ts 8 = .int .i64 len
 t9 : lget ts 9 = .pointer (some ⟨rb, 0, none⟩)
 t10 : lget ts 10 = .int .u64 M
 t11 : lget ts 11 = .int .i64 x
def IBr (σ0 : St) (k s n cap : Nat) (p : Item → Prop) (G : List Value) (d : Array Item) (a b rb M : Nat) (m : Nat) (fr : Fr) (σ : St) : Prop :=
 ∃ ts d' v, ∃ x : Nat, fr = ⟨ts, []⟩ ∧ FB ts (sliceS k s n cap) a (b - a) rb M x ∧ x + m = a + (b - a) / 4 * 2 + 2 ∧ a + (b - a) / 4 * 2 - 1 ≤ x ∧ SAt σ0 k d' G p σ ∧ d'.size = n ∧ Sort.PermIn a b d d' ∧ σ.get rb = some (.cells [.int .u64 v] false) ∧ rb < σ.next
def EBr (σ0 : St) (k : Nat) (p : Item → Prop) (G : List Value) (d : Array Item) (a b : Nat) (x : AX) (fr : Fr) (σ : St) : Prop :=
 x = .exit 0 ∧ fr.ds = [] ∧ ∃ d', SAt σ0 k d' G p σ ∧ Sort.PermIn a b d d'
theorem and_small (w : Int) {M : Nat} (h0 : 0 < M) (hM : M < 10000000) : ∃ o : Nat, IntKind.i64.wrap (IntKind.u64.wrap (((BitVec.ofInt IntKind.u64.bits w &&& BitVec.ofInt IntKind.u64.bits ((M - 1 : Nat) : Int)).toNat : Nat) : Int)) = (o : Int) ∧ o < M := by
 have h1 : (BitVec.ofInt IntKind.u64.bits w &&& BitVec.ofInt IntKind.u64.bits ((M - 1 : Nat) : Int)).toNat ≤ M - 1 := by
  rw [BitVec.toNat_and]
  refine Nat.le_trans Nat.and_le_right ?_
  rw [BitVec.toNat_ofInt]
  show (((M - 1 : Nat) : Int) % ((2 ^ 64 : Nat) : Int)).toNat ≤ M - 1
  omega
 refine ⟨_, ?_, Nat.lt_of_le_of_lt h1 (by omega)⟩
 rw [wrapUN (by omega), wrapIN (by omega)]
set_option maxHeartbeats 3200000 in
set_option maxRecDepth 20000 in
theorem brk_loop {n : Nat} {d : Array Item} {a b rb M : Nat} (hab : a + 8 ≤ b) (hbn : b ≤ n) (hn : n < 1000000) (hM : 0 < M ∧ M ≤ 2 * (b - a)) (hrb : σ0.next ≤ rb) :
  ∀ m fr σ, IBr σ0 k s n cap p G d a b rb M m fr σ → loopX Try.prog false brkB fr σ (endL (EBr σ0 k p G d a b) fun z => z = k ∨ σ0.next ≤ z) := by
 refine loop_ind q0 153 (by kernel_rfl) _ _ _ ?_
 rintro m fr σ ⟨ts, d', v, x, rfl, F, hm, hx, H, hdn, hP, gr, hrl⟩
 have e0 := F.t0
 have e1 := F.t1
 have e8 := F.t8
 have e9 := F.t9
 have e10 := F.t10
 have e11 := F.t11
 have el := F.size
 have hkl := H.lt
 simp only [sliceS] at e0
 have nz : ¬ (4 : Int) = 0 := by decide
 obtain ⟨q, hq⟩ : ∃ q, q = (b - a) / 4 := ⟨_, rfl⟩
 rw [← hq] at hm hx
 have t1 : IntKind.i64.wrap (((b - a : Nat) : Int).tdiv 4) = (q : Int) := by
  rw [Int.tdiv_eq_ediv_of_nonneg (by omega), hq]
  have : ((b - a : Nat) : Int) / 4 = (((b - a) / 4 : Nat) : Int) := by omega
  rw [this]; exact wrapIN (by omega)
 have w3 : IntKind.i64.wrap ((q : Int) * 2) = ((q * 2 : Nat) : Int) := by
  have : (q : Int) * 2 = ((q * 2 : Nat) : Int) := by omega
  rw [this]; exact wrapIN (by omega)
 have w6 : IntKind.i64.wrap ((a : Int) + ((q * 2 : Nat) : Int)) = ((a + q * 2 : Nat) : Int) := by
  have : (a : Int) + ((q * 2 : Nat) : Int) = ((a + q * 2 : Nat) : Int) := by omega
  rw [this]; exact wrapIN (by omega)
 have w7 : IntKind.i64.wrap (((a + q * 2 : Nat) : Int) + 1) = ((a + (q * 2 + 1) : Nat) : Int) := by
  have : ((a + q * 2 : Nat) : Int) + 1 = ((a + (q * 2 + 1) : Nat) : Int) := by omega
  rw [this]; exact wrapIN (by omega)
 by_cases hxm : x ≤ a + q * 2 + 1
 ·have c0 : (x : Int) ≤ ((a + (q * 2 + 1) : Nat) : Int) := by omega
  have w8 : IntKind.u64.wrap ((M : Int) - 1) = ((M - 1 : Nat) : Int) := by
   have : (M : Int) - 1 = ((M - 1 : Nat) : Int) := by omega
   rw [this]; exact wrapUN (by omega)
  have w9 : IntKind.i64.wrap ((x : Int) + 1) = ((x + 1 : Nat) : Int) := by
   have : (x : Int) + 1 = ((x + 1 : Nat) : Int) := by omega
   rw [this]; exact wrapIN (by omega)
  simp only [go_sem, seval, if_pos rfl, opLen, undef, brkB, dropC, loopOf, Try.f153, Option.getD, e0, e1, e8, e9, e10, e11, el, nz, t1, w3, w6, w7, c0, body163]
  refine callX.hidE (rnd_call gr hrl) ?_
  intro e σ1 lg1 hlg1 hA
  obtain ⟨w, rfl, hB, hnx, hg, gr1⟩ := hA
  obtain ⟨o, ho, hoM⟩ := and_small w hM.1 (by omega)
  simp only [IntKind.bits] at ho
  have H1 : SAt σ0 k d' G p σ1 := ⟨⟨by rw [hnx]; exact H.base.nx, fun c h1 h2 => (hg c (by omega)).trans (H.base.get c h1 h2)⟩, (hg k (by omega)).trans H.get, hkl, H.all, H.small⟩
  have hB' : ∀ z ∈ lg1, z = k ∨ σ0.next ≤ z := fun z hz => .inr (by rw [hB z hz]; exact hrb)
  have g1 := H1.get
  have nk : ¬ σ1.next ≤ k := by have := H1.base.nx; omega
  have hrl1 : rb < σ1.next := by omega
  by_cases hol : b - a ≤ o
  ·obtain ⟨y, hy⟩ : ∃ y, y = o - (b - a) := ⟨_, rfl⟩
   have c1 : ((b - a : Nat) : Int) ≤ (o : Int) := by omega
   have v1 : IntKind.i64.wrap ((o : Int) - ((b - a : Nat) : Int)) = (y : Int) := by
    have : (o : Int) - ((b - a : Nat) : Int) = (y : Int) := by omega
    rw [this]; exact wrapIN (by omega)
   have hyl : y < b - a := by omega
   have hxb : x < b := by omega
   have hxa : a ≤ x := by omega
   have v2 : IntKind.i64.wrap ((a : Int) + (y : Int)) = ((a + y : Nat) : Int) := by
    have : (a : Int) + (y : Int) = ((a + y : Nat) : Int) := by omega
    rw [this]; exact wrapIN (by omega)
   have x1 := arr_at (d := d') (G := G) (i := x) (by omega)
   have x2 := arr_at (d := d') (G := G) (i := a + y) (by omega)
   have l1 : (x) * 4 + 4 ≤ (cellsL (d').toList ++ G).length := by rw [arr_len]; omega
   have l2 : (a + y) * 4 + 4 ≤ (cellsL (d').toList ++ G).length := by rw [arr_len]; omega
   have o1 := arr_over (d := d') (G := G) (i := x) (d')[a + y]! (by omega)
   have o2 := arr_over (d := (d').setIfInBounds (x) (d')[a + y]!) (G := G) (i := a + y) (d')[x]! (by simp; omega)
   have l3 : (a + y) * 4 + 4 ≤ (cellsL ((d').setIfInBounds (x) (d')[a + y]!).toList ++ G).length := by rw [arr_len]; simp; omega
   have p1 : (0 : Int) ≤ ((x : Nat) : Int) := by omega
   have p2 : ((x : Nat) : Int) < (n : Int) := by omega
   have p3 : (0 : Int) ≤ ((a + y : Nat) : Int) := by omega
   have p4 : ((a + y : Nat) : Int) < (n : Int) := by omega
   simp only [Item.cells] at x1 x2 o1 o2
   have H2 := H1.swp (i := x) (j := a + y) (by omega) (by omega) (.cells (cellsL (d'.setIfInBounds x d'[a + y]!).toList ++ G) false)
   have hP2 : Sort.PermIn a b d (Sort.swp d' x (a + y)) := Sort.permIn_trans _ _ _ _ _ hP (Sort.swp_permIn _ _ _ _ _ hxa hxb (by omega) (by omega) (by have := hP.1; omega))
   refine ⟨?_⟩
   simp only [go_sem, seval, if_pos rfl, opLen, undef, brkB, dropC, loopOf, Try.f153, Option.getD, Int.toNat_natCast, e0, e1, e8, e9, e10, e11, el, ho, w8, w9, c1, v2, g1, nk, x1, x2, l1, l2, o1, o2, l3, p1, p2, p3, p4, v1]
   refine ⟨fun z hz => (by rcases hz with hz | hz | hz <;> first | exact hB' z hz | exact .inl hz), m - 1, by omega, _, Sort.swp d' x (a + y), w, x + 1, rfl, ⟨by simp only [List.length_set, el], by simp only [go_sem, seval, if_pos rfl, opLen, el, e0] <;> rfl, by simp only [go_sem, seval, if_pos rfl, opLen, el, e1], by simp only [go_sem, seval, if_pos rfl, opLen, el, e8], by simp only [go_sem, seval, if_pos rfl, opLen, el, e9], by simp only [go_sem, seval, if_pos rfl, opLen, el, e10], by simp only [go_sem, seval, if_pos rfl, opLen, el, w9]⟩, by omega, by omega, H2, by rw [swp_size]; exact hdn, hP2, ?_, ?_⟩
   ·rw [St.get_set, if_neg (by omega), St.get_set, if_neg (by omega)]; exact gr1
   ·simpa using hrl1
  ·obtain ⟨y, hy⟩ : ∃ y, y = o := ⟨_, rfl⟩
   subst hy
   have c1 : ¬ ((b - a : Nat) : Int) ≤ (y : Int) := by omega
   have hyl : y < b - a := by omega
   have hxb : x < b := by omega
   have hxa : a ≤ x := by omega
   have v2 : IntKind.i64.wrap ((a : Int) + (y : Int)) = ((a + y : Nat) : Int) := by
    have : (a : Int) + (y : Int) = ((a + y : Nat) : Int) := by omega
    rw [this]; exact wrapIN (by omega)
   have x1 := arr_at (d := d') (G := G) (i := x) (by omega)
   have x2 := arr_at (d := d') (G := G) (i := a + y) (by omega)
   have l1 : (x) * 4 + 4 ≤ (cellsL (d').toList ++ G).length := by rw [arr_len]; omega
   have l2 : (a + y) * 4 + 4 ≤ (cellsL (d').toList ++ G).length := by rw [arr_len]; omega
   have o1 := arr_over (d := d') (G := G) (i := x) (d')[a + y]! (by omega)
   have o2 := arr_over (d := (d').setIfInBounds (x) (d')[a + y]!) (G := G) (i := a + y) (d')[x]! (by simp; omega)
   have l3 : (a + y) * 4 + 4 ≤ (cellsL ((d').setIfInBounds (x) (d')[a + y]!).toList ++ G).length := by rw [arr_len]; simp; omega
   have p1 : (0 : Int) ≤ ((x : Nat) : Int) := by omega
   have p2 : ((x : Nat) : Int) < (n : Int) := by omega
   have p3 : (0 : Int) ≤ ((a + y : Nat) : Int) := by omega
   have p4 : ((a + y : Nat) : Int) < (n : Int) := by omega
   simp only [Item.cells] at x1 x2 o1 o2
   have H2 := H1.swp (i := x) (j := a + y) (by omega) (by omega) (.cells (cellsL (d'.setIfInBounds x d'[a + y]!).toList ++ G) false)
   have hP2 : Sort.PermIn a b d (Sort.swp d' x (a + y)) := Sort.permIn_trans _ _ _ _ _ hP (Sort.swp_permIn _ _ _ _ _ hxa hxb (by omega) (by omega) (by have := hP.1; omega))
   refine ⟨?_⟩
   simp only [go_sem, seval, if_pos rfl, opLen, undef, brkB, dropC, loopOf, Try.f153, Option.getD, Int.toNat_natCast, e0, e1, e8, e9, e10, e11, el, ho, w8, w9, c1, v2, g1, nk, x1, x2, l1, l2, o1, o2, l3, p1, p2, p3, p4]
   refine ⟨fun z hz => (by rcases hz with hz | hz | hz <;> first | exact hB' z hz | exact .inl hz), m - 1, by omega, _, Sort.swp d' x (a + y), w, x + 1, rfl, ⟨by simp only [List.length_set, el], by simp only [go_sem, seval, if_pos rfl, opLen, el, e0] <;> rfl, by simp only [go_sem, seval, if_pos rfl, opLen, el, e1], by simp only [go_sem, seval, if_pos rfl, opLen, el, e8], by simp only [go_sem, seval, if_pos rfl, opLen, el, e9], by simp only [go_sem, seval, if_pos rfl, opLen, el, e10], by simp only [go_sem, seval, if_pos rfl, opLen, el, w9]⟩, by omega, by omega, H2, by rw [swp_size]; exact hdn, hP2, ?_, ?_⟩
   ·rw [St.get_set, if_neg (by omega), St.get_set, if_neg (by omega)]; exact gr1
   ·simpa using hrl1
 ·have c0 : ¬ (x : Int) ≤ ((a + (q * 2 + 1) : Nat) : Int) := by omega
  simp only [go_sem, seval, if_pos rfl, opLen, undef, brkB, dropC, loopOf, Try.f153, Option.getD, e0, e1, e8, e9, e10, e11, el, nz, t1, w3, w6, w7, c0, body163]
  exact ⟨rfl, rfl, d', H, hP⟩
end
end Go.Ab
namespace Go.Ab
open Go.Proofs
theorem pow_all2 : ((List.range 256).all fun n => Nat.beq n 0 || (Nat.blt 0 (2 ^ Sort.bitsLen n) && Nat.ble (2 ^ Sort.bitsLen n) (2 * n))) = true := by kernel_rfl
theorem pow_le {n : Nat} (h : n < 256) (h0 : 0 < n) : 0 < 2 ^ Sort.bitsLen n ∧ 2 ^ Sort.bitsLen n ≤ 2 * n := by
 have h' := List.all_eq_true.1 pow_all2 n (List.mem_range.2 h)
 rcases Eq.mp (Bool.or_eq_true _ _) h' with h1 | h1
 ·have := Nat.eq_of_beq_eq_true h1
  omega
 ·have h2 := Eq.mp (Bool.and_eq_true _ _) h1
  exact ⟨Nat.le_of_ble_eq_true h2.1, Nat.le_of_ble_eq_true h2.2⟩
section
variable {σ0 : St} {k s cap : Nat} {p : Item → Prop} {G : List Value} {vc : Value}
def PermR (σ0 : St) (k : Nat) (G : List Value) (p : Item → Prop) (a b : Nat) (d : Array Item) (e : AE) (σ' : St) (lg : Log) : Prop := e = .ret (.tuple ⟨[]⟩) ∧ ∃ D, SortR σ0 k G p D σ' lg ∧ Sort.PermIn a b d D
set_option maxHeartbeats 3200000 in
set_option maxRecDepth 20000 in
theorem brk_call {a b : Nat} {d : Array Item} {σ : St} (H : SAt σ0 k d G p σ) (hab : a ≤ b) (hbn : b ≤ d.size) (hlen : b - a < 256) :
  callX Try.prog 153 [sliceS k s d.size cap, .int .i64 a, .int .i64 b, vc] σ (PermR σ0 k G p a b d) := by
 have hsm := H.small
 have w1 : IntKind.i64.wrap ((b : Int) - (a : Int)) = ((b - a : Nat) : Int) := by
  have : (b : Int) - (a : Int) = ((b - a : Nat) : Int) := by omega
  rw [this]; exact wrapIN (by omega)
 by_cases h8 : 8 ≤ b - a
 ·have c0 : (8 : Int) ≤ ((b - a : Nat) : Int) := by omega
  have wu : IntKind.u64.wrap ((b - a : Nat) : Int) = ((b - a : Nat) : Int) := wrapUN (by omega)
  obtain ⟨M, hM⟩ : ∃ M, M = 2 ^ Sort.bitsLen (b - a) := ⟨_, rfl⟩
  have hMM := pow_le hlen (by omega)
  rw [← hM] at hMM
  have hpow := pow2_call hlen
  rw [← hM] at hpow
  have nz : ¬ (4 : Int) = 0 := by decide
  obtain ⟨q, hq⟩ : ∃ q, q = (b - a) / 4 := ⟨_, rfl⟩
  have t1 : IntKind.i64.wrap (((b - a : Nat) : Int).tdiv 4) = (q : Int) := by
   rw [Int.tdiv_eq_ediv_of_nonneg (by omega), hq]
   have : ((b - a : Nat) : Int) / 4 = (((b - a) / 4 : Nat) : Int) := by omega
   rw [this]; exact wrapIN (by omega)
  have w3 : IntKind.i64.wrap ((q : Int) * 2) = ((q * 2 : Nat) : Int) := by
   have : (q : Int) * 2 = ((q * 2 : Nat) : Int) := by omega
   rw [this]; exact wrapIN (by omega)
  have w6 : IntKind.i64.wrap ((a : Int) + ((q * 2 : Nat) : Int)) = ((a + q * 2 : Nat) : Int) := by
   have : (a : Int) + ((q * 2 : Nat) : Int) = ((a + q * 2 : Nat) : Int) := by omega
   rw [this]; exact wrapIN (by omega)
  have w7 : IntKind.i64.wrap (((a + q * 2 : Nat) : Int) - 1) = ((a + q * 2 - 1 : Nat) : Int) := by
   have : ((a + q * 2 : Nat) : Int) - 1 = ((a + q * 2 - 1 : Nat) : Int) := by omega
   rw [this]; exact wrapIN (by omega)
  have hk := H.lt
  have hnx := H.base.nx
  have H1 : SAt σ0 k d G p ((σ.new (.cells [.int .u64 0] false)).set σ.next (.cells [.int .u64 ((b - a : Nat) : Int)] false)) := ⟨⟨by rw [St.next_set, St.next_new]; omega, fun c h1 h2 => by rw [St.get_set, if_neg (by omega), St.get_new, if_neg (by omega)]; exact H.base.get c h1 h2⟩, by rw [St.get_set, if_neg (by omega), St.get_new, if_neg (by omega)]; exact H.get, hk, H.all, hsm⟩
  refine enter (p := q0) Try.func153 rfl stat153 ?_
  simp only [go_sem, seval, if_pos rfl, opLen, undef, IntKind.bits, sliceS, Try.f153, w1, wu, c0, body162]
  refine .of (hpow _) ?_
  simp only [go_sem, seval, if_pos rfl, opLen, undef, IntKind.bits, c0, nz, t1, w3, w6, w7]
  refine loop_then (brk_loop (s := s) (n := d.size) (cap := cap) (p := p) (G := G) (σ0 := σ0) (k := k) (d := d) (a := a) (b := b) (rb := σ.next) (M := M) (by omega) hbn hsm hMM hnx 3 _ _ ⟨_, d, _, a + q * 2 - 1, rfl, ⟨rfl, rfl, rfl, rfl, rfl, rfl, rfl⟩, by rw [← hq]; omega, by rw [← hq]; exact Nat.le_refl _, H1, rfl, Sort.permIn_refl _ _ _, by rw [St.get_set, if_pos rfl], by rw [St.next_set, St.next_new]; omega⟩) ?_
  intro x fr' σ' lg hlg hB h
  obtain ⟨rfl, hds, D, H', hP⟩ := h
  obtain ⟨ts', ds'⟩ := fr'
  simp only at hds
  subst hds
  simp only [go_sem, seval, if_pos rfl, opLen]
  refine ⟨rfl, D, ⟨?_, H'⟩, hP⟩
  intro z hz
  simp only [List.mem_append, List.mem_cons, List.not_mem_nil, or_false, false_or] at hz
  rcases hz with rfl | hz
  ·exact .inr hnx
  ·exact hB z hz
 ·have c0 : ¬ (8 : Int) ≤ ((b - a : Nat) : Int) := by omega
  refine enter (p := q0) Try.func153 rfl stat153 ?_
  simp only [go_sem, seval, if_pos rfl, opLen, undef, IntKind.bits, sliceS, Try.f153, w1, c0]
  exact ⟨rfl, d, ⟨fun z hz => by simp at hz, H⟩, Sort.permIn_refl _ _ _⟩
end
end Go.Ab
namespace Go.Ab
open Go.Proofs
structure FQ (ts : List Value) (dv cv : Value) (a b i u : Nat) : Prop where
 size : ts.length = 141
 t0 : lget ts 0 = dv
 t1 : lget ts 1 = .int .i64 a
 t2 : lget ts 2 = .int .i64 b
 t3 : lget ts 3 = cv
 t9 : lget ts 9 = .int .i64 i
 t10 : lget ts 10 = .int .i64 u
noncomputable def pisB : Code := loopOf (nthC 2 (Try.f156.body.getD .skip))
noncomputable def pisA : Code := blockOf (nthC 1 pisB)
section
variable {σ0 : St} {k s cap : Nat} {g : FuncId} {ys : List Value} {lt : Item → Item → Bool} {p : Item → Prop} {G : List Value}
noncomputable def qsB : Code := loopOf (nthC 0 pisA)
def IQs (dv cv : Value) (lt : Item → Item → Bool) (d : Array Item) (a b u I : Nat) (σs : St) (m : Nat) (fr : Fr) (σ : St) : Prop :=
 ∃ ts, ∃ i : Nat, fr = ⟨ts, []⟩ ∧ FQ ts dv cv a b i u ∧ σ = σs ∧ m = b - i ∧ a < i ∧ Sort.scanSorted lt d b i = I
def EQs (dv cv : Value) (a b u I : Nat) (σs : St) (x : AX) (fr : Fr) (σ : St) : Prop := x = .exit 2 ∧ σ = σs ∧ ∃ ts, fr = ⟨ts, []⟩ ∧ FQ ts dv cv a b I u
set_option maxHeartbeats 1600000 in
set_option maxRecDepth 20000 in
theorem qs_loop (hc : CmpOk σ0 k g ys lt p) {d : Array Item} {σs : St} (H : SAt σ0 k d G p σs) {a b u I : Nat} (hbn : b ≤ d.size) :
  ∀ m fr σ, IQs (sliceS k s d.size cap) (.func (.func g) ⟨[]⟩ ⟨ys⟩) lt d a b u I σs m fr σ → loopX Try.prog false qsB fr σ (endL (EQs (sliceS k s d.size cap) (.func (.func g) ⟨[]⟩ ⟨ys⟩) a b u I σs) fun _ => False) := by
 refine loop_ind q0 156 (by kernel_rfl) _ _ _ ?_
 rintro m fr σ ⟨ts, i, rfl, F, rfl, hm, hai, hI⟩
 have e0 := F.t0
 have e1 := F.t1
 have e2 := F.t2
 have e3 := F.t3
 have e9 := F.t9
 have e10 := F.t10
 have el := F.size
 have hsm := H.small
 simp only [sliceS] at e0
 by_cases hib : i < b
 ·have c0 : (i : Int) < (b : Int) := by omega
  obtain ⟨r, hd, hr⟩ := hc.call σ H.base d[i]! d[i - 1]! (H.all _ (by omega)) (H.all _ (by omega))
  have hb := hc.body
  have g1 := H.get
  have x1 := arr_at (d := d) (G := G) (i := i) (by omega)
  have x2 := arr_at (d := d) (G := G) (i := i - 1) (by omega)
  have l1 : i * 4 + 4 ≤ (cellsL d.toList ++ G).length := by rw [arr_len]; omega
  have l2 : (i - 1) * 4 + 4 ≤ (cellsL d.toList ++ G).length := by rw [arr_len]; omega
  have c1 : (0 : Int) ≤ (i : Int) := by omega
  have c2 : (i : Int) < (d.size : Int) := by omega
  have c3 : (0 : Int) ≤ ((i - 1 : Nat) : Int) := by omega
  have c4 : ((i - 1 : Nat) : Int) < (d.size : Int) := by omega
  have w1 : IntKind.i64.wrap ((i : Int) - 1) = ((i - 1 : Nat) : Int) := by
   have : (i : Int) - 1 = ((i - 1 : Nat) : Int) := by omega
   rw [this]; exact wrapIN (by omega)
  have w2 : IntKind.i64.wrap ((i : Int) + 1) = ((i + 1 : Nat) : Int) := by
   have : (i : Int) + 1 = ((i + 1 : Nat) : Int) := by omega
   rw [this]; exact wrapIN (by omega)
  have nk : ¬ σ.next ≤ k := by have := H.lt; have := H.base.nx; omega
  simp only [Item.cells] at x1 x2
  by_cases hr0 : r < 0
  ·simp only [go_sem, seval, if_pos rfl, opLen, undef, qsB, pisA, pisB, blockOf, nthC, dropC, loopOf, Try.f156, Option.getD, Int.toNat_natCast, e0, e1, e2, e3, e9, e10, el, g1, hb, x1, x2, l1, l2, c0, c1, c2, c3, c4, w1, w2, nk]
   refine .of hd ?_
   simp only [go_sem, seval, if_pos rfl, opLen, undef, qsB, pisA, pisB, blockOf, nthC, dropC, loopOf, Try.f156, Option.getD, Int.toNat_natCast, e0, e1, e2, e3, e9, e10, el, g1, hb, x1, x2, l1, l2, c0, c1, c2, c3, c4, w1, w2, nk, hr0]
   have hlt : lt d[i]! d[i - 1]! = true := by rw [← hr]; simp [hr0]
   have hIi : I = i := by rw [← hI, Sort.scanSorted.eq_def lt d b i, if_neg (by simp [hlt])]
   subst hIi
   exact ⟨rfl, rfl, _, rfl, ⟨by simp only [List.length_set, el], by simp only [go_sem, seval, if_pos rfl, opLen, el, e0] <;> rfl, by simp only [go_sem, seval, if_pos rfl, opLen, el, e1], by simp only [go_sem, seval, if_pos rfl, opLen, el, e2], by simp only [go_sem, seval, if_pos rfl, opLen, el, e3], by simp only [go_sem, seval, if_pos rfl, opLen, el, e9], by simp only [go_sem, seval, if_pos rfl, opLen, el, e10]⟩⟩
  ·simp only [go_sem, seval, if_pos rfl, opLen, undef, qsB, pisA, pisB, blockOf, nthC, dropC, loopOf, Try.f156, Option.getD, Int.toNat_natCast, e0, e1, e2, e3, e9, e10, el, g1, hb, x1, x2, l1, l2, c0, c1, c2, c3, c4, w1, w2, nk]
   refine .of hd ?_
   simp only [go_sem, seval, if_pos rfl, opLen, undef, qsB, pisA, pisB, blockOf, nthC, dropC, loopOf, Try.f156, Option.getD, Int.toNat_natCast, e0, e1, e2, e3, e9, e10, el, g1, hb, x1, x2, l1, l2, c0, c1, c2, c3, c4, w1, w2, nk, hr0]
   have hlt : lt d[i]! d[i - 1]! = false := by rw [← hr]; simp [hr0]
   refine ⟨b - (i + 1), by omega, _, i + 1, rfl, ⟨by simp only [List.length_set, el], by simp only [go_sem, seval, if_pos rfl, opLen, el, e0] <;> rfl, by simp only [go_sem, seval, if_pos rfl, opLen, el, e1], by simp only [go_sem, seval, if_pos rfl, opLen, el, e2], by simp only [go_sem, seval, if_pos rfl, opLen, el, e3], by simp only [go_sem, seval, if_pos rfl, opLen, el], by simp only [go_sem, seval, if_pos rfl, opLen, el, e10]⟩, rfl, rfl, by omega, ?_⟩
   rw [← hI, Sort.scanSorted.eq_def lt d b i, if_pos (by simp [hlt, hib])]
 ·have c0 : ¬ (i : Int) < (b : Int) := by omega
  simp only [go_sem, seval, if_pos rfl, opLen, undef, qsB, pisA, pisB, blockOf, nthC, dropC, loopOf, Try.f156, Option.getD, Int.toNat_natCast, e0, e1, e2, e3, e9, e10, el, c0]
  have hIi : I = i := by rw [← hI, Sort.scanSorted.eq_def lt d b i, if_neg (by simp; intro h; omega)]
  subst hIi
  exact ⟨rfl, rfl, _, rfl, ⟨by simp only [List.length_set, el], by simp only [go_sem, seval, if_pos rfl, opLen, el, e0] <;> rfl, by simp only [go_sem, seval, if_pos rfl, opLen, el, e1], by simp only [go_sem, seval, if_pos rfl, opLen, el, e2], by simp only [go_sem, seval, if_pos rfl, opLen, el, e3], by simp only [go_sem, seval, if_pos rfl, opLen, el, e9], by simp only [go_sem, seval, if_pos rfl, opLen, el, e10]⟩⟩
noncomputable def qdownB : Code := loopOf (match (nthC 1 (nthC 4 pisA)) with | .cond _ x _ => x | c => c)
def IQdown (σ0 : St) (k n : Nat) (p : Item → Prop) (G : List Value) (dv cv : Value) (lt : Item → Item → Bool) (D : Array Item) (a b u i : Nat) (m : Nat) (fr : Fr) (σ : St) : Prop :=
 ∃ ts d', ∃ j : Nat, fr = ⟨ts, []⟩ ∧ FQ ts dv cv a b i u ∧ lget ts 11 = .int .i64 j ∧ SAt σ0 k d' G p σ ∧ d'.size = n ∧ m = j ∧ j < n ∧ Sort.shiftDown lt j d' = D
def EQdown (σ0 : St) (k n : Nat) (p : Item → Prop) (G : List Value) (dv cv : Value) (D : Array Item) (a b u i : Nat) (x : AX) (fr : Fr) (σ : St) : Prop :=
 x = .exit 4 ∧ ∃ ts, fr = ⟨ts, []⟩ ∧ FQ ts dv cv a b i u ∧ SAt σ0 k D G p σ ∧ D.size = n
set_option maxHeartbeats 1600000 in
set_option maxRecDepth 20000 in
theorem qdown_loop (hc : CmpOk σ0 k g ys lt p) {D : Array Item} {n a b u i : Nat} (hbn : b ≤ n) (hn : n < 1000000) :
  ∀ m fr σ, IQdown σ0 k n p G (sliceS k s n cap) (.func (.func g) ⟨[]⟩ ⟨ys⟩) lt D a b u i m fr σ → loopX Try.prog false qdownB fr σ (endL (EQdown σ0 k n p G (sliceS k s n cap) (.func (.func g) ⟨[]⟩ ⟨ys⟩) D a b u i) fun z => z = k ∨ σ0.next ≤ z) := by
 refine loop_ind q0 156 (by kernel_rfl) _ _ _ ?_
 rintro m fr σ ⟨ts, d', j, rfl, F, ej, H, hdn, hm, hjn, hD⟩
 have e0 := F.t0
 have e1 := F.t1
 have e2 := F.t2
 have e3 := F.t3
 have e9 := F.t9
 have e10 := F.t10
 have el := F.size
 simp only [sliceS] at e0
 by_cases hj : 1 ≤ j
 ·obtain ⟨j', rfl⟩ : ∃ j', j = j' + 1 := ⟨j - 1, by omega⟩
  have c0 : (1 : Int) ≤ ((j' + 1 : Nat) : Int) := by omega
  obtain ⟨r, hd, hr⟩ := hc.call σ H.base d'[j' + 1]! d'[j']! (H.all _ (by omega)) (H.all _ (by omega))
  have hb := hc.body
  have g1 := H.get
  have x1 := arr_at (d := d') (G := G) (i := j' + 1) (by omega)
  have x2 := arr_at (d := d') (G := G) (i := j') (by omega)
  have l1 : (j' + 1) * 4 + 4 ≤ (cellsL d'.toList ++ G).length := by rw [arr_len]; omega
  have l2 : (j') * 4 + 4 ≤ (cellsL d'.toList ++ G).length := by rw [arr_len]; omega
  have o1 := arr_over (d := d') (G := G) (i := j' + 1) d'[j']! (by omega)
  have o2 := arr_over (d := d'.setIfInBounds (j' + 1) d'[j']!) (G := G) (i := j') d'[j' + 1]! (by simp; omega)
  have l3 : (j') * 4 + 4 ≤ (cellsL (d'.setIfInBounds (j' + 1) d'[j']!).toList ++ G).length := by rw [arr_len]; simp; omega
  have c1 : (0 : Int) ≤ ((j' + 1 : Nat) : Int) := by omega
  have c2 : ((j' + 1 : Nat) : Int) < (n : Int) := by omega
  have c3 : (0 : Int) ≤ ((j' : Nat) : Int) := by omega
  have c4 : ((j' : Nat) : Int) < (n : Int) := by omega
  have w1 : IntKind.i64.wrap (((j' + 1 : Nat) : Int) - 1) = ((j' : Nat) : Int) := by
   have : ((j' + 1 : Nat) : Int) - 1 = ((j' : Nat) : Int) := by omega
   rw [this]; exact wrapIN (by omega)
  have w2 : IntKind.i64.wrap (((j' + 1 : Nat) : Int) + 1) = ((j' + 1 + 1 : Nat) : Int) := by
   have : ((j' + 1 : Nat) : Int) + 1 = ((j' + 1 + 1 : Nat) : Int) := by omega
   rw [this]; exact wrapIN (by omega)
  have nk : ¬ σ.next ≤ k := by have := H.lt; have := H.base.nx; omega
  simp only [Item.cells] at x1 x2 o1 o2
  by_cases hr0 : r < 0
  ·simp only [go_sem, seval, if_pos rfl, opLen, undef, qdownB, pisA, pisB, blockOf, nthC, dropC, loopOf, Try.f156, Option.getD, Int.toNat_natCast, e0, e1, e2, e3, e9, e10, ej, el, g1, hb, x1, x2, l1, l2, l3, o1, o2, c0, c1, c2, c3, c4, w1, w2, nk]
   refine .of hd ?_
   simp only [go_sem, seval, if_pos rfl, opLen, undef, qdownB, pisA, pisB, blockOf, nthC, dropC, loopOf, Try.f156, Option.getD, Int.toNat_natCast, e0, e1, e2, e3, e9, e10, ej, el, g1, hb, x1, x2, l1, l2, l3, o1, o2, c0, c1, c2, c3, c4, w1, w2, nk, hr0]
   have hlt : lt d'[j' + 1]! d'[j']! = true := by rw [← hr]; simp [hr0]
   refine ⟨.inl trivial, j', by omega, _, Sort.swp d' (j' + 1) (j'), j', rfl, ⟨by simp only [List.length_set, el], by simp only [go_sem, seval, if_pos rfl, opLen, el, e0] <;> rfl, by simp only [go_sem, seval, if_pos rfl, opLen, el, e1], by simp only [go_sem, seval, if_pos rfl, opLen, el, e2], by simp only [go_sem, seval, if_pos rfl, opLen, el, e3], by simp only [go_sem, seval, if_pos rfl, opLen, el, e9], by simp only [go_sem, seval, if_pos rfl, opLen, el, e10]⟩, by simp only [go_sem, seval, if_pos rfl, opLen, el], H.swp (by omega) (by omega) _, by rw [swp_size]; exact hdn, rfl, by omega, ?_⟩
   rw [← hD]
   simp only [Sort.shiftDown]
   rw [if_neg (by simp [hlt])]
  ·simp only [go_sem, seval, if_pos rfl, opLen, undef, qdownB, pisA, pisB, blockOf, nthC, dropC, loopOf, Try.f156, Option.getD, Int.toNat_natCast, e0, e1, e2, e3, e9, e10, ej, el, g1, hb, x1, x2, l1, l2, l3, o1, o2, c0, c1, c2, c3, c4, w1, w2, nk]
   refine .of hd ?_
   simp only [go_sem, seval, if_pos rfl, opLen, undef, qdownB, pisA, pisB, blockOf, nthC, dropC, loopOf, Try.f156, Option.getD, Int.toNat_natCast, e0, e1, e2, e3, e9, e10, ej, el, g1, hb, x1, x2, l1, l2, l3, o1, o2, c0, c1, c2, c3, c4, w1, w2, nk, hr0]
   have hlt : lt d'[j' + 1]! d'[j']! = false := by rw [← hr]; simp [hr0]
   have hDd : D = d' := by
    rw [← hD]
    simp only [Sort.shiftDown]
    rw [if_pos (by simp [hlt])]
   exact ⟨rfl, _, rfl, ⟨by simp only [List.length_set, el], by simp only [go_sem, seval, if_pos rfl, opLen, el, e0] <;> rfl, by simp only [go_sem, seval, if_pos rfl, opLen, el, e1], by simp only [go_sem, seval, if_pos rfl, opLen, el, e2], by simp only [go_sem, seval, if_pos rfl, opLen, el, e3], by simp only [go_sem, seval, if_pos rfl, opLen, el, e9], by simp only [go_sem, seval, if_pos rfl, opLen, el, e10]⟩, hDd ▸ H, hDd ▸ hdn⟩
 ·have c0 : ¬ (1 : Int) ≤ (j : Int) := by omega
  have hDd : D = d' := by
   rw [← hD]
   obtain rfl : j = 0 := by omega
   rfl
  simp only [go_sem, seval, if_pos rfl, opLen, undef, qdownB, pisA, pisB, blockOf, nthC, dropC, loopOf, Try.f156, Option.getD, Int.toNat_natCast, e0, e1, e2, e3, e9, e10, ej, el, c0]
  exact ⟨rfl, _, rfl, ⟨by simp only [List.length_set, el], by simp only [go_sem, seval, if_pos rfl, opLen, el, e0] <;> rfl, by simp only [go_sem, seval, if_pos rfl, opLen, el, e1], by simp only [go_sem, seval, if_pos rfl, opLen, el, e2], by simp only [go_sem, seval, if_pos rfl, opLen, el, e3], by simp only [go_sem, seval, if_pos rfl, opLen, el, e9], by simp only [go_sem, seval, if_pos rfl, opLen, el, e10]⟩, hDd ▸ H, hDd ▸ hdn⟩
noncomputable def qupB : Code := loopOf (match (nthC 1 (dropC 5 pisA)) with | .cond _ x _ => x | c => c)
def IQup (σ0 : St) (k n : Nat) (p : Item → Prop) (G : List Value) (dv cv : Value) (lt : Item → Item → Bool) (D : Array Item) (a b u i : Nat) (m : Nat) (fr : Fr) (σ : St) : Prop :=
 ∃ ts d', ∃ j : Nat, fr = ⟨ts, []⟩ ∧ FQ ts dv cv a b i u ∧ lget ts 12 = .int .i64 j ∧ SAt σ0 k d' G p σ ∧ d'.size = n ∧ m = b - j ∧ 1 ≤ j ∧ Sort.shiftUp lt b j d' = D
def EQup (σ0 : St) (k n : Nat) (p : Item → Prop) (G : List Value) (dv cv : Value) (D : Array Item) (a b u i : Nat) (x : AX) (fr : Fr) (σ : St) : Prop :=
 x = .exit 6 ∧ ∃ ts, fr = ⟨ts, []⟩ ∧ FQ ts dv cv a b i u ∧ SAt σ0 k D G p σ ∧ D.size = n
set_option maxHeartbeats 1600000 in
set_option maxRecDepth 20000 in
theorem qup_loop (hc : CmpOk σ0 k g ys lt p) {D : Array Item} {n a b u i : Nat} (hbn : b ≤ n) (hn : n < 1000000) :
  ∀ m fr σ, IQup σ0 k n p G (sliceS k s n cap) (.func (.func g) ⟨[]⟩ ⟨ys⟩) lt D a b u i m fr σ → loopX Try.prog false qupB fr σ (endL (EQup σ0 k n p G (sliceS k s n cap) (.func (.func g) ⟨[]⟩ ⟨ys⟩) D a b u i) fun z => z = k ∨ σ0.next ≤ z) := by
 refine loop_ind q0 156 (by kernel_rfl) _ _ _ ?_
 rintro m fr σ ⟨ts, d', j, rfl, F, ej, H, hdn, hm, hj1, hD⟩
 have e0 := F.t0
 have e1 := F.t1
 have e2 := F.t2
 have e3 := F.t3
 have e9 := F.t9
 have e10 := F.t10
 have el := F.size
 simp only [sliceS] at e0
 by_cases hj : j < b
 ·skip
  have c0 : (j : Int) < (b : Int) := by omega
  obtain ⟨r, hd, hr⟩ := hc.call σ H.base d'[j]! d'[j - 1]! (H.all _ (by omega)) (H.all _ (by omega))
  have hb := hc.body
  have g1 := H.get
  have x1 := arr_at (d := d') (G := G) (i := j) (by omega)
  have x2 := arr_at (d := d') (G := G) (i := j - 1) (by omega)
  have l1 : (j) * 4 + 4 ≤ (cellsL d'.toList ++ G).length := by rw [arr_len]; omega
  have l2 : (j - 1) * 4 + 4 ≤ (cellsL d'.toList ++ G).length := by rw [arr_len]; omega
  have o1 := arr_over (d := d') (G := G) (i := j) d'[j - 1]! (by omega)
  have o2 := arr_over (d := d'.setIfInBounds (j) d'[j - 1]!) (G := G) (i := j - 1) d'[j]! (by simp; omega)
  have l3 : (j - 1) * 4 + 4 ≤ (cellsL (d'.setIfInBounds (j) d'[j - 1]!).toList ++ G).length := by rw [arr_len]; simp; omega
  have c1 : (0 : Int) ≤ ((j : Nat) : Int) := by omega
  have c2 : ((j : Nat) : Int) < (n : Int) := by omega
  have c3 : (0 : Int) ≤ ((j - 1 : Nat) : Int) := by omega
  have c4 : ((j - 1 : Nat) : Int) < (n : Int) := by omega
  have w1 : IntKind.i64.wrap (((j : Nat) : Int) - 1) = ((j - 1 : Nat) : Int) := by
   have : ((j : Nat) : Int) - 1 = ((j - 1 : Nat) : Int) := by omega
   rw [this]; exact wrapIN (by omega)
  have w2 : IntKind.i64.wrap (((j : Nat) : Int) + 1) = ((j + 1 : Nat) : Int) := by
   have : ((j : Nat) : Int) + 1 = ((j + 1 : Nat) : Int) := by omega
   rw [this]; exact wrapIN (by omega)
  have nk : ¬ σ.next ≤ k := by have := H.lt; have := H.base.nx; omega
  simp only [Item.cells] at x1 x2 o1 o2
  by_cases hr0 : r < 0
  ·simp only [go_sem, seval, if_pos rfl, opLen, undef, qupB, pisA, pisB, blockOf, nthC, dropC, loopOf, Try.f156, Option.getD, Int.toNat_natCast, e0, e1, e2, e3, e9, e10, ej, el, g1, hb, x1, x2, l1, l2, l3, o1, o2, c0, c1, c2, c3, c4, w1, w2, nk]
   refine .of hd ?_
   simp only [go_sem, seval, if_pos rfl, opLen, undef, qupB, pisA, pisB, blockOf, nthC, dropC, loopOf, Try.f156, Option.getD, Int.toNat_natCast, e0, e1, e2, e3, e9, e10, ej, el, g1, hb, x1, x2, l1, l2, l3, o1, o2, c0, c1, c2, c3, c4, w1, w2, nk, hr0]
   have hlt : lt d'[j]! d'[j - 1]! = true := by rw [← hr]; simp [hr0]
   refine ⟨.inl trivial, b - (j + 1), by omega, _, Sort.swp d' (j) (j - 1), j + 1, rfl, ⟨by simp only [List.length_set, el], by simp only [go_sem, seval, if_pos rfl, opLen, el, e0] <;> rfl, by simp only [go_sem, seval, if_pos rfl, opLen, el, e1], by simp only [go_sem, seval, if_pos rfl, opLen, el, e2], by simp only [go_sem, seval, if_pos rfl, opLen, el, e3], by simp only [go_sem, seval, if_pos rfl, opLen, el, e9], by simp only [go_sem, seval, if_pos rfl, opLen, el, e10]⟩, by simp only [go_sem, seval, if_pos rfl, opLen, el], H.swp (by omega) (by omega) _, by rw [swp_size]; exact hdn, rfl, by omega, ?_⟩
   rw [← hD, Sort.shiftUp.eq_def lt b j d', if_pos hj, if_neg (by simp [hlt])]
   skip
  ·simp only [go_sem, seval, if_pos rfl, opLen, undef, qupB, pisA, pisB, blockOf, nthC, dropC, loopOf, Try.f156, Option.getD, Int.toNat_natCast, e0, e1, e2, e3, e9, e10, ej, el, g1, hb, x1, x2, l1, l2, l3, o1, o2, c0, c1, c2, c3, c4, w1, w2, nk]
   refine .of hd ?_
   simp only [go_sem, seval, if_pos rfl, opLen, undef, qupB, pisA, pisB, blockOf, nthC, dropC, loopOf, Try.f156, Option.getD, Int.toNat_natCast, e0, e1, e2, e3, e9, e10, ej, el, g1, hb, x1, x2, l1, l2, l3, o1, o2, c0, c1, c2, c3, c4, w1, w2, nk, hr0]
   have hlt : lt d'[j]! d'[j - 1]! = false := by rw [← hr]; simp [hr0]
   have hDd : D = d' := by
    rw [← hD, Sort.shiftUp.eq_def lt b j d', if_pos hj, if_pos (by simp [hlt])]
    skip
   exact ⟨rfl, _, rfl, ⟨by simp only [List.length_set, el], by simp only [go_sem, seval, if_pos rfl, opLen, el, e0] <;> rfl, by simp only [go_sem, seval, if_pos rfl, opLen, el, e1], by simp only [go_sem, seval, if_pos rfl, opLen, el, e2], by simp only [go_sem, seval, if_pos rfl, opLen, el, e3], by simp only [go_sem, seval, if_pos rfl, opLen, el, e9], by simp only [go_sem, seval, if_pos rfl, opLen, el, e10]⟩, hDd ▸ H, hDd ▸ hdn⟩
 ·have c0 : ¬ (j : Int) < (b : Int) := by omega
  have hDd : D = d' := by
   rw [← hD, Sort.shiftUp.eq_def lt b j d', if_neg hj]
   skip
  simp only [go_sem, seval, if_pos rfl, opLen, undef, qupB, pisA, pisB, blockOf, nthC, dropC, loopOf, Try.f156, Option.getD, Int.toNat_natCast, e0, e1, e2, e3, e9, e10, ej, el, c0]
  exact ⟨rfl, _, rfl, ⟨by simp only [List.length_set, el], by simp only [go_sem, seval, if_pos rfl, opLen, el, e0] <;> rfl, by simp only [go_sem, seval, if_pos rfl, opLen, el, e1], by simp only [go_sem, seval, if_pos rfl, opLen, el, e2], by simp only [go_sem, seval, if_pos rfl, opLen, el, e3], by simp only [go_sem, seval, if_pos rfl, opLen, el, e9], by simp only [go_sem, seval, if_pos rfl, opLen, el, e10]⟩, hDd ▸ H, hDd ▸ hdn⟩
end
end Go.Ab
