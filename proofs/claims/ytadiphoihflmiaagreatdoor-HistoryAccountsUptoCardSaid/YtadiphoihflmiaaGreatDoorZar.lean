/- The program's types and functions, as tables. Written by a program of this work's own. -/
import Derived.Test.YtadiphoihflmiaaGreatDoorZaq
import Derived.Test.YtadiphoihflmiaaGreatDoorProg
set_option linter.all false
namespace Go.Abs
open Go.Proofs

abbrev LT : BT (TI) := BT.leaf
abbrev NT (l : BT (TI)) (v : Option (TI)) (r : BT (TI)) : BT (TI) := BT.node l v r
abbrev OT : Option (TI) := none
abbrev ST (v : TI) : Option (TI) := some v
abbrev LF : BT (Func) := BT.leaf
abbrev NF (l : BT (Func)) (v : Option (Func)) (r : BT (Func)) : BT (Func) := BT.node l v r
abbrev OF : Option (Func) := none
abbrev SF (v : Func) : Option (Func) := some v
abbrev LV : BT (List (Nat × List Nat)) := BT.leaf
abbrev NV (l : BT (List (Nat × List Nat))) (v : Option (List (Nat × List Nat))) (r : BT (List (Nat × List Nat))) : BT (List (Nat × List Nat)) := BT.node l v r
abbrev OV : Option (List (Nat × List Nat)) := none
abbrev SV (v : List (Nat × List Nat)) : Option (List (Nat × List Nat)) := some v
noncomputable def typeTree : BT TI :=
  (NT (NT (NT (NT (NT (NT (NT (NT (NT LT (ST (TI.mk (TD.ptr 297) 1 8 false)) LT) (ST (TI.mk (TD.iface) 1 16 false)) LT) (ST (TI.mk (TD.slice 180) 1 24 false)) (NT LT (ST (TI.mk
  (TD.struct [3, 76, 189, 77]) 35 72 false)) (NT LT (ST (TI.mk (TD.struct [444, 77, 266, 446]) 11 104 false)) LT))) (ST (TI.mk (TD.int IntKind.i64) 1 8 false)) (NT (NT (NT LT (ST
  (TI.mk (TD.iface) 1 16 false)) LT) (ST (TI.mk (TD.func) 1 8 false)) (NT LT (ST (TI.mk (TD.struct [411, 409]) 128 128 true)) LT)) (ST (TI.mk (TD.iface) 1 16 false)) (NT (NT LT (ST
  (TI.mk (TD.func) 1 8 false)) LT) (ST (TI.mk (TD.func) 1 8 false)) (NT LT (ST (TI.mk (TD.struct [9]) 1 16 true)) LT)))) (ST (TI.mk (TD.ptr 457) 1 8 false)) (NT (NT (NT (NT LT (ST
  (TI.mk (TD.struct [160, 166]) 2 48 false)) LT) (ST (TI.mk (TD.func) 1 8 false)) (NT LT (ST (TI.mk (TD.func) 1 8 false)) LT)) (ST (TI.mk (TD.arr 64 5) 64 64 true)) (NT (NT LT (ST
  (TI.mk (TD.struct [331, 332, 333, 3]) 4 64 false)) LT) (ST (TI.mk (TD.struct [206, 76, 23, 77, 3, 3, 3, 3, 77]) 40 144 false)) (NT LT (ST (TI.mk (TD.int IntKind.u8) 1 1 false))
  LT))) (ST (TI.mk (TD.func) 1 8 false)) (NT (NT LT (ST (TI.mk (TD.func) 1 8 false)) (NT LT (ST (TI.mk (TD.func) 1 8 false)) LT)) (ST (TI.mk (TD.map 76 3) 1 8 false)) (NT (NT LT
  (ST (TI.mk (TD.arr 5 266) 5 40 true)) LT) (ST (TI.mk (TD.slice 249) 1 24 false)) (NT LT (ST (TI.mk (TD.func) 1 8 false)) LT))))) (ST (TI.mk (TD.struct [2, 3, 4, 6]) 4 24 true))
  (NT (NT (NT (NT (NT LT (ST (TI.mk (TD.func) 1 8 false)) LT) (ST (TI.mk (TD.func) 1 8 false)) (NT LT (ST (TI.mk (TD.func) 1 8 false)) LT)) (ST (TI.mk (TD.struct [51, 52, 53, 54,
  55, 56, 24, 57, 58, 59, 60, 61, 62, 63, 64, 65, 66, 67, 68, 69, 70]) 21 504 false)) (NT (NT LT (ST (TI.mk (TD.func) 1 8 false)) LT) (ST (TI.mk (TD.slice 202) 1 24 false)) (NT LT
  (ST (TI.mk (TD.ptr 479) 1 8 false)) LT))) (OT) (NT (NT (NT LT (ST (TI.mk (TD.func) 1 8 false)) LT) (ST (TI.mk (TD.struct [3, 90]) 33 40 true)) LT) (ST (TI.mk (TD.func) 1 8
  false)) (NT (NT LT (ST (TI.mk (TD.func) 1 8 false)) LT) (ST (TI.mk (TD.map 261 3) 1 8 false)) (NT LT (ST (TI.mk (TD.func) 1 8 false)) LT)))) (ST (TI.mk (TD.slice 3) 1 24 false))
  (NT (NT (NT (NT LT (ST (TI.mk (TD.map 76 475) 1 8 false)) LT) (ST (TI.mk (TD.func) 1 8 false)) (NT LT (ST (TI.mk (TD.ptr 335) 1 8 false)) LT)) (ST (TI.mk (TD.struct [3, 86, 86])
  65 72 true)) (NT (NT LT (ST (TI.mk (TD.arr 4 266) 4 32 true)) LT) (ST (TI.mk (TD.func) 1 8 false)) (NT LT (ST (TI.mk (TD.func) 1 8 false)) LT))) (ST (TI.mk (TD.slice 22) 1 24
  false)) (NT (NT (NT LT (ST (TI.mk (TD.struct [77, 77]) 2 48 false)) LT) (ST (TI.mk (TD.func) 1 8 false)) (NT LT (ST (TI.mk (TD.ptr 428) 1 8 false)) LT)) (ST (TI.mk (TD.struct
  [117, 23, 27]) 36 112 false)) (NT (NT LT (ST (TI.mk (TD.func) 1 8 false)) LT) (ST (TI.mk (TD.func) 1 8 false)) LT))))) (ST (TI.mk (TD.int IntKind.i64) 1 8 false)) (NT (NT (NT (NT
  (NT (NT LT (ST (TI.mk (TD.func) 1 8 false)) LT) (OT) LT) (ST (TI.mk (TD.slice 197) 1 24 false)) (NT (NT LT (ST (TI.mk (TD.func) 1 8 false)) LT) (ST (TI.mk (TD.struct [86, 77,
  79]) 97 120 false)) (NT LT (ST (TI.mk (TD.func) 1 8 false)) LT))) (ST (TI.mk (TD.func) 1 8 false)) (NT (NT LT (ST (TI.mk (TD.arr 32 5) 32 32 true)) (NT LT (ST (TI.mk (TD.func) 1
  8 false)) LT)) (ST (TI.mk (TD.slice 96) 1 24 false)) (NT (NT LT (ST (TI.mk (TD.func) 1 8 false)) LT) (ST (TI.mk (TD.func) 1 8 false)) (NT LT (ST (TI.mk (TD.map 3 90) 1 8 false))
  LT)))) (ST (TI.mk (TD.struct [17]) 1 8 false)) (NT (NT (NT (NT LT (ST (TI.mk (TD.func) 1 8 false)) LT) (ST (TI.mk (TD.func) 1 8 false)) (NT LT (ST (TI.mk (TD.func) 1 8 false))
  LT)) (ST (TI.mk (TD.int IntKind.i64) 1 8 false)) (NT (NT LT (ST (TI.mk (TD.struct [251, 335, 4]) 6 80 false)) LT) (ST (TI.mk (TD.struct [17]) 1 8 false)) (NT LT (ST (TI.mk
  (TD.int IntKind.i32) 1 4 false)) LT))) (ST (TI.mk (TD.slice 77) 1 24 false)) (NT (NT (NT LT (ST (TI.mk (TD.struct [89, 228, 23, 173, 86, 90]) 68 144 false)) LT) (ST (TI.mk
  (TD.func) 1 8 false)) (NT LT (ST (TI.mk (TD.arr 5 9) 5 80 false)) LT)) (ST (TI.mk (TD.slice 178) 1 24 false)) (NT (NT LT (ST (TI.mk (TD.func) 1 8 false)) LT) (ST (TI.mk (TD.ptr
  281) 1 8 false)) LT)))) (ST (TI.mk (TD.str) 1 16 false)) (NT (NT (NT (NT (NT LT (ST (TI.mk (TD.func) 1 8 false)) LT) (ST (TI.mk (TD.func) 1 8 false)) (NT LT (ST (TI.mk (TD.func)
  1 8 false)) LT)) (ST (TI.mk (TD.arr 32 5) 32 32 true)) (NT (NT LT (ST (TI.mk (TD.slice 416) 1 24 false)) LT) (ST (TI.mk (TD.func) 1 8 false)) (NT LT (ST (TI.mk (TD.struct [458])
  0 0 false)) LT))) (ST (TI.mk (TD.func) 1 8 false)) (NT (NT (NT LT (ST (TI.mk (TD.func) 1 8 false)) LT) (ST (TI.mk (TD.struct [3, 90]) 33 40 true)) (NT LT (ST (TI.mk (TD.struct
  [266, 266]) 2 16 true)) LT)) (ST (TI.mk (TD.ptr 94) 1 8 false)) (NT (NT LT (ST (TI.mk (TD.func) 1 8 false)) LT) (ST (TI.mk (TD.struct [3, 3, 9]) 3 32 true)) LT))) (ST (TI.mk
  (TD.slice 92) 1 24 false)) (NT (NT (NT (NT LT (ST (TI.mk (TD.struct [77, 3, 3, 4, 4]) 5 48 false)) LT) (ST (TI.mk (TD.func) 1 8 false)) (NT LT (ST (TI.mk (TD.struct [86, 86]) 64
  64 true)) LT)) (ST (TI.mk (TD.struct [83, 3, 3, 76, 85, 88, 89, 77, 90, 79, 31, 23]) 203 344 false)) (NT (NT LT (ST (TI.mk (TD.func) 1 8 false)) LT) (ST (TI.mk (TD.func) 1 8
  false)) (NT LT (ST (TI.mk (TD.ptr 485) 1 8 false)) LT))) (ST (TI.mk (TD.slice 170) 1 24 false)) (NT (NT (NT LT (ST (TI.mk (TD.arr 20 266) 20 160 true)) LT) (ST (TI.mk (TD.func) 1
  8 false)) (NT LT (ST (TI.mk (TD.func) 1 8 false)) LT)) (ST (TI.mk (TD.func) 1 8 false)) (NT (NT LT (ST (TI.mk (TD.func) 1 8 false)) LT) (ST (TI.mk (TD.ptr 284) 1 8 false))
  LT)))))) (ST (TI.mk (TD.func) 1 8 false)) (NT (NT (NT (NT (NT (NT (NT LT (ST (TI.mk (TD.struct [249, 255, 251, 253]) 101 136 false)) LT) (ST (TI.mk (TD.func) 1 8 false)) (NT LT
  (ST (TI.mk (TD.func) 1 8 false)) LT)) (ST (TI.mk (TD.slice 188) 1 24 false)) (NT LT (ST (TI.mk (TD.slice 195) 1 24 false)) (NT LT (ST (TI.mk (TD.func) 1 8 false)) LT))) (ST
  (TI.mk (TD.func) 1 8 false)) (NT (NT (NT LT (ST (TI.mk (TD.func) 1 8 false)) LT) (ST (TI.mk (TD.func) 1 8 false)) (NT LT (ST (TI.mk (TD.func) 1 8 false)) LT)) (ST (TI.mk
  (TD.struct [3, 96]) 2 24 false)) (NT (NT LT (ST (TI.mk (TD.func) 1 8 false)) LT) (OT) (NT LT (ST (TI.mk (TD.func) 1 8 false)) LT)))) (ST (TI.mk (TD.ptr 469) 1 8 false)) (NT (NT
  (NT LT (ST (TI.mk (TD.func) 1 8 false)) (NT LT (ST (TI.mk (TD.func) 1 8 false)) LT)) (ST (TI.mk (TD.struct [76, 23, 77, 4, 79, 4, 31, 23, 23]) 103 208 false)) (NT (NT LT (ST
  (TI.mk (TD.func) 1 8 false)) LT) (ST (TI.mk (TD.func) 1 8 false)) (NT LT (ST (TI.mk (TD.ptr 5) 1 8 false)) LT))) (ST (TI.mk (TD.func) 1 8 false)) (NT (NT (NT LT (ST (TI.mk
  (TD.func) 1 8 false)) LT) (ST (TI.mk (TD.struct [3, 86]) 33 40 true)) (NT LT (ST (TI.mk (TD.func) 1 8 false)) LT)) (ST (TI.mk (TD.ptr 81) 1 8 false)) (NT (NT LT (ST (TI.mk
  (TD.struct [367, 367, 367, 367]) 20 160 true)) LT) (ST (TI.mk (TD.func) 1 8 false)) LT)))) (ST (TI.mk (TD.str) 1 16 false)) (NT (NT (NT (NT (NT LT (ST (TI.mk (TD.arr 24 5) 24 24
  true)) LT) (ST (TI.mk (TD.int IntKind.u8) 1 1 false)) (NT LT (ST (TI.mk (TD.func) 1 8 false)) LT)) (ST (TI.mk (TD.func) 1 8 false)) (NT (NT LT (ST (TI.mk (TD.func) 1 8 false))
  LT) (ST (TI.mk (TD.struct [200, 76, 3, 3, 88, 89, 77, 76, 90, 79, 31]) 231 312 false)) (NT LT (ST (TI.mk (TD.struct [17, 17, 17, 9]) 4 40 false)) LT))) (ST (TI.mk (TD.slice 76) 1
  24 false)) (NT (NT (NT LT (ST (TI.mk (TD.struct [249, 290, 288, 295, 294, 4]) 103 160 false)) LT) (ST (TI.mk (TD.func) 1 8 false)) (NT LT (ST (TI.mk (TD.func) 1 8 false)) LT))
  (ST (TI.mk (TD.func) 1 8 false)) (NT (NT LT (ST (TI.mk (TD.func) 1 8 false)) LT) (ST (TI.mk (TD.struct [117, 228, 229, 111, 230, 231, 231, 231, 228]) 42 128 false)) (NT LT (ST
  (TI.mk (TD.struct [466, 488, 488, 154, 154]) 5 16 false)) LT)))) (ST (TI.mk (TD.struct [22, 23, 24, 23]) 4 96 false)) (NT (NT (NT (NT LT (ST (TI.mk (TD.struct [117, 278, 279,
  41]) 37 104 false)) LT) (ST (TI.mk (TD.slice 154) 1 24 false)) (NT LT (ST (TI.mk (TD.struct [90, 90]) 64 64 true)) LT)) (ST (TI.mk (TD.slice 88) 1 24 false)) (NT LT (ST (TI.mk
  (TD.iface) 1 16 false)) LT)) (ST (TI.mk (TD.slice 41) 1 24 false)) (NT (NT (NT LT (ST (TI.mk (TD.func) 1 8 false)) LT) (ST (TI.mk (TD.struct [3, 3]) 2 16 true)) (NT LT (ST (TI.mk
  (TD.func) 1 8 false)) LT)) (ST (TI.mk (TD.func) 1 8 false)) (NT (NT LT (ST (TI.mk (TD.func) 1 8 false)) LT) (ST (TI.mk (TD.struct [3, 3, 90, 86, 86]) 98 112 true)) LT))))) (ST
  (TI.mk (TD.int IntKind.u8) 1 1 false)) (NT (NT (NT (NT (NT (NT LT (ST (TI.mk (TD.struct [3, 88]) 66 80 true)) LT) (OT) (NT LT (ST (TI.mk (TD.func) 1 8 false)) LT)) (ST (TI.mk
  (TD.slice 27) 1 24 false)) (NT (NT LT (ST (TI.mk (TD.func) 1 8 false)) LT) (ST (TI.mk (TD.slice 85) 1 24 false)) (NT LT (ST (TI.mk (TD.func) 1 8 false)) LT))) (OT) (NT (NT (NT LT
  (ST (TI.mk (TD.func) 1 8 false)) LT) (ST (TI.mk (TD.func) 1 8 false)) (NT LT (ST (TI.mk (TD.func) 1 8 false)) LT)) (ST (TI.mk (TD.func) 1 8 false)) (NT (NT LT (ST (TI.mk
  (TD.func) 1 8 false)) LT) (ST (TI.mk (TD.map 76 9) 1 8 false)) (NT LT (ST (TI.mk (TD.struct [76, 77, 23, 3, 482, 483, 89, 76, 79, 31, 23, 23]) 137 280 false)) LT)))) (ST (TI.mk
  (TD.int IntKind.i32) 1 4 false)) (NT (NT (NT (NT LT (ST (TI.mk (TD.func) 1 8 false)) LT) (ST (TI.mk (TD.func) 1 8 false)) (NT LT (ST (TI.mk (TD.func) 1 8 false)) LT)) (ST (TI.mk
  (TD.struct [3, 3, 77]) 3 40 false)) (NT (NT LT (ST (TI.mk (TD.struct [76, 31]) 33 40 true)) LT) (ST (TI.mk (TD.iface) 1 16 false)) (NT LT (ST (TI.mk (TD.struct [12, 12, 154, 463,
  5, 5, 137, 464, 465, 466, 467]) 11 48 false)) LT))) (ST (TI.mk (TD.slice 153) 1 24 false)) (NT (NT (NT LT (ST (TI.mk (TD.func) 1 8 false)) LT) (ST (TI.mk (TD.struct [3, 3, 90])
  34 48 true)) (NT LT (ST (TI.mk (TD.func) 1 8 false)) LT)) (ST (TI.mk (TD.struct [3, 86, 115]) 34 64 false)) (NT (NT LT (ST (TI.mk (TD.func) 1 8 false)) LT) (ST (TI.mk (TD.struct
  [117, 243, 242, 228, 197, 27, 3]) 40 144 false)) LT)))) (OT) (NT (NT (NT (NT LT (ST (TI.mk (TD.ptr 233) 1 8 false)) (NT LT (ST (TI.mk (TD.arr 16 369) 320 2560 false)) LT)) (ST
  (TI.mk (TD.slice 5) 1 24 false)) (NT (NT LT (ST (TI.mk (TD.slice 411) 1 24 false)) LT) (ST (TI.mk (TD.slice 208) 1 24 false)) (NT LT (ST (TI.mk (TD.func) 1 8 false)) LT))) (ST
  (TI.mk (TD.func) 1 8 false)) (NT (NT (NT LT (ST (TI.mk (TD.func) 1 8 false)) LT) (ST (TI.mk (TD.slice 174) 1 24 false)) (NT LT (ST (TI.mk (TD.arr 5 428) 10 80 false)) LT)) (ST
  (TI.mk (TD.func) 1 8 false)) (NT (NT LT (ST (TI.mk (TD.func) 1 8 false)) LT) (ST (TI.mk (TD.int IntKind.u64) 1 8 false)) LT))) (ST (TI.mk (TD.struct [3, 3, 3, 3, 3, 3]) 6 48
  true)) (NT (NT (NT (NT LT (ST (TI.mk (TD.struct [162]) 1 24 false)) LT) (ST (TI.mk (TD.arr 32 5) 32 32 true)) (NT LT (ST (TI.mk (TD.func) 1 8 false)) LT)) (ST (TI.mk (TD.func) 1
  8 false)) (NT (NT LT (ST (TI.mk (TD.func) 1 8 false)) LT) (ST (TI.mk (TD.iface) 1 16 false)) (NT LT (ST (TI.mk (TD.func) 1 8 false)) LT))) (ST (TI.mk (TD.slice 89) 1 24 false))
  (NT (NT (NT LT (ST (TI.mk (TD.func) 1 8 false)) LT) (ST (TI.mk (TD.int IntKind.i64) 1 8 false)) (NT LT (ST (TI.mk (TD.func) 1 8 false)) LT)) (ST (TI.mk (TD.ptr 72) 1 8 false))
  (NT (NT LT (ST (TI.mk (TD.func) 1 8 false)) LT) (ST (TI.mk (TD.ptr 286) 1 8 false)) LT))))))) (OT) (NT (NT (NT (NT (NT (NT (NT (NT LT (ST (TI.mk (TD.struct [249, 255, 251, 253])
  101 136 false)) LT) (ST (TI.mk (TD.iface) 1 16 false)) (NT LT (ST (TI.mk (TD.func) 1 8 false)) LT)) (ST (TI.mk (TD.slice 184) 1 24 false)) (NT (NT LT (ST (TI.mk (TD.func) 1 8
  false)) LT) (ST (TI.mk (TD.func) 1 8 false)) (NT LT (ST (TI.mk (TD.struct [444, 77, 266, 446]) 11 104 false)) LT))) (OT) (NT (NT (NT LT (ST (TI.mk (TD.iface) 1 16 false)) LT) (ST
  (TI.mk (TD.slice 86) 1 24 false)) (NT LT (ST (TI.mk (TD.struct [411, 409]) 128 128 true)) LT)) (ST (TI.mk (TD.iface) 1 16 false)) (NT (NT LT (ST (TI.mk (TD.func) 1 8 false)) LT)
  (ST (TI.mk (TD.ptr 245) 1 8 false)) (NT LT (ST (TI.mk (TD.ptr 490) 1 8 false)) LT)))) (ST (TI.mk (TD.ptr 460) 1 8 false)) (NT (NT (NT (NT LT (ST (TI.mk (TD.struct [160, 166]) 2
  48 false)) LT) (ST (TI.mk (TD.func) 1 8 false)) (NT LT (ST (TI.mk (TD.func) 1 8 false)) LT)) (ST (TI.mk (TD.struct [76, 23, 77, 4, 79, 4, 31, 23, 23]) 103 208 false)) (NT LT (ST
  (TI.mk (TD.struct [206, 76, 23, 77, 3, 3, 3, 3, 77]) 40 144 false)) (NT LT (ST (TI.mk (TD.func) 1 8 false)) LT))) (ST (TI.mk (TD.func) 1 8 false)) (NT (NT (NT LT (ST (TI.mk
  (TD.func) 1 8 false)) LT) (ST (TI.mk (TD.func) 1 8 false)) (NT LT (ST (TI.mk (TD.ptr 448) 1 8 false)) LT)) (ST (TI.mk (TD.func) 1 8 false)) (NT (NT LT (ST (TI.mk (TD.struct [367,
  367, 367, 367]) 20 160 true)) LT) (OT) (NT LT (ST (TI.mk (TD.ptr 96) 1 8 false)) LT))))) (ST (TI.mk (TD.struct [2, 3, 4, 6]) 4 24 true)) (NT (NT (NT (NT (NT LT (ST (TI.mk
  (TD.func) 1 8 false)) LT) (ST (TI.mk (TD.func) 1 8 false)) (NT LT (ST (TI.mk (TD.func) 1 8 false)) LT)) (ST (TI.mk (TD.struct [51, 52, 53, 54, 55, 56, 24, 57, 58, 59, 60, 61, 62,
  63, 64, 65, 66, 67, 68, 69, 70]) 21 504 false)) (NT LT (ST (TI.mk (TD.int IntKind.i64) 1 8 false)) (NT LT (ST (TI.mk (TD.struct [17, 17, 17, 9]) 4 40 false)) LT))) (ST (TI.mk
  (TD.func) 1 8 false)) (NT (NT (NT LT (ST (TI.mk (TD.struct [249, 290, 288, 295, 294, 4]) 103 160 false)) LT) (ST (TI.mk (TD.struct [3, 90]) 33 40 true)) (NT LT (ST (TI.mk
  (TD.func) 1 8 false)) LT)) (ST (TI.mk (TD.func) 1 8 false)) (NT (NT LT (ST (TI.mk (TD.func) 1 8 false)) LT) (ST (TI.mk (TD.struct [117, 228, 229, 111, 230, 231, 231, 231, 228])
  42 128 false)) (NT LT (ST (TI.mk (TD.int IntKind.u16) 1 2 false)) LT)))) (ST (TI.mk (TD.slice 162) 1 24 false)) (NT (NT (NT (NT LT (ST (TI.mk (TD.struct [117, 278, 279, 41]) 37
  104 false)) LT) (ST (TI.mk (TD.func) 1 8 false)) (NT LT (ST (TI.mk (TD.struct [90, 90]) 64 64 true)) LT)) (ST (TI.mk (TD.struct [3, 86, 86]) 65 72 true)) (NT (NT LT (ST (TI.mk
  (TD.arr 4 266) 4 32 true)) LT) (ST (TI.mk (TD.iface) 1 16 false)) LT)) (ST (TI.mk (TD.slice 160) 1 24 false)) (NT (NT (NT LT (ST (TI.mk (TD.struct [77, 77]) 2 48 false)) LT) (ST
  (TI.mk (TD.slice 186) 1 24 false)) (NT LT (ST (TI.mk (TD.func) 1 8 false)) LT)) (ST (TI.mk (TD.func) 1 8 false)) (NT (NT LT (ST (TI.mk (TD.func) 1 8 false)) LT) (ST (TI.mk
  (TD.struct [3, 3, 90, 86, 86]) 98 112 true)) LT))))) (ST (TI.mk (TD.bool) 1 1 false)) (NT (NT (NT (NT (NT (NT LT (ST (TI.mk (TD.struct [3, 88]) 66 80 true)) LT) (ST (TI.mk
  (TD.int IntKind.u64) 1 8 false)) (NT LT (ST (TI.mk (TD.func) 1 8 false)) LT)) (ST (TI.mk (TD.slice 199) 1 24 false)) (NT (NT LT (ST (TI.mk (TD.func) 1 8 false)) LT) (ST (TI.mk
  (TD.func) 1 8 false)) (NT LT (ST (TI.mk (TD.arr 6 266) 6 48 true)) LT))) (ST (TI.mk (TD.slice 81) 1 24 false)) (NT (NT (NT LT (ST (TI.mk (TD.func) 1 8 false)) LT) (ST (TI.mk
  (TD.func) 1 8 false)) (NT LT (ST (TI.mk (TD.func) 1 8 false)) LT)) (ST (TI.mk (TD.func) 1 8 false)) (NT (NT LT (ST (TI.mk (TD.func) 1 8 false)) LT) (ST (TI.mk (TD.map 3 3) 1 8
  false)) (NT LT (ST (TI.mk (TD.struct [76, 77, 23, 3, 482, 483, 89, 76, 79, 31, 23, 23]) 137 280 false)) LT)))) (ST (TI.mk (TD.iface) 1 16 false)) (NT (NT (NT (NT LT (ST (TI.mk
  (TD.func) 1 8 false)) LT) (ST (TI.mk (TD.func) 1 8 false)) (NT LT (ST (TI.mk (TD.func) 1 8 false)) LT)) (ST (TI.mk (TD.struct [3, 3, 77]) 3 40 false)) (NT (NT LT (ST (TI.mk
  (TD.ptr 342) 1 8 false)) LT) (ST (TI.mk (TD.ptr 473) 1 8 false)) (NT LT (ST (TI.mk (TD.struct [12, 12, 154, 463, 5, 5, 137, 464, 465, 466, 467]) 11 48 false)) LT))) (ST (TI.mk
  (TD.slice 23) 1 24 false)) (NT (NT LT (ST (TI.mk (TD.slice 182) 1 24 false)) LT) (ST (TI.mk (TD.struct [3, 86, 115]) 34 64 false)) (NT (NT LT (ST (TI.mk (TD.func) 1 8 false)) LT)
  (ST (TI.mk (TD.struct [117, 243, 242, 228, 197, 27, 3]) 40 144 false)) LT)))) (ST (TI.mk (TD.int IntKind.u64) 1 8 false)) (NT (NT (NT (NT (NT LT (ST (TI.mk (TD.func) 1 8 false))
  LT) (ST (TI.mk (TD.func) 1 8 false)) (NT LT (ST (TI.mk (TD.func) 1 8 false)) LT)) (ST (TI.mk (TD.arr 32 5) 32 32 true)) (NT (NT LT (ST (TI.mk (TD.map 411 3) 1 8 false)) LT) (ST
  (TI.mk (TD.func) 1 8 false)) (NT LT (ST (TI.mk (TD.struct [458]) 0 0 false)) LT))) (OT) (NT (NT (NT LT (ST (TI.mk (TD.func) 1 8 false)) LT) (ST (TI.mk (TD.func) 1 8 false)) (NT
  LT (ST (TI.mk (TD.struct [266, 266]) 2 16 true)) LT)) (OT) (NT (NT LT (ST (TI.mk (TD.func) 1 8 false)) LT) (OT) (NT LT (ST (TI.mk (TD.int IntKind.i32) 1 4 false)) LT)))) (ST
  (TI.mk (TD.func) 1 8 false)) (NT (NT (NT (NT LT (ST (TI.mk (TD.struct [77, 3, 3, 4, 4]) 5 48 false)) LT) (ST (TI.mk (TD.slice 157) 1 24 false)) LT) (ST (TI.mk (TD.struct [83, 3,
  3, 76, 85, 88, 89, 77, 90, 79, 31, 23]) 203 344 false)) (NT (NT LT (ST (TI.mk (TD.func) 1 8 false)) LT) (ST (TI.mk (TD.func) 1 8 false)) (NT LT (ST (TI.mk (TD.func) 1 8 false))
  LT))) (ST (TI.mk (TD.slice 173) 1 24 false)) (NT (NT (NT LT (ST (TI.mk (TD.arr 65 5) 65 65 true)) LT) (ST (TI.mk (TD.slice 191) 1 24 false)) (NT LT (ST (TI.mk (TD.arr 8 266) 8 64
  true)) LT)) (ST (TI.mk (TD.func) 1 8 false)) (NT (NT LT (ST (TI.mk (TD.arr 64 5) 64 64 true)) LT) (ST (TI.mk (TD.func) 1 8 false)) LT)))))) (ST (TI.mk (TD.int IntKind.i64) 1 8
  false)) (NT (NT (NT (NT (NT (NT LT (ST (TI.mk (TD.func) 1 8 false)) (NT LT (ST (TI.mk (TD.func) 1 8 false)) LT)) (ST (TI.mk (TD.slice 193) 1 24 false)) (NT (NT LT (ST (TI.mk
  (TD.func) 1 8 false)) LT) (ST (TI.mk (TD.struct [86, 77, 79]) 97 120 false)) (NT LT (ST (TI.mk (TD.func) 1 8 false)) LT))) (ST (TI.mk (TD.func) 1 8 false)) (NT (NT (NT LT (ST
  (TI.mk (TD.ptr 339) 1 8 false)) LT) (ST (TI.mk (TD.slice 163) 1 24 false)) (NT LT (ST (TI.mk (TD.func) 1 8 false)) LT)) (ST (TI.mk (TD.struct [3, 96]) 2 24 false)) (NT LT (ST
  (TI.mk (TD.func) 1 8 false)) (NT LT (ST (TI.mk (TD.map 3 88) 1 8 false)) LT)))) (ST (TI.mk (TD.struct [17]) 1 8 false)) (NT (NT (NT (NT LT (ST (TI.mk (TD.func) 1 8 false)) LT)
  (ST (TI.mk (TD.func) 1 8 false)) LT) (ST (TI.mk (TD.func) 1 8 false)) (NT (NT LT (ST (TI.mk (TD.struct [251, 335, 4]) 6 80 false)) LT) (ST (TI.mk (TD.struct [17]) 1 8 false)) (NT
  LT (ST (TI.mk (TD.int IntKind.i32) 1 4 false)) LT))) (ST (TI.mk (TD.func) 1 8 false)) (NT (NT (NT LT (ST (TI.mk (TD.struct [89, 228, 23, 173, 86, 90]) 68 144 false)) LT) (ST
  (TI.mk (TD.struct [3, 86]) 33 40 true)) (NT LT (ST (TI.mk (TD.func) 1 8 false)) LT)) (ST (TI.mk (TD.func) 1 8 false)) (NT (NT LT (ST (TI.mk (TD.func) 1 8 false)) LT) (ST (TI.mk
  (TD.map 3 250) 1 8 false)) LT)))) (ST (TI.mk (TD.str) 1 16 false)) (NT (NT (NT (NT (NT LT (ST (TI.mk (TD.int IntKind.u64) 1 8 false)) LT) (ST (TI.mk (TD.func) 1 8 false)) (NT LT
  (ST (TI.mk (TD.func) 1 8 false)) LT)) (ST (TI.mk (TD.func) 1 8 false)) (NT (NT LT (ST (TI.mk (TD.func) 1 8 false)) LT) (ST (TI.mk (TD.struct [200, 76, 3, 3, 88, 89, 77, 76, 90,
  79, 31]) 231 312 false)) (NT LT (ST (TI.mk (TD.arr 0 16) 0 0 false)) LT))) (OT) (NT (NT (NT LT (ST (TI.mk (TD.func) 1 8 false)) LT) (ST (TI.mk (TD.slice 171) 1 24 false)) (NT LT
  (ST (TI.mk (TD.func) 1 8 false)) LT)) (ST (TI.mk (TD.func) 1 8 false)) (NT (NT LT (ST (TI.mk (TD.func) 1 8 false)) LT) (ST (TI.mk (TD.struct [3, 3, 9]) 3 32 true)) (NT LT (ST
  (TI.mk (TD.struct [466, 488, 488, 154, 154]) 5 16 false)) LT)))) (ST (TI.mk (TD.struct [22, 23, 24, 23]) 4 96 false)) (NT (NT (NT (NT LT (ST (TI.mk (TD.func) 1 8 false)) LT) (ST
  (TI.mk (TD.int IntKind.u32) 1 4 false)) (NT LT (ST (TI.mk (TD.struct [86, 86]) 64 64 true)) LT)) (ST (TI.mk (TD.arr 32 5) 32 32 true)) (NT (NT LT (ST (TI.mk (TD.func) 1 8 false))
  LT) (ST (TI.mk (TD.func) 1 8 false)) (NT LT (ST (TI.mk (TD.func) 1 8 false)) LT))) (ST (TI.mk (TD.slice 166) 1 24 false)) (NT (NT (NT LT (ST (TI.mk (TD.func) 1 8 false)) LT) (ST
  (TI.mk (TD.struct [3, 3]) 2 16 true)) (NT LT (ST (TI.mk (TD.arr 80 266) 80 640 true)) LT)) (ST (TI.mk (TD.func) 1 8 false)) (NT LT (ST (TI.mk (TD.ptr 257) 1 8 false)) LT))))) (ST
  (TI.mk (TD.int IntKind.u8) 1 1 false)) (NT (NT (NT (NT (NT (NT LT (ST (TI.mk (TD.func) 1 8 false)) LT) (OT) (NT LT (ST (TI.mk (TD.func) 1 8 false)) LT)) (ST (TI.mk (TD.slice 205)
  1 24 false)) (NT LT (ST (TI.mk (TD.func) 1 8 false)) (NT LT (ST (TI.mk (TD.func) 1 8 false)) LT))) (ST (TI.mk (TD.func) 1 8 false)) (NT (NT (NT LT (ST (TI.mk (TD.map 76 88) 1 8
  false)) LT) (ST (TI.mk (TD.slice 168) 1 24 false)) (NT LT (ST (TI.mk (TD.func) 1 8 false)) LT)) (ST (TI.mk (TD.func) 1 8 false)) (NT (NT LT (ST (TI.mk (TD.func) 1 8 false)) LT)
  (ST (TI.mk (TD.map 235 3) 1 8 false)) (NT LT (ST (TI.mk (TD.arr 32 5) 32 32 true)) LT)))) (ST (TI.mk (TD.slice 90) 1 24 false)) (NT (NT (NT (NT LT (ST (TI.mk (TD.map 3 86) 1 8
  false)) LT) (ST (TI.mk (TD.func) 1 8 false)) (NT LT (ST (TI.mk (TD.arr 8 5) 8 8 true)) LT)) (ST (TI.mk (TD.arr 32 5) 32 32 true)) (NT (NT LT (ST (TI.mk (TD.struct [76, 31]) 33 40
  true)) LT) (OT) (NT LT (ST (TI.mk (TD.func) 1 8 false)) LT))) (ST (TI.mk (TD.slice 156) 1 24 false)) (NT (NT (NT LT (ST (TI.mk (TD.func) 1 8 false)) LT) (ST (TI.mk (TD.struct [3,
  3, 90]) 34 48 true)) (NT LT (ST (TI.mk (TD.func) 1 8 false)) LT)) (ST (TI.mk (TD.struct [117, 23, 27]) 36 112 false)) (NT (NT LT (ST (TI.mk (TD.func) 1 8 false)) LT) (OT) LT))))
  (OT) (NT (NT (NT (NT (NT LT (ST (TI.mk (TD.func) 1 8 false)) LT) (OT) LT) (ST (TI.mk (TD.arr 64 5) 64 64 true)) (NT (NT LT (ST (TI.mk (TD.struct [331, 332, 333, 3]) 4 64 false))
  LT) (ST (TI.mk (TD.int IntKind.i64) 1 8 false)) (NT LT (ST (TI.mk (TD.func) 1 8 false)) LT))) (ST (TI.mk (TD.func) 1 8 false)) (NT (NT (NT LT (ST (TI.mk (TD.func) 1 8 false)) LT)
  (ST (TI.mk (TD.struct [3, 90]) 33 40 true)) (NT LT (ST (TI.mk (TD.func) 1 8 false)) LT)) (ST (TI.mk (TD.func) 1 8 false)) (NT (NT LT (ST (TI.mk (TD.arr 5 266) 5 40 true)) LT) (ST
  (TI.mk (TD.func) 1 8 false)) LT))) (ST (TI.mk (TD.struct [3, 3, 3, 3, 3, 3]) 6 48 true)) (NT (NT (NT (NT LT (ST (TI.mk (TD.struct [162]) 1 24 false)) LT) (ST (TI.mk (TD.func) 1 8
  false)) (NT LT (ST (TI.mk (TD.func) 1 8 false)) LT)) (ST (TI.mk (TD.ptr 98) 1 8 false)) (NT (NT LT (ST (TI.mk (TD.func) 1 8 false)) LT) (OT) (NT LT (ST (TI.mk (TD.struct [9]) 1
  16 true)) LT))) (ST (TI.mk (TD.slice 115) 1 24 false)) (NT (NT (NT LT (ST (TI.mk (TD.func) 1 8 false)) LT) (ST (TI.mk (TD.struct [3, 76, 189, 77]) 35 72 false)) (NT LT (ST (TI.mk
  (TD.ptr 442) 1 8 false)) LT)) (ST (TI.mk (TD.func) 1 8 false)) (NT (NT LT (ST (TI.mk (TD.func) 1 8 false)) LT) (ST (TI.mk (TD.func) 1 8 false)) LT))))))))

noncomputable def fnTree : BT Func :=
  (NF (NF (NF (NF (NF (NF (NF (NF (NF LF (SF Tryz.f255) LF) (SF Tryz.f127) LF) (OF) (NF LF (SF Tryz.f191) LF)) (SF Tryz.f31) (NF (NF LF (SF Tryz.f159) LF) (SF Tryz.f95) (NF LF (SF
  Tryz.f223) LF))) (SF Tryz.f15) (NF (NF (NF LF (SF Tryz.f143) LF) (SF Tryz.f79) (NF LF (SF Tryz.f207) LF)) (SF Tryz.f47) (NF (NF LF (SF Tryz.f175) LF) (SF Tryz.f111) LF))) (SF
  Tryz.f7) (NF (NF (NF (NF (NF LF (SF Tryz.f263) LF) (SF Tryz.f135) LF) (SF Tryz.f71) (NF LF (SF Tryz.f199) LF)) (SF Tryz.f39) (NF (NF LF (SF Tryz.f167) LF) (SF Tryz.f103) (NF LF
  (SF Tryz.f231) LF))) (SF Tryz.f23) (NF (NF (NF LF (SF Tryz.f151) LF) (SF Tryz.f87) (NF LF (SF Tryz.f215) LF)) (SF Tryz.f55) (NF (NF (NF LF (SF Tryz.f311) LF) (SF Tryz.f183) LF)
  (SF Tryz.f119) (NF LF (SF Tryz.f247) LF))))) (SF Tryz.f3) (NF (NF (NF (NF (NF (NF LF (SF Tryz.f259) LF) (SF Tryz.f131) LF) (SF Tryz.f67) (NF LF (SF Tryz.f195) LF)) (SF Tryz.f35)
  (NF (NF LF (SF Tryz.f163) LF) (SF Tryz.f99) (NF LF (SF Tryz.f227) LF))) (SF Tryz.f19) (NF (NF (NF LF (SF Tryz.f147) LF) (SF Tryz.f83) (NF LF (SF Tryz.f211) LF)) (SF Tryz.f51) (NF
  (NF (NF LF (SF Tryz.f307) LF) (SF Tryz.f179) LF) (SF Tryz.f115) (NF LF (SF Tryz.f243) LF)))) (SF Tryz.f11) (NF (NF (NF (NF (NF LF (SF Tryz.f267) LF) (SF Tryz.f139) LF) (SF
  Tryz.f75) (NF LF (SF Tryz.f203) LF)) (SF Tryz.f43) (NF (NF LF (SF Tryz.f171) LF) (SF Tryz.f107) (NF LF (SF Tryz.f235) LF))) (SF Tryz.f27) (NF (NF (NF LF (SF Tryz.f155) LF) (SF
  Tryz.f91) (NF LF (SF Tryz.f219) LF)) (SF Tryz.f59) (NF (NF (NF LF (SF Tryz.f315) LF) (SF Tryz.f187) LF) (SF Tryz.f123) (NF LF (SF Tryz.f251) LF)))))) (OF) (NF (NF (NF (NF (NF (NF
  (NF LF (SF Tryz.f257) LF) (SF Tryz.f129) LF) (SF Tryz.f65) (NF LF (SF Tryz.f193) LF)) (SF Tryz.f33) (NF (NF LF (SF Tryz.f161) LF) (OF) (NF LF (SF Tryz.f225) LF))) (SF Tryz.f17)
  (NF (NF (NF LF (SF Tryz.f145) LF) (SF Tryz.f81) (NF LF (SF Tryz.f209) LF)) (SF Tryz.f49) (NF (NF LF (SF Tryz.f177) LF) (SF Tryz.f113) (NF LF (SF Tryz.f241) LF)))) (SF Tryz.f9)
  (NF (NF (NF (NF (NF LF (SF Tryz.f265) LF) (SF Tryz.f137) LF) (SF Tryz.f73) (NF LF (SF Tryz.f201) LF)) (SF Tryz.f41) (NF (NF LF (SF Tryz.f169) LF) (SF Tryz.f105) (NF LF (SF
  Tryz.f233) LF))) (SF Tryz.f25) (NF (NF (NF LF (SF Tryz.f153) LF) (SF Tryz.f89) (NF LF (SF Tryz.f217) LF)) (SF Tryz.f57) (NF (NF LF (SF Tryz.f185) LF) (SF Tryz.f121) (NF LF (SF
  Tryz.f249) LF))))) (SF Tryz.f5) (NF (NF (NF (NF (NF (NF LF (SF Tryz.f261) LF) (SF Tryz.f133) LF) (SF Tryz.f69) (NF LF (SF Tryz.f197) LF)) (SF Tryz.f37) (NF (NF LF (SF Tryz.f165)
  LF) (SF Tryz.f101) (NF LF (SF Tryz.f229) LF))) (SF Tryz.f21) (NF (NF (NF LF (SF Tryz.f149) LF) (SF Tryz.f85) (NF LF (SF Tryz.f213) LF)) (SF Tryz.f53) (NF (NF LF (SF Tryz.f181)
  LF) (SF Tryz.f117) (NF LF (SF Tryz.f245) LF)))) (SF Tryz.f13) (NF (NF (NF (NF LF (SF Tryz.f141) LF) (SF Tryz.f77) (NF LF (SF Tryz.f205) LF)) (SF Tryz.f45) (NF (NF LF (SF
  Tryz.f173) LF) (SF Tryz.f109) (NF LF (SF Tryz.f237) LF))) (SF Tryz.f29) (NF (NF (NF (NF LF (SF Tryz.f285) LF) (SF Tryz.f157) LF) (SF Tryz.f93) (NF LF (SF Tryz.f221) LF)) (SF
  Tryz.f61) (NF (NF LF (SF Tryz.f189) LF) (SF Tryz.f125) (NF LF (SF Tryz.f253) LF))))))) (OF) (NF (NF (NF (NF (NF (NF (NF (NF LF (SF Tryz.f256) LF) (SF Tryz.f128) LF) (OF) (NF LF
  (SF Tryz.f192) LF)) (SF Tryz.f32) (NF (NF LF (SF Tryz.f160) LF) (OF) (NF LF (SF Tryz.f224) LF))) (SF Tryz.f16) (NF (NF (NF LF (SF Tryz.f144) LF) (SF Tryz.f80) (NF (NF LF (SF
  Tryz.f336) LF) (SF Tryz.f208) LF)) (SF Tryz.f48) (NF (NF LF (SF Tryz.f176) LF) (SF Tryz.f112) (NF LF (SF Tryz.f240) LF)))) (SF Tryz.f8) (NF (NF (NF (NF (NF LF (SF Tryz.f264) LF)
  (SF Tryz.f136) LF) (SF Tryz.f72) (NF LF (SF Tryz.f200) LF)) (SF Tryz.f40) (NF (NF LF (SF Tryz.f168) LF) (SF Tryz.f104) (NF LF (SF Tryz.f232) LF))) (SF Tryz.f24) (NF (NF (NF LF
  (SF Tryz.f152) LF) (SF Tryz.f88) (NF LF (SF Tryz.f216) LF)) (SF Tryz.f56) (NF (NF LF (SF Tryz.f184) LF) (SF Tryz.f120) (NF LF (SF Tryz.f248) LF))))) (SF Tryz.f4) (NF (NF (NF (NF
  (NF (NF LF (SF Tryz.f260) LF) (SF Tryz.f132) LF) (SF Tryz.f68) (NF LF (SF Tryz.f196) LF)) (SF Tryz.f36) (NF (NF LF (SF Tryz.f164) LF) (SF Tryz.f100) (NF LF (SF Tryz.f228) LF)))
  (SF Tryz.f20) (NF (NF (NF LF (SF Tryz.f148) LF) (SF Tryz.f84) (NF LF (SF Tryz.f212) LF)) (SF Tryz.f52) (NF (NF (NF LF (SF Tryz.f308) LF) (SF Tryz.f180) LF) (SF Tryz.f116) (NF LF
  (SF Tryz.f244) LF)))) (SF Tryz.f12) (NF (NF (NF (NF LF (SF Tryz.f140) LF) (SF Tryz.f76) (NF LF (SF Tryz.f204) LF)) (SF Tryz.f44) (NF (NF LF (SF Tryz.f172) LF) (SF Tryz.f108) (NF
  LF (SF Tryz.f236) LF))) (SF Tryz.f28) (NF (NF (NF LF (SF Tryz.f156) LF) (SF Tryz.f92) (NF LF (SF Tryz.f220) LF)) (OF) (NF LF (SF Tryz.f124) (NF LF (SF Tryz.f252) LF)))))) (SF
  Tryz.f2) (NF (NF (NF (NF (NF (NF (NF LF (SF Tryz.f258) LF) (SF Tryz.f130) LF) (SF Tryz.f66) (NF LF (SF Tryz.f194) LF)) (SF Tryz.f34) (NF (NF LF (SF Tryz.f162) LF) (SF Tryz.f98)
  (NF LF (SF Tryz.f226) LF))) (SF Tryz.f18) (NF (NF (NF LF (SF Tryz.f146) LF) (SF Tryz.f82) (NF LF (SF Tryz.f210) LF)) (SF Tryz.f50) (NF (NF LF (SF Tryz.f178) LF) (SF Tryz.f114)
  (NF LF (SF Tryz.f242) LF)))) (SF Tryz.f10) (NF (NF (NF (NF (NF LF (SF Tryz.f266) LF) (SF Tryz.f138) LF) (SF Tryz.f74) (NF LF (SF Tryz.f202) LF)) (SF Tryz.f42) (NF (NF LF (SF
  Tryz.f170) LF) (SF Tryz.f106) (NF LF (SF Tryz.f234) LF))) (SF Tryz.f26) (NF (NF (NF LF (SF Tryz.f154) LF) (SF Tryz.f90) (NF LF (SF Tryz.f218) LF)) (SF Tryz.f58) (NF (NF LF (SF
  Tryz.f186) LF) (SF Tryz.f122) (NF LF (SF Tryz.f250) LF))))) (SF Tryz.f6) (NF (NF (NF (NF (NF (NF LF (SF Tryz.f262) LF) (SF Tryz.f134) LF) (SF Tryz.f70) (NF LF (SF Tryz.f198) LF))
  (SF Tryz.f38) (NF (NF LF (SF Tryz.f166) LF) (SF Tryz.f102) (NF LF (SF Tryz.f230) LF))) (SF Tryz.f22) (NF (NF (NF LF (SF Tryz.f150) LF) (SF Tryz.f86) (NF LF (SF Tryz.f214) LF))
  (SF Tryz.f54) (NF (NF LF (SF Tryz.f182) LF) (SF Tryz.f118) (NF LF (SF Tryz.f246) LF)))) (SF Tryz.f14) (NF (NF (NF (NF LF (SF Tryz.f142) LF) (SF Tryz.f78) (NF LF (SF Tryz.f206)
  LF)) (SF Tryz.f46) (NF (NF LF (SF Tryz.f174) LF) (SF Tryz.f110) (NF LF (SF Tryz.f238) LF))) (SF Tryz.f30) (NF (NF (NF LF (SF Tryz.f158) LF) (SF Tryz.f94) (NF LF (SF Tryz.f222)
  LF)) (OF) (NF (NF LF (SF Tryz.f190) LF) (SF Tryz.f126) (NF LF (SF Tryz.f254) LF))))))))

noncomputable def liveTree : BT (List (Nat × List Nat)) :=
  (NV (NV (NV (NV (NV (NV (NV LV (OV) (NV LV (SV [(3, [3, 8, 9, 10])]) LV)) (OV) (NV (NV LV (SV [(4, [3, 7, 8, 9, 21, 22, 23])]) LV) (OV) LV)) (OV) (NV (NV (NV LV (SV [(12, [1, 42,
  43, 44]), (19, [57, 58, 59])]) LV) (OV) LV) (SV [(3, [3, 4]), (6, [3, 4, 5]), (11, [3, 6, 7]), (15, [3, 6, 7, 8, 9]), (20, [3, 6, 10]), (23, [3, 6, 10, 11])]) (NV (NV LV (SV [(2,
  [1, 7, 8])]) LV) (OV) LV))) (OV) (NV (NV (NV LV (SV [(4, [0, 1, 5])]) LV) (SV [(3, [3, 4]), (6, [3, 4, 5]), (11, [3, 6, 7]), (15, [3, 6, 7, 8, 9]), (20, [3, 6, 10]), (23, [3, 6,
  10, 11])]) LV) (OV) (NV LV (SV [(3, [3, 4]), (6, [3, 4, 5]), (11, [3, 6, 7]), (15, [3, 6, 7, 8, 9]), (20, [3, 6, 10]), (23, [3, 6, 10, 11])]) LV))) (OV) (NV (NV (NV (NV (NV LV
  (SV [(2, [1, 4, 8, 9, 10])]) LV) (OV) LV) (OV) LV) (OV) (NV LV (SV [(3, [3, 4]), (6, [3, 4, 5]), (11, [3, 6, 7]), (15, [3, 6, 7, 8, 9]), (20, [3, 6, 10]), (23, [3, 6, 10, 11])])
  (NV (NV LV (SV [(4, [2, 3, 4, 5, 12]), (10, [3, 4, 5, 7, 8]), (13, [3, 4, 5, 7, 8, 29])]) LV) (SV [(1, [0, 1, 4])]) LV))) (SV [(6, [0, 4, 5, 6]), (12, [0, 4, 5, 6, 7, 8, 9])])
  (NV (NV LV (SV [(3, [3, 4]), (6, [3, 4, 5]), (11, [3, 6, 7]), (15, [3, 6, 7, 8, 9]), (20, [3, 6, 10]), (23, [3, 6, 10, 11])]) (NV (NV LV (SV [(5, [3, 10, 11, 12])]) LV) (OV) (NV
  LV (SV [(2, [2, 3, 4, 6])]) LV))) (OV) LV))) (OV) (NV (NV (NV (NV (NV LV (SV [(1, [0, 1, 3, 6]), (18, [1, 3, 6, 48, 49, 50])]) LV) (SV [(2, [1, 3, 5, 7])]) (NV LV (OV) (NV LV (SV
  [(5, [0, 3, 31, 32, 33])]) LV))) (SV [(4, [0, 1, 5])]) (NV (NV (NV LV (SV [(2, [0, 1, 7, 8])]) LV) (OV) (NV LV (SV [(4, [0, 4, 5, 6, 13, 14])]) LV)) (SV [(3, [3, 4]), (6, [3, 4,
  5]), (11, [3, 6, 7]), (15, [3, 6, 7, 8, 9]), (20, [3, 6, 10]), (23, [3, 6, 10, 11])]) LV)) (SV [(3, [0, 3, 4])]) (NV (NV (NV LV (SV [(4, [0, 1, 5])]) LV) (SV [(3, [3, 4]), (6,
  [3, 4, 5]), (11, [3, 6, 7]), (15, [3, 6, 7, 8, 9]), (20, [3, 6, 10]), (23, [3, 6, 10, 11])]) (NV LV (SV [(7, [5, 26, 27, 28])]) (NV LV (SV [(3, [2, 3, 4, 5])]) LV))) (OV) (NV (NV
  (NV LV (SV [(3, [0, 2, 4, 5])]) LV) (OV) LV) (SV [(3, [3, 4]), (6, [3, 4, 5]), (11, [3, 6, 7]), (15, [3, 6, 7, 8, 9]), (20, [3, 6, 10]), (23, [3, 6, 10, 11])]) (NV (NV LV (SV
  [(3, [0, 1, 2, 7, 10])]) LV) (OV) (NV LV (SV [(4, [2, 3, 4, 5, 6, 14]), (8, [2, 3, 4, 5, 6, 7, 8, 14, 17]), (16, [2, 3, 4, 5, 6, 8, 10, 11, 14])]) LV))))) (SV [(6, [1, 2, 5, 6,
  7]), (12, [1, 2, 5, 6, 7, 8, 12]), (22, [1, 2, 6, 13, 14, 15])]) (NV (NV (NV (NV (NV (NV LV (SV [(5, [0, 3, 4])]) LV) (SV [(3, [1, 2, 3, 6, 8, 19, 20, 21])]) LV) (OV) LV) (OV)
  (NV LV (SV [(14, [0, 3, 6, 88, 89, 90]), (22, [0, 3, 111, 112, 113])]) (NV LV (SV [(3, [3, 6, 7, 8])]) LV))) (OV) (NV LV (SV [(3, [3, 4]), (6, [3, 4, 5]), (11, [3, 6, 7]), (15,
  [3, 6, 7, 8, 9]), (20, [3, 6, 10]), (23, [3, 6, 10, 11])]) (NV (NV LV (SV [(3, [2, 3, 6])]) LV) (OV) (NV LV (SV [(8, [0, 1])]) LV)))) (SV [(4, [4, 5, 6, 7])]) (NV (NV (NV (NV LV
  (SV [(5, [4, 17, 18, 19])]) LV) (OV) LV) (SV [(3, [3, 4]), (6, [3, 4, 5]), (11, [3, 6, 7]), (15, [3, 6, 7, 8, 9]), (20, [3, 6, 10]), (23, [3, 6, 10, 11])]) LV) (SV [(5, [1, 4, 7,
  23, 24, 25]), (13, [4, 7, 11, 12, 35, 36, 37])]) (NV (NV (NV LV (SV [(3, [1, 2, 3, 5])]) LV) (OV) (NV LV (SV [(4, [2, 3, 4, 5, 6, 8])]) LV)) (SV [(1, [0, 1, 2]), (17, [1, 2, 43,
  44, 45])]) LV))))) (OV) (NV (NV (NV (NV (NV (NV (NV (NV LV (SV [(2, [2, 4, 5, 6])]) LV) (OV) LV) (OV) LV) (SV [(2, [0, 3])]) (NV (NV LV (SV [(4, [1, 4, 6, 7, 12, 13, 14])]) LV)
  (OV) LV)) (SV [(4, [0, 1, 5])]) (NV LV (SV [(3, [3, 4]), (6, [3, 4, 5]), (11, [3, 6, 7]), (15, [3, 6, 7, 8, 9]), (20, [3, 6, 10]), (23, [3, 6, 10, 11])]) LV)) (OV) (NV (NV LV (SV
  [(3, [3, 4]), (6, [3, 4, 5]), (11, [3, 6, 7]), (15, [3, 6, 7, 8, 9]), (20, [3, 6, 10]), (23, [3, 6, 10, 11])]) (NV LV (SV [(7, [1, 3, 5, 50, 51, 52]), (23, [1, 3, 5, 10, 11, 117,
  118, 119])]) (NV LV (SV [(4, [2, 3, 4, 7, 23])]) LV))) (OV) (NV (NV LV (OV) (NV LV (SV [(4, [1, 2, 3, 4]), (9, [1, 2, 32]), (18, [2, 6, 7, 83])]) LV)) (SV [(3, [3, 4]), (6, [3,
  4, 5]), (11, [3, 6, 7]), (15, [3, 6, 7, 8, 9]), (20, [3, 6, 10]), (23, [3, 6, 10, 11])]) (NV LV (OV) (NV LV (SV [(4, [0, 5, 6, 15, 16, 17]), (13, [0, 5, 6, 39, 40])]) LV)))))
  (OV) (NV (NV (NV (NV (NV (NV LV (SV [(3, [1, 2, 3, 6, 7, 20]), (6, [1, 2, 3, 6, 7, 8, 20, 23]), (12, [2, 3, 6, 7, 10]), (18, [2, 3, 6, 7, 13, 85]), (26, [3, 6, 13, 169])]) LV)
  (OV) LV) (OV) (NV LV (SV [(5, [0, 4, 6, 18, 19, 20])]) LV)) (OV) (NV LV (OV) (NV LV (SV [(4, [0, 3, 5, 6, 17, 18]), (8, [0, 3, 5, 6, 7, 17, 18, 30, 31]), (17, [5, 6, 77, 78])])
  LV))) (OV) (NV (NV LV (OV) (NV LV (SV [(3, [2, 3, 4, 5, 14]), (6, [2, 3, 4, 5, 6, 14, 17]), (16, [4, 5, 8, 9, 50])]) LV)) (SV [(3, [3, 4]), (6, [3, 4, 5]), (11, [3, 6, 7]), (15,
  [3, 6, 7, 8, 9]), (20, [3, 6, 10]), (23, [3, 6, 10, 11])]) (NV LV (SV [(11, [0, 1, 3, 4, 10, 11, 12, 13, 14, 15, 16]), (18, [0, 1, 3, 4, 10, 11, 12, 13, 17])]) LV))) (SV [(6, [6,
  17, 18, 19])]) (NV (NV LV (SV [(3, [3, 4]), (6, [3, 4, 5]), (11, [3, 6, 7]), (15, [3, 6, 7, 8, 9]), (20, [3, 6, 10]), (23, [3, 6, 10, 11])]) (NV (NV LV (SV [(3, [0, 3, 4, 5,
  6])]) LV) (OV) (NV LV (SV [(4, [0, 2, 3, 4, 5])]) LV))) (OV) (NV (NV (NV LV (SV [(4, [2, 3, 4, 6, 7, 9])]) LV) (OV) (NV LV (SV [(3, [1, 2, 3, 5])]) LV)) (OV) LV)))) (OV) (NV (NV
  (NV (NV (NV LV (SV [(6, [6, 29, 30, 31])]) LV) (OV) (NV (NV LV (SV [(5, [0, 1, 4, 6, 16, 17, 18])]) LV) (SV [(7, [1, 7, 35, 36, 37]), (14, [7, 78, 79, 80])]) LV)) (OV) (NV (NV LV
  (OV) (NV LV (SV [(3, [1, 2, 3, 7])]) LV)) (SV [(3, [3, 4]), (6, [3, 4, 5]), (11, [3, 6, 7]), (15, [3, 6, 7, 8, 9]), (20, [3, 6, 10]), (23, [3, 6, 10, 11])]) (NV (NV LV (SV [(5,
  [0, 1, 2, 3, 4])]) LV) (OV) LV))) (SV [(4, [4, 5, 11, 12, 13])]) (NV (NV (NV (NV (NV LV (SV [(4, [3, 4, 5, 6, 7])]) LV) (OV) LV) (OV) LV) (SV [(3, [3, 4]), (6, [3, 4, 5]), (11,
  [3, 6, 7]), (15, [3, 6, 7, 8, 9]), (20, [3, 6, 10]), (23, [3, 6, 10, 11])]) LV) (OV) (NV LV (SV [(3, [3, 4]), (6, [3, 4, 5]), (11, [3, 6, 7]), (15, [3, 6, 7, 8, 9]), (20, [3, 6,
  10]), (23, [3, 6, 10, 11])]) LV))) (SV [(6, [1, 2, 3, 4, 5])]) (NV (NV (NV (NV LV (SV [(4, [0, 1, 5])]) LV) (SV [(3, [3, 4]), (6, [3, 4, 5]), (11, [3, 6, 7]), (15, [3, 6, 7, 8,
  9]), (20, [3, 6, 10]), (23, [3, 6, 10, 11])]) (NV LV (SV [(12, [0, 3, 57, 58, 59])]) LV)) (SV [(4, [0, 3, 4, 5])]) (NV LV (SV [(3, [3, 4]), (6, [3, 4, 5]), (11, [3, 6, 7]), (15,
  [3, 6, 7, 8, 9]), (20, [3, 6, 10]), (23, [3, 6, 10, 11])]) (NV LV (SV [(7, [3, 6, 7, 26, 27, 28])]) (NV LV (SV [(8, [0, 2, 3, 4, 5]), (12, [2, 3, 4, 47])]) LV)))) (SV [(4, [0, 1,
  5])]) (NV (NV (NV (NV LV (SV [(6, [0, 7, 15, 16, 17])]) LV) (OV) LV) (SV [(3, [3, 4]), (6, [3, 4, 5]), (11, [3, 6, 7]), (15, [3, 6, 7, 8, 9]), (20, [3, 6, 10]), (23, [3, 6, 10,
  11])]) (NV (NV LV (SV [(4, [13, 14, 15])]) LV) (OV) LV)) (OV) (NV (NV LV (OV) (NV LV (SV [(3, [2, 3, 7, 8, 9])]) LV)) (OV) (NV LV (SV [(2, [1, 2, 9, 10])]) LV)))))))

def lookN : List (Nat × List Nat) → Nat → List Nat
  | [], _ => []
  | (k, l) :: r, n => match Nat.beq k n with
    | true => l
    | false => lookN r n
noncomputable def liveOf (f r : Nat) : List Nat := match liveTree.get f with
  | some l => lookN l r
  | none => []
noncomputable def fnsOf (f : Nat) : Option (Func × Code) := match fnTree.get f with
  | some fn => some (fn, bodyOf fn)
  | none => none
end Go.Abs
