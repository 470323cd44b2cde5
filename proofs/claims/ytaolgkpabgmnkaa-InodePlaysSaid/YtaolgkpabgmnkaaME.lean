/-
  The seat's functions, in plain text: printed by wip/tools/Pretty.lean.
-/
import Derived.Test.YtaolgkpabgmnkaaMD

set_option maxRecDepth 100000
set_option linter.unusedVariables false
set_option linter.unusedSimpArgs false
namespace Go.Am
open Go

/-- v: 1 data, 2 order, 7 t, 8 d, 10 f, 12 names, 16 k -/
noncomputable def F3_b23 (E : Env) (n : Nat) (v : AV × AV × AV × AV × AV × AV × AV × Unit) (ms : List Nat) (h : AHeap) (next58_ : AV × AV × AV × AV × AV × AV × AV × Unit → List Nat → AHeap → Option (AV × AHeap)) : Option (AV × AHeap) :=
valK (alen tab h 30 v.2.2.2.2.2.1) fun x59 =>
valK (abin tab .gtr 3 x59 (.int .i64 0)) fun x60 =>
boolK x60 (
bothK (E (.fn 12) [v.2.2.1, v.2.2.2.2.1] h) fun x61 h62 =>
valK (extractA x61 0) fun x63 =>
valK (extractA x61 1) fun x64 =>
bothK (newCells h62 [.int .i64 0, .int .i64 0, .str [], .int .i64 0] fun o => .ptr o 0) fun x65 h66 =>
hpK (storeA tab h66 35 x65 x63) fun h67 =>
jn (fun (v69 : AV × AV × AV × AV × AV × AV × AV × Unit) ms70 h71 =>
jn (fun (v73 : AV × AV × AV × AV × AV × AV × AV × AV × Unit) ms74 h75 =>
jn (fun (v77 : AV × AV × AV × AV × AV × AV × AV × AV × AV × Unit) ms78 h79 =>
jn (fun (v81 : AV × AV × AV × AV × AV × AV × AV × AV × Unit) ms82 h83 =>
bothK (abuildSlice tab h83 30 0 []) fun x84 h85 =>
valK (aslice tab 30 v81.2.2.2.2.2.1 none (some v81.2.2.2.2.2.2.2.1)) fun x86 =>
valK (abin tab .add 3 v81.2.2.2.2.2.2.2.1 (.int .i64 1)) fun x87 =>
valK (aslice tab 30 v81.2.2.2.2.2.1 (some x87) none) fun x88 =>
bothK (aappend tab h85 30 30 x84 x86) fun x89 h90 =>
bothK (aappend tab h90 30 30 x89 x88) fun x91 h92 =>
valK (abin tab .add 3 v81.2.2.2.2.2.2.1 (.int .i64 1)) fun x93 =>
next58_ (v81.1, v81.2.1, v81.2.2.1, v81.2.2.2.1, v81.2.2.2.2.1, x91, x93, ()) ms82 h92) fun j80_ =>
valK (aindexAddr tab 30 v77.2.2.2.2.2.1 v77.2.2.2.2.2.2.2.1) fun x94 =>
valK (loadA tab h79 9 x94) fun x95 =>
bothK (E (.fn 13) [v77.2.2.1, v77.2.2.2.2.2.2.2.2.1, x95] h79) fun x96 h97 =>
valK (extractA x96 0) fun x98 =>
valK (extractA x96 1) fun x99 =>
valK (aun .not x99) fun x100 =>
boolK x100 (
hpK (unmark h97 ms78) fun h101 =>
some ((.bool false), h101)) (
valK (abin tab .neq 3 x98 v77.2.2.2.2.1) fun x102 =>
boolK x102 (
hpK (unmark h97 ms78) fun h103 =>
some ((.bool false), h103)) (
valK (aindexAddr tab 30 v77.2.2.2.2.2.1 v77.2.2.2.2.2.2.2.1) fun x104 =>
valK (loadA tab h97 9 x104) fun x105 =>
bothK (E (.fn 14) [v77.2.2.1, v77.2.2.2.2.2.2.2.2.1, x105] h97) fun x106 h107 =>
valK (abin tab .neq 27 x106 (.int .i64 0)) fun x108 =>
boolK x108 (
hpK (unmark h107 ms78) fun h109 =>
some ((.bool false), h109)) (
j80_ (v77.1, v77.2.1, v77.2.2.1, v77.2.2.2.1, v77.2.2.2.2.1, v77.2.2.2.2.2.1, v77.2.2.2.2.2.2.1, v77.2.2.2.2.2.2.2.1, ()) ms78 h107)))) fun j76_ =>
valK (aindexAddr tab 30 v73.2.2.2.2.2.1 v73.2.2.2.2.2.2.2.1) fun x110 =>
valK (loadA tab h75 9 x110) fun x111 =>
valK (aindex tab 9 x111 (.int .i64 0)) fun x112 =>
valK (abin tab .sub 5 x112 (.int .u8 97)) fun x113 =>
valK (abin tab .rem 5 x113 (.int .u8 2)) fun x114 =>
valK (abin tab .eql 5 x114 (.int .u8 1)) fun x115 =>
boolK x115 (
j76_ (v73.1, v73.2.1, v73.2.2.1, v73.2.2.2.1, v73.2.2.2.2.1, v73.2.2.2.2.2.1, v73.2.2.2.2.2.2.1, v73.2.2.2.2.2.2.2.1, v73.2.2.2.1, ()) ms74 h75) (
j76_ (v73.1, v73.2.1, v73.2.2.1, v73.2.2.2.1, v73.2.2.2.2.1, v73.2.2.2.2.2.1, v73.2.2.2.2.2.2.1, v73.2.2.2.2.2.2.2.1, (.int .i64 1), ()) ms74 h75)) fun j72_ =>
valK (alen tab h71 22 v69.2.1) fun x116 =>
valK (abin tab .lss 3 v69.2.2.2.2.2.2.1 x116) fun x117 =>
boolK x117 (
valK (aindexAddr tab 22 v69.2.1 v69.2.2.2.2.2.2.1) fun x118 =>
valK (loadA tab h71 5 x118) fun x119 =>
bothK (aconvert tab h71 5 3 x119) fun x120 h121 =>
valK (alen tab h121 30 v69.2.2.2.2.2.1) fun x122 =>
valK (abin tab .rem 3 x120 x122) fun x123 =>
j72_ (v69.1, v69.2.1, v69.2.2.1, v69.2.2.2.1, v69.2.2.2.2.1, v69.2.2.2.2.2.1, v69.2.2.2.2.2.2.1, x123, ()) ms70 h121) (
j72_ (v69.1, v69.2.1, v69.2.2.1, v69.2.2.2.1, v69.2.2.2.2.1, v69.2.2.2.2.2.1, v69.2.2.2.2.2.2.1, (.int .i64 0), ()) ms70 h71)) fun j68_ =>
valK (aun .not x64) fun x124 =>
boolK x124 (
hpK (unmark h67 ms) fun h125 =>
some ((.bool false), h125)) (
valK (afieldAddr tab 35 x65 3) fun x126 =>
valK (loadA tab h67 3 x126) fun x127 =>
valK (alen tab h67 30 v.2.2.2.2.2.1) fun x128 =>
valK (abin tab .neq 3 x127 x128) fun x129 =>
boolK x129 (
hpK (unmark h67 ms) fun h130 =>
some ((.bool false), h130)) (
valK (afieldAddr tab 35 x65 2) fun x131 =>
valK (loadA tab h67 9 x131) fun x132 =>
valK (abin tab .neq 9 x132 v.1) fun x133 =>
boolK x133 (
hpK (unmark h67 ms) fun h134 =>
some ((.bool false), h134)) (
j68_ (v.1, v.2.1, v.2.2.1, v.2.2.2.1, v.2.2.2.2.1, v.2.2.2.2.2.1, v.2.2.2.2.2.2.1, ()) ms h67)))) (
bothK (E (.fn 12) [v.2.2.1, v.2.2.2.2.1] h) fun x135 h136 =>
valK (extractA x135 0) fun x137 =>
valK (extractA x135 1) fun x138 =>
bothK (newCells h136 [.int .i64 0, .int .i64 0, .str [], .int .i64 0] fun o => .ptr o 0) fun x139 h140 =>
hpK (storeA tab h140 35 x139 x137) fun h141 =>
valK (aun .not x138) fun x142 =>
boolK x142 (
bothK (E (.fn 11) [v.2.2.1] h141) fun x143 h144 =>
valK (abuild tab 26 [(0, (.int .i64 2))]) fun x145 =>
valK (abin tab .eql 26 x143 x145) fun x146 =>
boolK x146 (
bothK (E (.fn 15) [] h144) fun x147 h148 =>
hpK (unmark h148 ms) fun h149 =>
some (x147, h149)) (
hpK (unmark h144 ms) fun h150 =>
some ((.bool false), h150))) (
hpK (unmark h141 ms) fun h151 =>
some ((.bool false), h151)))
/-- v: 0 n, 1 data, 2 order, 7 t, 8 d, 10 f, 12 names, 13 i -/
noncomputable def F3_b11 (E : Env) (n : Nat) (v : AV × AV × AV × AV × AV × AV × AV × AV × Unit) (ms : List Nat) (h : AHeap) (next21_ : AV × AV × AV × AV × AV × AV × AV × AV × Unit → List Nat → AHeap → Option (AV × AHeap)) : Option (AV × AHeap) :=
valK (abin tab .rem 5 v.1 (.int .u8 12)) fun x22 =>
bothK (aconvert tab h 5 3 x22) fun x23 h24 =>
valK (abin tab .add 3 (.int .i64 1) x23) fun x25 =>
valK (abin tab .lss 3 v.2.2.2.2.2.2.2.1 x25) fun x26 =>
boolK x26 (
bothK (aconvert tab h24 3 5 v.2.2.2.2.2.2.2.1) fun x27 h28 =>
valK (abin tab .add 5 (.int .u8 97) x27) fun x29 =>
bothK (abuildSlice tab h28 22 1 [(0, x29)]) fun x30 h31 =>
bothK (aconvert tab h31 22 9 x30) fun x32 h33 =>
valK (abin tab .rem 3 v.2.2.2.2.2.2.2.1 (.int .i64 2)) fun x34 =>
valK (abin tab .eql 3 x34 (.int .i64 1)) fun x35 =>
boolK x35 (
bothK (E (.fn 9) [v.2.2.2.1, v.2.2.2.2.1, x32, v.2.2.2.2.2.1] h33) fun x36 h37 =>
valK (abin tab .neq 27 x36 (.int .i64 0)) fun x38 =>
boolK x38 (
hpK (unmark h37 ms) fun h39 =>
some ((.bool false), h39)) (
bothK (abuildSlice tab h37 30 1 [(0, x32)]) fun x40 h41 =>
bothK (aappend tab h41 30 30 v.2.2.2.2.2.2.1 x40) fun x42 h43 =>
valK (abin tab .add 3 v.2.2.2.2.2.2.2.1 (.int .i64 1)) fun x44 =>
next21_ (v.1, v.2.1, v.2.2.1, v.2.2.2.1, v.2.2.2.2.1, v.2.2.2.2.2.1, x42, x44, ()) ms h43)) (
bothK (E (.fn 9) [v.2.2.2.1, (.int .i64 1), x32, v.2.2.2.2.2.1] h33) fun x45 h46 =>
valK (abin tab .neq 27 x45 (.int .i64 0)) fun x47 =>
boolK x47 (
hpK (unmark h46 ms) fun h48 =>
some ((.bool false), h48)) (
bothK (abuildSlice tab h46 30 1 [(0, x32)]) fun x49 h50 =>
bothK (aappend tab h50 30 30 v.2.2.2.2.2.2.1 x49) fun x51 h52 =>
valK (abin tab .add 3 v.2.2.2.2.2.2.2.1 (.int .i64 1)) fun x53 =>
next21_ (v.1, v.2.1, v.2.2.1, v.2.2.2.1, v.2.2.2.2.1, v.2.2.2.2.2.1, x51, x53, ()) ms h52))) (
jn (fun (v55 : AV × AV × AV × AV × AV × AV × Unit) ms56 h57 =>
loopN (F3_b23 E n) n (v55.1, v55.2.1, v55.2.2.1, v55.2.2.2.1, v55.2.2.2.2.1, v55.2.2.2.2.2.1, (.int .i64 0), ()) ms56 h57) fun j54_ =>
bothK (E (.fn 10) [v.2.2.2.1, v.2.2.2.2.2.1, v.2.1] h24) fun x152 h153 =>
valK (abin tab .neq 27 x152 (.int .i64 0)) fun x154 =>
boolK x154 (
hpK (unmark h153 ms) fun h155 =>
some ((.bool false), h155)) (
bothK (E (.fn 11) [v.2.2.2.1] h153) fun x156 h157 =>
valK (alen tab h157 9 v.2.1) fun x158 =>
valK (abuild tab 26 [(0, (.int .i64 3)), (1, x158)]) fun x159 =>
valK (abin tab .neq 26 x156 x159) fun x160 =>
boolK x160 (
hpK (unmark h157 ms) fun h161 =>
some ((.bool false), h161)) (
j54_ (v.2.1, v.2.2.1, v.2.2.2.1, v.2.2.2.2.1, v.2.2.2.2.2.1, v.2.2.2.2.2.2.1, ()) ms h157)))
/-- whisk/whisklaw07.InodeLinks (n, data, order) -/
noncomputable def F3 (E : Env) (n : Nat) (a0 a1 a2 : AV) (h : AHeap) : Option (AV × AHeap) :=
valK (abuild tab 26 [(0, (.int .i64 10)), (1, (.int .i64 300))]) fun x0 =>
bothK (E (.fn 7) [x0] h) fun x1 h2 =>
valK (abin tab .eql 23 x1 (.nilptr)) fun x3 =>
boolK x3 (
some ((.bool false), h2)) (
valK (alen tab h2 9 a1) fun x4 =>
valK (amin x4 (.int .i64 200)) fun x5 =>
valK (aslice tab 9 a1 none (some x5)) fun x6 =>
bothK (E (.fn 8) [x1, (.int .i64 1), (.str [100]), (.int .i64 2), (.int .i64 493), (.str [])] h2) fun x7 h8 =>
valK (extractA x7 0) fun x9 =>
valK (extractA x7 1) fun x10 =>
bothK (E (.fn 8) [x1, (.int .i64 1), (.str [97]), (.int .i64 1), (.int .i64 420), (.str [111, 108, 100])] h8) fun x11 h12 =>
valK (extractA x11 0) fun x13 =>
valK (extractA x11 1) fun x14 =>
jn (fun (v16 : AV × AV × AV × AV × AV × AV × Unit) ms17 h18 =>
bothK (abuildSlice tab h18 30 1 [(0, (.str [97]))]) fun x19 h20 =>
loopN (F3_b11 E n) n (v16.1, v16.2.1, v16.2.2.1, v16.2.2.2.1, v16.2.2.2.2.1, v16.2.2.2.2.2.1, x19, (.int .i64 1), ()) ms17 h20) fun j15_ =>
valK (abin tab .neq 27 x10 (.int .i64 0)) fun x162 =>
boolK x162 (
some ((.bool false), h12)) (
valK (abin tab .neq 27 x14 (.int .i64 0)) fun x163 =>
boolK x163 (
some ((.bool false), h12)) (
j15_ (a0, x6, a2, x1, x9, x13, ()) [] h12)))
theorem F3_eq (E : Env) (n : Nat) (a0 a1 a2 : AV) (h : AHeap) : fnK E tab a3 3 n [a0, a1, a2] h = F3 E n a0 a1 a2 h := by kernel_rfl

/-- v: 0 l, 5 quota, 6 t, 7 i, 10 links, 12 inodes, 13 bytes, 23 ino -/
noncomputable def F4_b39 (E : Env) (n : Nat) (next20_ : AV × AV × AV × AV × Unit → List Nat → AHeap → Option (AV × AHeap)) (v : AV × AV × AV × AV × AV × AV × AV × AV × Unit) (ms : List Nat) (h : AHeap) (next46_ : AV × AV × AV × AV × AV × AV × AV × AV × Unit → List Nat → AHeap → Option (AV × AHeap)) : Option (AV × AHeap) :=
valK (abin tab .lss 3 v.2.2.2.2.2.2.2.1 (.int .i64 70)) fun x47 =>
boolK x47 (
bothK (E (.fn 12) [v.2.2.1, v.2.2.2.2.2.2.2.1] h) fun x48 h49 =>
valK (extractA x48 0) fun x50 =>
valK (extractA x48 1) fun x51 =>
bothK (newCells h49 [.int .i64 0, .int .i64 0, .str [], .int .i64 0] fun o => .ptr o 0) fun x52 h53 =>
hpK (storeA tab h53 35 x52 x50) fun h54 =>
valK (alookup tab h54 46 v.2.2.2.2.1 v.2.2.2.2.2.2.2.1 false) fun x55 =>
valK (abin tab .gtr 3 x55 (.int .i64 0)) fun x56 =>
valK (abin tab .neq 4 x51 x56) fun x57 =>
boolK x57 (
hpK (unmark h54 ms) fun h58 =>
some ((.bool false), h58)) (
skipK x51 (
boolK (.tuple []) (
boolK (.tuple []) (
hpK (unmark h54 ms) fun h59 =>
some ((.bool false), h59)) (
valK (abin tab .add 3 v.2.2.2.2.2.2.2.1 (.int .i64 1)) fun x60 =>
next46_ (v.1, v.2.1, v.2.2.1, v.2.2.2.1, v.2.2.2.2.1, v.2.2.2.2.2.1, v.2.2.2.2.2.2.1, x60, ()) ms h54)) (
valK (abin tab .add 3 v.2.2.2.2.2.2.2.1 (.int .i64 1)) fun x61 =>
next46_ (v.1, v.2.1, v.2.2.1, v.2.2.2.1, v.2.2.2.2.1, v.2.2.2.2.2.1, v.2.2.2.2.2.2.1, x61, ()) ms h54)) (
boolK x51 (
valK (afieldAddr tab 35 x52 3) fun x62 =>
valK (loadA tab h54 3 x62) fun x63 =>
valK (alookup tab h54 46 v.2.2.2.2.1 v.2.2.2.2.2.2.2.1 false) fun x64 =>
valK (abin tab .neq 3 x63 x64) fun x65 =>
boolK x65 (
hpK (unmark h54 ms) fun h66 =>
some ((.bool false), h66)) (
valK (abin tab .add 3 v.2.2.2.2.2.2.2.1 (.int .i64 1)) fun x67 =>
next46_ (v.1, v.2.1, v.2.2.1, v.2.2.2.1, v.2.2.2.2.1, v.2.2.2.2.2.1, v.2.2.2.2.2.2.1, x67, ()) ms h54)) (
valK (abin tab .add 3 v.2.2.2.2.2.2.2.1 (.int .i64 1)) fun x68 =>
next46_ (v.1, v.2.1, v.2.2.1, v.2.2.2.1, v.2.2.2.2.1, v.2.2.2.2.2.1, v.2.2.2.2.2.2.1, x68, ()) ms h54)))) (
bothK (E (.fn 11) [v.2.2.1] h) fun x69 h70 =>
valK (abuild tab 26 [(0, v.2.2.2.2.2.1), (1, v.2.2.2.2.2.2.1)]) fun x71 =>
valK (abin tab .neq 26 x69 x71) fun x72 =>
boolK x72 (
hpK (unmark h70 ms) fun h73 =>
some ((.bool false), h73)) (
valK (afieldAddr tab 26 v.2.1 0) fun x74 =>
valK (loadA tab h70 3 x74) fun x75 =>
valK (abin tab .gtr 3 v.2.2.2.2.2.1 x75) fun x76 =>
boolK x76 (
hpK (unmark h70 ms) fun h77 =>
some ((.bool false), h77)) (
valK (afieldAddr tab 26 v.2.1 1) fun x78 =>
valK (loadA tab h70 3 x78) fun x79 =>
valK (abin tab .gtr 3 v.2.2.2.2.2.2.1 x79) fun x80 =>
boolK x80 (
hpK (unmark h70 ms) fun h81 =>
some ((.bool false), h81)) (
valK (abin tab .add 3 v.2.2.2.1 (.int .i64 1)) fun x82 =>
next20_ (v.1, v.2.1, v.2.2.1, x82, ()) ms h70))))
/-- v: 0 l, 5 quota, 6 t, 7 i, 10 links, 11 todo, 12 inodes, 13 bytes, 14 k, 17 names, 18 j -/
noncomputable def F4_b27 (E : Env) (n : Nat) (next83_ : AV × AV × AV × AV × AV × AV × AV × AV × AV × Unit → List Nat → AHeap → Option (AV × AHeap)) (v : AV × AV × AV × AV × AV × AV × AV × AV × AV × AV × AV × Unit) (ms : List Nat) (h : AHeap) (next112_ : AV × AV × AV × AV × AV × AV × AV × AV × AV × AV × AV × Unit → List Nat → AHeap → Option (AV × AHeap)) : Option (AV × AHeap) :=
valK (alen tab h 30 v.2.2.2.2.2.2.2.2.2.1) fun x113 =>
valK (abin tab .lss 3 v.2.2.2.2.2.2.2.2.2.2.1 x113) fun x114 =>
boolK x114 (
valK (aindexAddr tab 47 v.2.2.2.2.2.1 v.2.2.2.2.2.2.2.2.1) fun x115 =>
valK (loadA tab h 3 x115) fun x116 =>
valK (aindexAddr tab 30 v.2.2.2.2.2.2.2.2.2.1 v.2.2.2.2.2.2.2.2.2.2.1) fun x117 =>
valK (loadA tab h 9 x117) fun x118 =>
bothK (E (.fn 13) [v.2.2.1, x116, x118] h) fun x119 h120 =>
valK (extractA x119 0) fun x121 =>
valK (extractA x119 1) fun x122 =>
bothK (E (.fn 12) [v.2.2.1, x121] h120) fun x123 h124 =>
valK (extractA x123 0) fun x125 =>
valK (extractA x123 1) fun x126 =>
bothK (newCells h124 [.int .i64 0, .int .i64 0, .str [], .int .i64 0] fun o => .ptr o 0) fun x127 h128 =>
hpK (storeA tab h128 35 x127 x125) fun h129 =>
jn (fun (v131 : AV × AV × AV × AV × AV × AV × AV × AV × AV × AV × AV × AV × AV × Unit) ms132 h133 =>
valK (alookup tab h133 46 v131.2.2.2.2.1 v131.2.2.2.2.2.2.2.2.2.2.2.1 false) fun x134 =>
valK (abin tab .add 3 x134 (.int .i64 1)) fun x135 =>
hpK (amapUpdate tab h133 46 v131.2.2.2.2.1 v131.2.2.2.2.2.2.2.2.2.2.2.1 x135) fun h136 =>
valK (alookup tab h136 46 v131.2.2.2.2.1 v131.2.2.2.2.2.2.2.2.2.2.2.1 false) fun x137 =>
valK (abin tab .eql 3 x137 (.int .i64 1)) fun x138 =>
boolK x138 (
bothK (abuildSlice tab h136 47 1 [(0, v131.2.2.2.2.2.2.2.2.2.2.2.1)]) fun x139 h140 =>
bothK (aappend tab h140 47 47 v131.2.2.2.2.2.1 x139) fun x141 h142 =>
valK (abin tab .add 3 v131.2.2.2.2.2.2.2.2.2.2.1 (.int .i64 1)) fun x143 =>
next112_ (v131.1, v131.2.1, v131.2.2.1, v131.2.2.2.1, v131.2.2.2.2.1, x141, v131.2.2.2.2.2.2.1, v131.2.2.2.2.2.2.2.1, v131.2.2.2.2.2.2.2.2.1, v131.2.2.2.2.2.2.2.2.2.1, x143, ()) ms132 h142) (
valK (afieldAddr tab 35 v131.2.2.2.2.2.2.2.2.2.2.2.2.1 0) fun x144 =>
valK (loadA tab h136 3 x144) fun x145 =>
valK (abin tab .neq 3 x145 (.int .i64 1)) fun x146 =>
boolK x146 (
hpK (unmark h136 ms132) fun h147 =>
some ((.bool false), h147)) (
valK (abin tab .add 3 v131.2.2.2.2.2.2.2.2.2.2.1 (.int .i64 1)) fun x148 =>
next112_ (v131.1, v131.2.1, v131.2.2.1, v131.2.2.2.1, v131.2.2.2.2.1, v131.2.2.2.2.2.1, v131.2.2.2.2.2.2.1, v131.2.2.2.2.2.2.2.1, v131.2.2.2.2.2.2.2.2.1, v131.2.2.2.2.2.2.2.2.2.1, x148, ()) ms132 h136))) fun j130_ =>
valK (aun .not x122) fun x149 =>
boolK x149 (
hpK (unmark h129 ms) fun h150 =>
some ((.bool false), h150)) (
valK (aun .not x126) fun x151 =>
boolK x151 (
hpK (unmark h129 ms) fun h152 =>
some ((.bool false), h152)) (
valK (abin tab .gtr 3 v.2.2.2.2.2.2.2.2.2.2.1 (.int .i64 0)) fun x153 =>
skipK x153 (
boolK (.tuple []) (
boolK (.tuple []) (
hpK (unmark h129 ms) fun h154 =>
some ((.bool false), h154)) (
valK (afieldAddr tab 35 x127 0) fun x155 =>
valK (loadA tab h129 3 x155) fun x156 =>
valK (abin tab .eql 3 x156 (.int .i64 2)) fun x157 =>
skipK x157 (
boolK (.tuple []) (
boolK (.tuple []) (
hpK (unmark h129 ms) fun h158 =>
some ((.bool false), h158)) (
j130_ (v.1, v.2.1, v.2.2.1, v.2.2.2.1, v.2.2.2.2.1, v.2.2.2.2.2.1, v.2.2.2.2.2.2.1, v.2.2.2.2.2.2.2.1, v.2.2.2.2.2.2.2.2.1, v.2.2.2.2.2.2.2.2.2.1, v.2.2.2.2.2.2.2.2.2.2.1, x121, x127, ()) ms h129)) (
j130_ (v.1, v.2.1, v.2.2.1, v.2.2.2.1, v.2.2.2.2.1, v.2.2.2.2.2.1, v.2.2.2.2.2.2.1, v.2.2.2.2.2.2.2.1, v.2.2.2.2.2.2.2.2.1, v.2.2.2.2.2.2.2.2.2.1, v.2.2.2.2.2.2.2.2.2.2.1, x121, x127, ()) ms h129)) (
boolK x157 (
valK (aindexAddr tab 47 v.2.2.2.2.2.1 v.2.2.2.2.2.2.2.2.1) fun x159 =>
valK (loadA tab h129 3 x159) fun x160 =>
bothK (E (.fn 18) [v.2.2.1, x121] h129) fun x161 h162 =>
valK (loadA tab h162 3 x159) fun x163 =>
sameK x163 x160 (
valK (abin tab .neq 3 x161 x160) fun x164 =>
boolK x164 (
hpK (unmark h162 ms) fun h165 =>
some ((.bool false), h165)) (
j130_ (v.1, v.2.1, v.2.2.1, v.2.2.2.1, v.2.2.2.2.1, v.2.2.2.2.2.1, v.2.2.2.2.2.2.1, v.2.2.2.2.2.2.2.1, v.2.2.2.2.2.2.2.2.1, v.2.2.2.2.2.2.2.2.2.1, v.2.2.2.2.2.2.2.2.2.2.1, x121, x127, ()) ms h162))) (
j130_ (v.1, v.2.1, v.2.2.1, v.2.2.2.1, v.2.2.2.2.1, v.2.2.2.2.2.1, v.2.2.2.2.2.2.1, v.2.2.2.2.2.2.2.1, v.2.2.2.2.2.2.2.2.1, v.2.2.2.2.2.2.2.2.2.1, v.2.2.2.2.2.2.2.2.2.2.1, x121, x127, ()) ms h129)))) (
valK (afieldAddr tab 35 x127 0) fun x166 =>
valK (loadA tab h129 3 x166) fun x167 =>
valK (abin tab .eql 3 x167 (.int .i64 2)) fun x168 =>
skipK x168 (
boolK (.tuple []) (
boolK (.tuple []) (
hpK (unmark h129 ms) fun h169 =>
some ((.bool false), h169)) (
j130_ (v.1, v.2.1, v.2.2.1, v.2.2.2.1, v.2.2.2.2.1, v.2.2.2.2.2.1, v.2.2.2.2.2.2.1, v.2.2.2.2.2.2.2.1, v.2.2.2.2.2.2.2.2.1, v.2.2.2.2.2.2.2.2.2.1, v.2.2.2.2.2.2.2.2.2.2.1, x121, x127, ()) ms h129)) (
j130_ (v.1, v.2.1, v.2.2.1, v.2.2.2.1, v.2.2.2.2.1, v.2.2.2.2.2.1, v.2.2.2.2.2.2.1, v.2.2.2.2.2.2.2.1, v.2.2.2.2.2.2.2.2.1, v.2.2.2.2.2.2.2.2.2.1, v.2.2.2.2.2.2.2.2.2.2.1, x121, x127, ()) ms h129)) (
boolK x168 (
valK (aindexAddr tab 47 v.2.2.2.2.2.1 v.2.2.2.2.2.2.2.2.1) fun x170 =>
valK (loadA tab h129 3 x170) fun x171 =>
bothK (E (.fn 18) [v.2.2.1, x121] h129) fun x172 h173 =>
valK (loadA tab h173 3 x170) fun x174 =>
sameK x174 x171 (
valK (abin tab .neq 3 x172 x171) fun x175 =>
boolK x175 (
hpK (unmark h173 ms) fun h176 =>
some ((.bool false), h176)) (
j130_ (v.1, v.2.1, v.2.2.1, v.2.2.2.1, v.2.2.2.2.1, v.2.2.2.2.2.1, v.2.2.2.2.2.2.1, v.2.2.2.2.2.2.2.1, v.2.2.2.2.2.2.2.2.1, v.2.2.2.2.2.2.2.2.2.1, v.2.2.2.2.2.2.2.2.2.2.1, x121, x127, ()) ms h173))) (
j130_ (v.1, v.2.1, v.2.2.1, v.2.2.2.1, v.2.2.2.2.1, v.2.2.2.2.2.1, v.2.2.2.2.2.2.1, v.2.2.2.2.2.2.2.1, v.2.2.2.2.2.2.2.2.1, v.2.2.2.2.2.2.2.2.2.1, v.2.2.2.2.2.2.2.2.2.2.1, x121, x127, ()) ms h129)))) (
boolK x153 (
valK (abin tab .sub 3 v.2.2.2.2.2.2.2.2.2.2.1 (.int .i64 1)) fun x177 =>
valK (aindexAddr tab 30 v.2.2.2.2.2.2.2.2.2.1 x177) fun x178 =>
valK (loadA tab h129 9 x178) fun x179 =>
valK (aindexAddr tab 30 v.2.2.2.2.2.2.2.2.2.1 v.2.2.2.2.2.2.2.2.2.2.1) fun x180 =>
valK (loadA tab h129 9 x180) fun x181 =>
valK (abin tab .geq 9 x179 x181) fun x182 =>
boolK x182 (
hpK (unmark h129 ms) fun h183 =>
some ((.bool false), h183)) (
valK (afieldAddr tab 35 x127 0) fun x184 =>
valK (loadA tab h129 3 x184) fun x185 =>
valK (abin tab .eql 3 x185 (.int .i64 2)) fun x186 =>
skipK x186 (
boolK (.tuple []) (
boolK (.tuple []) (
hpK (unmark h129 ms) fun h187 =>
some ((.bool false), h187)) (
j130_ (v.1, v.2.1, v.2.2.1, v.2.2.2.1, v.2.2.2.2.1, v.2.2.2.2.2.1, v.2.2.2.2.2.2.1, v.2.2.2.2.2.2.2.1, v.2.2.2.2.2.2.2.2.1, v.2.2.2.2.2.2.2.2.2.1, v.2.2.2.2.2.2.2.2.2.2.1, x121, x127, ()) ms h129)) (
j130_ (v.1, v.2.1, v.2.2.1, v.2.2.2.1, v.2.2.2.2.1, v.2.2.2.2.2.1, v.2.2.2.2.2.2.1, v.2.2.2.2.2.2.2.1, v.2.2.2.2.2.2.2.2.1, v.2.2.2.2.2.2.2.2.2.1, v.2.2.2.2.2.2.2.2.2.2.1, x121, x127, ()) ms h129)) (
boolK x186 (
valK (aindexAddr tab 47 v.2.2.2.2.2.1 v.2.2.2.2.2.2.2.2.1) fun x188 =>
valK (loadA tab h129 3 x188) fun x189 =>
bothK (E (.fn 18) [v.2.2.1, x121] h129) fun x190 h191 =>
valK (loadA tab h191 3 x188) fun x192 =>
sameK x192 x189 (
valK (abin tab .neq 3 x190 x189) fun x193 =>
boolK x193 (
hpK (unmark h191 ms) fun h194 =>
some ((.bool false), h194)) (
j130_ (v.1, v.2.1, v.2.2.1, v.2.2.2.1, v.2.2.2.2.1, v.2.2.2.2.2.1, v.2.2.2.2.2.2.1, v.2.2.2.2.2.2.2.1, v.2.2.2.2.2.2.2.2.1, v.2.2.2.2.2.2.2.2.2.1, v.2.2.2.2.2.2.2.2.2.2.1, x121, x127, ()) ms h191))) (
j130_ (v.1, v.2.1, v.2.2.1, v.2.2.2.1, v.2.2.2.2.1, v.2.2.2.2.2.1, v.2.2.2.2.2.2.1, v.2.2.2.2.2.2.2.1, v.2.2.2.2.2.2.2.2.1, v.2.2.2.2.2.2.2.2.2.1, v.2.2.2.2.2.2.2.2.2.2.1, x121, x127, ()) ms h129)))) (
valK (afieldAddr tab 35 x127 0) fun x195 =>
valK (loadA tab h129 3 x195) fun x196 =>
valK (abin tab .eql 3 x196 (.int .i64 2)) fun x197 =>
skipK x197 (
boolK (.tuple []) (
boolK (.tuple []) (
hpK (unmark h129 ms) fun h198 =>
some ((.bool false), h198)) (
j130_ (v.1, v.2.1, v.2.2.1, v.2.2.2.1, v.2.2.2.2.1, v.2.2.2.2.2.1, v.2.2.2.2.2.2.1, v.2.2.2.2.2.2.2.1, v.2.2.2.2.2.2.2.2.1, v.2.2.2.2.2.2.2.2.2.1, v.2.2.2.2.2.2.2.2.2.2.1, x121, x127, ()) ms h129)) (
j130_ (v.1, v.2.1, v.2.2.1, v.2.2.2.1, v.2.2.2.2.1, v.2.2.2.2.2.1, v.2.2.2.2.2.2.1, v.2.2.2.2.2.2.2.1, v.2.2.2.2.2.2.2.2.1, v.2.2.2.2.2.2.2.2.2.1, v.2.2.2.2.2.2.2.2.2.2.1, x121, x127, ()) ms h129)) (
boolK x197 (
valK (aindexAddr tab 47 v.2.2.2.2.2.1 v.2.2.2.2.2.2.2.2.1) fun x199 =>
valK (loadA tab h129 3 x199) fun x200 =>
bothK (E (.fn 18) [v.2.2.1, x121] h129) fun x201 h202 =>
valK (loadA tab h202 3 x199) fun x203 =>
sameK x203 x200 (
valK (abin tab .neq 3 x201 x200) fun x204 =>
boolK x204 (
hpK (unmark h202 ms) fun h205 =>
some ((.bool false), h205)) (
j130_ (v.1, v.2.1, v.2.2.1, v.2.2.2.1, v.2.2.2.2.1, v.2.2.2.2.2.1, v.2.2.2.2.2.2.1, v.2.2.2.2.2.2.2.1, v.2.2.2.2.2.2.2.2.1, v.2.2.2.2.2.2.2.2.2.1, v.2.2.2.2.2.2.2.2.2.2.1, x121, x127, ()) ms h202))) (
j130_ (v.1, v.2.1, v.2.2.1, v.2.2.2.1, v.2.2.2.2.1, v.2.2.2.2.2.1, v.2.2.2.2.2.2.1, v.2.2.2.2.2.2.2.1, v.2.2.2.2.2.2.2.2.1, v.2.2.2.2.2.2.2.2.2.1, v.2.2.2.2.2.2.2.2.2.2.1, x121, x127, ()) ms h129))))))) (
valK (abin tab .add 3 v.2.2.2.2.2.2.2.2.1 (.int .i64 1)) fun x206 =>
next83_ (v.1, v.2.1, v.2.2.1, v.2.2.2.1, v.2.2.2.2.1, v.2.2.2.2.2.1, v.2.2.2.2.2.2.1, v.2.2.2.2.2.2.2.1, x206, ()) ms h)
/-- v: 0 l, 5 quota, 6 t, 7 i, 10 links, 11 todo, 12 inodes, 13 bytes, 14 k -/
noncomputable def F4_b16 (E : Env) (n : Nat) (j42_ : AV × AV × AV × AV × AV × AV × AV × Unit → List Nat → AHeap → Option (AV × AHeap)) (v : AV × AV × AV × AV × AV × AV × AV × AV × AV × Unit) (ms : List Nat) (h : AHeap) (next83_ : AV × AV × AV × AV × AV × AV × AV × AV × AV × Unit → List Nat → AHeap → Option (AV × AHeap)) : Option (AV × AHeap) :=
jn (fun (v85 : AV × AV × AV × AV × AV × AV × AV × AV × AV × Unit) ms86 h87 =>
valK (aindexAddr tab 47 v85.2.2.2.2.2.1 v85.2.2.2.2.2.2.2.2.1) fun x88 =>
valK (loadA tab h87 3 x88) fun x89 =>
bothK (E (.fn 12) [v85.2.2.1, x89] h87) fun x90 h91 =>
valK (extractA x90 0) fun x92 =>
valK (extractA x90 1) fun x93 =>
bothK (newCells h91 [.int .i64 0, .int .i64 0, .str [], .int .i64 0] fun o => .ptr o 0) fun x94 h95 =>
hpK (storeA tab h95 35 x94 x92) fun h96 =>
valK (aun .not x93) fun x97 =>
boolK x97 (
hpK (unmark h96 ms86) fun h98 =>
some ((.bool false), h98)) (
valK (abin tab .add 3 v85.2.2.2.2.2.2.1 (.int .i64 1)) fun x99 =>
valK (afieldAddr tab 35 x94 2) fun x100 =>
valK (loadA tab h96 9 x100) fun x101 =>
valK (alen tab h96 9 x101) fun x102 =>
valK (abin tab .add 3 v85.2.2.2.2.2.2.2.1 x102) fun x103 =>
valK (aindexAddr tab 47 v85.2.2.2.2.2.1 v85.2.2.2.2.2.2.2.2.1) fun x104 =>
valK (loadA tab h96 3 x104) fun x105 =>
bothK (E (.fn 17) [v85.2.2.1, x105] h96) fun x106 h107 =>
jn (fun (v109 : AV × AV × AV × AV × AV × AV × AV × AV × AV × AV × Unit) ms110 h111 =>
loopN (F4_b27 E n next83_) n (v109.1, v109.2.1, v109.2.2.1, v109.2.2.2.1, v109.2.2.2.2.1, v109.2.2.2.2.2.1, v109.2.2.2.2.2.2.1, v109.2.2.2.2.2.2.2.1, v109.2.2.2.2.2.2.2.2.1, v109.2.2.2.2.2.2.2.2.2.1, (.int .i64 0), ()) ms110 h111) fun j108_ =>
valK (afieldAddr tab 35 x94 0) fun x207 =>
valK (loadA tab h107 3 x207) fun x208 =>
valK (abin tab .neq 3 x208 (.int .i64 2)) fun x209 =>
boolK x209 (
valK (alen tab h107 30 x106) fun x210 =>
valK (abin tab .gtr 3 x210 (.int .i64 0)) fun x211 =>
boolK x211 (
hpK (unmark h107 ms86) fun h212 =>
some ((.bool false), h212)) (
valK (afieldAddr tab 35 x94 0) fun x213 =>
valK (loadA tab h107 3 x213) fun x214 =>
valK (abin tab .eql 3 x214 (.int .i64 2)) fun x215 =>
skipK x215 (
boolK (.tuple []) (
boolK (.tuple []) (
hpK (unmark h107 ms86) fun h216 =>
some ((.bool false), h216)) (
j108_ (v85.1, v85.2.1, v85.2.2.1, v85.2.2.2.1, v85.2.2.2.2.1, v85.2.2.2.2.2.1, x99, x103, v85.2.2.2.2.2.2.2.2.1, x106, ()) ms86 h107)) (
j108_ (v85.1, v85.2.1, v85.2.2.1, v85.2.2.2.1, v85.2.2.2.2.1, v85.2.2.2.2.2.1, x99, x103, v85.2.2.2.2.2.2.2.2.1, x106, ()) ms86 h107)) (
boolK x215 (
valK (afieldAddr tab 35 x94 2) fun x217 =>
valK (loadA tab h107 9 x217) fun x218 =>
valK (abin tab .neq 9 x218 (.str [])) fun x219 =>
boolK x219 (
hpK (unmark h107 ms86) fun h220 =>
some ((.bool false), h220)) (
j108_ (v85.1, v85.2.1, v85.2.2.1, v85.2.2.2.1, v85.2.2.2.2.1, v85.2.2.2.2.2.1, x99, x103, v85.2.2.2.2.2.2.2.2.1, x106, ()) ms86 h107)) (
j108_ (v85.1, v85.2.1, v85.2.2.1, v85.2.2.2.1, v85.2.2.2.2.1, v85.2.2.2.2.2.1, x99, x103, v85.2.2.2.2.2.2.2.2.1, x106, ()) ms86 h107)))) (
valK (afieldAddr tab 35 x94 0) fun x221 =>
valK (loadA tab h107 3 x221) fun x222 =>
valK (abin tab .eql 3 x222 (.int .i64 2)) fun x223 =>
skipK x223 (
boolK (.tuple []) (
boolK (.tuple []) (
hpK (unmark h107 ms86) fun h224 =>
some ((.bool false), h224)) (
j108_ (v85.1, v85.2.1, v85.2.2.1, v85.2.2.2.1, v85.2.2.2.2.1, v85.2.2.2.2.2.1, x99, x103, v85.2.2.2.2.2.2.2.2.1, x106, ()) ms86 h107)) (
j108_ (v85.1, v85.2.1, v85.2.2.1, v85.2.2.2.1, v85.2.2.2.2.1, v85.2.2.2.2.2.1, x99, x103, v85.2.2.2.2.2.2.2.2.1, x106, ()) ms86 h107)) (
boolK x223 (
valK (afieldAddr tab 35 x94 2) fun x225 =>
valK (loadA tab h107 9 x225) fun x226 =>
valK (abin tab .neq 9 x226 (.str [])) fun x227 =>
boolK x227 (
hpK (unmark h107 ms86) fun h228 =>
some ((.bool false), h228)) (
j108_ (v85.1, v85.2.1, v85.2.2.1, v85.2.2.2.1, v85.2.2.2.2.1, v85.2.2.2.2.2.1, x99, x103, v85.2.2.2.2.2.2.2.2.1, x106, ()) ms86 h107)) (
j108_ (v85.1, v85.2.1, v85.2.2.1, v85.2.2.2.1, v85.2.2.2.2.1, v85.2.2.2.2.2.1, x99, x103, v85.2.2.2.2.2.2.2.2.1, x106, ()) ms86 h107))))) fun j84_ =>
valK (alen tab h 47 v.2.2.2.2.2.1) fun x229 =>
valK (abin tab .lss 3 v.2.2.2.2.2.2.2.2.1 x229) fun x230 =>
boolK x230 (
valK (abin tab .lss 3 v.2.2.2.2.2.2.2.2.1 (.int .i64 300)) fun x231 =>
boolK x231 (
j84_ (v.1, v.2.1, v.2.2.1, v.2.2.2.1, v.2.2.2.2.1, v.2.2.2.2.2.1, v.2.2.2.2.2.2.1, v.2.2.2.2.2.2.2.1, v.2.2.2.2.2.2.2.2.1, ()) ms h) (
j42_ (v.1, v.2.1, v.2.2.1, v.2.2.2.1, v.2.2.2.2.1, v.2.2.2.2.2.2.1, v.2.2.2.2.2.2.2.1, ()) ms h)) (
j42_ (v.1, v.2.1, v.2.2.1, v.2.2.2.1, v.2.2.2.2.1, v.2.2.2.2.2.2.1, v.2.2.2.2.2.2.2.1, ()) ms h)
/-- v: 0 l, 5 quota, 6 t, 7 i -/
noncomputable def F4_b6 (E : Env) (n : Nat) (v : AV × AV × AV × AV × Unit) (ms : List Nat) (h : AHeap) (next20_ : AV × AV × AV × AV × Unit → List Nat → AHeap → Option (AV × AHeap)) : Option (AV × AHeap) :=
jn (fun (v22 : AV × AV × AV × AV × Unit) ms23 h24 =>
bothK (E (.fn 11) [v22.2.2.1] h24) fun x25 h26 =>
bothK (newCells h26 [.int .i64 0, .int .i64 0] fun o => .ptr o 0) fun x27 h28 =>
hpK (storeA tab h28 26 x27 x25) fun h29 =>
valK (aindexAddr tab 42 v22.1 v22.2.2.2.1) fun x30 =>
valK (loadA tab h29 45 x30) fun x31 =>
bothK (E (.fn 16) [v22.2.2.1, x31] h29) fun x32 h33 =>
jn (fun (v35 : AV × AV × AV × AV × Unit) ms36 h37 =>
bothK (newMapA h37) fun x38 h39 =>
bothK (abuildSlice tab h39 47 1 [(0, (.int .i64 1))]) fun x40 h41 =>
jn (fun (v43 : AV × AV × AV × AV × AV × AV × AV × Unit) ms44 h45 =>
loopN (F4_b39 E n next20_) n (v43.1, v43.2.1, v43.2.2.1, v43.2.2.2.1, v43.2.2.2.2.1, v43.2.2.2.2.2.1, v43.2.2.2.2.2.2.1, (.int .i64 2), ()) ms44 h45) fun j42_ =>
loopN (F4_b16 E n j42_) n (v35.1, v35.2.1, v35.2.2.1, v35.2.2.2.1, x38, x40, (.int .i64 0), (.int .i64 0), (.int .i64 0), ()) ms36 h41) fun j34_ =>
valK (abin tab .neq 27 x32 (.int .i64 0)) fun x232 =>
boolK x232 (
valK (loadA tab h33 26 x27) fun x233 =>
bothK (E (.fn 11) [v22.2.2.1] h33) fun x234 h235 =>
valK (loadA tab h235 26 x27) fun x236 =>
sameK x236 x233 (
valK (abin tab .neq 26 x234 x233) fun x237 =>
boolK x237 (
hpK (unmark h235 ms23) fun h238 =>
some ((.bool false), h238)) (
j34_ (v22.1, v22.2.1, v22.2.2.1, v22.2.2.2.1, ()) ms23 h235))) (
j34_ (v22.1, v22.2.1, v22.2.2.1, v22.2.2.2.1, ()) ms23 h33)) fun j21_ =>
valK (alen tab h 42 v.1) fun x239 =>
valK (abin tab .lss 3 v.2.2.2.1 x239) fun x240 =>
boolK x240 (
valK (abin tab .lss 3 v.2.2.2.1 (.int .i64 60)) fun x241 =>
boolK x241 (
j21_ (v.1, v.2.1, v.2.2.1, v.2.2.2.1, ()) ms h) (
bothK (E (.fn 15) [] h) fun x242 h243 =>
hpK (unmark h243 ms) fun h244 =>
some (x242, h244))) (
bothK (E (.fn 15) [] h) fun x245 h246 =>
hpK (unmark h246 ms) fun h247 =>
some (x245, h247))
/-- whisk/whisklaw07.InodeSound (l, q) -/
noncomputable def F4 (E : Env) (n : Nat) (a0 a1 : AV) (h : AHeap) : Option (AV × AHeap) :=
bothK (boxA h a1) fun x0 h1 =>
valK (aindexAddr tab 43 x0 (.int .i64 0)) fun x2 =>
valK (loadA tab h1 5 x2) fun x3 =>
valK (abin tab .rem 5 x3 (.int .u8 14)) fun x4 =>
bothK (aconvert tab h1 5 3 x4) fun x5 h6 =>
valK (abin tab .add 3 (.int .i64 1) x5) fun x7 =>
valK (aindexAddr tab 43 x0 (.int .i64 1)) fun x8 =>
valK (loadA tab h6 5 x8) fun x9 =>
bothK (aconvert tab h6 5 3 x9) fun x10 h11 =>
valK (abuild tab 26 [(0, x7), (1, x10)]) fun x12 =>
bothK (newCells h11 [.int .i64 0, .int .i64 0] fun o => .ptr o 0) fun x13 h14 =>
hpK (storeA tab h14 26 x13 x12) fun h15 =>
valK (loadA tab h15 26 x13) fun x16 =>
bothK (E (.fn 7) [x16] h15) fun x17 h18 =>
valK (abin tab .eql 23 x17 (.nilptr)) fun x19 =>
boolK x19 (
some ((.bool false), h18)) (
loopN (F4_b6 E n) n (a0, x13, x17, (.int .i64 0), ()) [] h18)
theorem F4_eq (E : Env) (n : Nat) (a0 a1 : AV) (h : AHeap) : fnK E tab a4 4 n [a0, a1] h = F4 E n a0 a1 h := by kernel_rfl

/-- v: 0 l, 1 dir, 2 data, 7 t, 8 i -/
noncomputable def F5_b5 (E : Env) (n : Nat) (j4_ : AV × AV × AV × Unit → List Nat → AHeap → Option (AV × AHeap)) (v : AV × AV × AV × AV × AV × Unit) (ms : List Nat) (h : AHeap) (next120_ : AV × AV × AV × AV × AV × Unit → List Nat → AHeap → Option (AV × AHeap)) : Option (AV × AHeap) :=
valK (alen tab h 42 v.1) fun x121 =>
valK (abin tab .lss 3 v.2.2.2.2.1 x121) fun x122 =>
boolK x122 (
valK (abin tab .lss 3 v.2.2.2.2.1 (.int .i64 30)) fun x123 =>
boolK x123 (
valK (aindexAddr tab 42 v.1 v.2.2.2.2.1) fun x124 =>
valK (loadA tab h 45 x124) fun x125 =>
bothK (E (.fn 16) [v.2.2.2.1, x125] h) fun x126 h127 =>
valK (abin tab .add 3 v.2.2.2.2.1 (.int .i64 1)) fun x128 =>
next120_ (v.1, v.2.1, v.2.2.1, v.2.2.2.1, x128, ()) ms h127) (
j4_ (v.2.1, v.2.2.1, v.2.2.2.1, ()) ms h)) (
j4_ (v.2.1, v.2.2.1, v.2.2.2.1, ()) ms h)
/-- whisk/whisklaw07.InodeUndone (l, dir, data) -/
noncomputable def F5 (E : Env) (n : Nat) (a0 a1 a2 : AV) (h : AHeap) : Option (AV × AHeap) :=
valK (abuild tab 26 [(0, (.int .i64 40)), (1, (.int .i64 2000))]) fun x0 =>
bothK (E (.fn 7) [x0] h) fun x1 h2 =>
valK (abin tab .eql 23 x1 (.nilptr)) fun x3 =>
boolK x3 (
some ((.bool false), h2)) (
jn (fun (v5 : AV × AV × AV × Unit) ms6 h7 =>
valK (abin tab .rem 5 v5.1 (.int .u8 12)) fun x8 =>
bothK (aconvert tab h7 5 3 x8) fun x9 h10 =>
valK (abin tab .add 3 (.int .i64 1) x9) fun x11 =>
jn (fun (v13 : AV × AV × AV × Unit) ms14 h15 =>
valK (alen tab h15 9 v13.1) fun x16 =>
valK (amin x16 (.int .i64 200)) fun x17 =>
valK (aslice tab 9 v13.1 none (some x17)) fun x18 =>
bothK (E (.fn 11) [v13.2.1] h15) fun x19 h20 =>
bothK (E (.fn 17) [v13.2.1, v13.2.2.1] h20) fun x21 h22 =>
valK (alen tab h22 30 x21) fun x23 =>
bothK (newCells h22 [.int .i64 0, .int .i64 0] fun o => .ptr o 0) fun x24 h25 =>
hpK (storeA tab h25 26 x24 x19) fun h26 =>
bothK (E (.fn 8) [v13.2.1, v13.2.2.1, (.str [102, 114, 101, 115, 104]), (.int .i64 1), (.int .i64 420), x18] h26) fun x27 h28 =>
valK (extractA x27 0) fun x29 =>
valK (extractA x27 1) fun x30 =>
jn (fun (v32 : AV × AV × AV × AV × AV × Unit) ms33 h34 =>
jn (fun (v36 : AV × AV × AV × AV × AV × Unit) ms37 h38 =>
jn (fun (v40 : AV × AV × AV × Unit) ms41 h42 =>
bothK (E (.fn 12) [v40.1, v40.2.2.1] h42) fun x43 h44 =>
valK (extractA x43 0) fun x45 =>
valK (extractA x43 1) fun x46 =>
bothK (newCells h44 [.int .i64 0, .int .i64 0, .str [], .int .i64 0] fun o => .ptr o 0) fun x47 h48 =>
hpK (storeA tab h48 35 x47 x45) fun h49 =>
bothK (E (.fn 8) [v40.1, v40.2.1, (.str [102, 114, 101, 115, 104]), (.int .i64 2), (.int .i64 493), (.str [])] h49) fun x50 h51 =>
valK (extractA x50 0) fun x52 =>
valK (extractA x50 1) fun x53 =>
valK (aun .not x46) fun x54 =>
boolK x54 (
valK (abin tab .eql 27 x53 (.int .i64 0)) fun x55 =>
boolK x55 (
valK (abin tab .gtr 3 x52 v40.2.2.1) fun x56 =>
boolK x56 (
bothK (E (.fn 15) [] h51) fun x57 h58 =>
hpK (unmark h58 ms41) fun h59 =>
some (x57, h59)) (
hpK (unmark h51 ms41) fun h60 =>
some ((.bool false), h60))) (
hpK (unmark h51 ms41) fun h61 =>
some ((.bool false), h61))) (
hpK (unmark h51 ms41) fun h62 =>
some ((.bool false), h62))) fun j39_ =>
bothK (E (.fn 13) [v36.1, v36.2.1, (.str [102, 114, 101, 115, 104])] h38) fun x63 h64 =>
valK (extractA x63 0) fun x65 =>
valK (extractA x63 1) fun x66 =>
valK (aun .not x66) fun x67 =>
boolK x67 (
hpK (unmark h64 ms37) fun h68 =>
some ((.bool false), h68)) (
valK (abin tab .neq 3 x65 v36.2.2.2.2.1) fun x69 =>
boolK x69 (
hpK (unmark h64 ms37) fun h70 =>
some ((.bool false), h70)) (
bothK (E (.fn 14) [v36.1, v36.2.1, (.str [102, 114, 101, 115, 104])] h64) fun x71 h72 =>
valK (abin tab .neq 27 x71 (.int .i64 0)) fun x73 =>
boolK x73 (
hpK (unmark h72 ms37) fun h74 =>
some ((.bool false), h74)) (
valK (loadA tab h72 26 v36.2.2.1) fun x75 =>
bothK (E (.fn 11) [v36.1] h72) fun x76 h77 =>
valK (loadA tab h77 26 v36.2.2.1) fun x78 =>
sameK x78 x75 (
valK (abin tab .neq 26 x76 x75) fun x79 =>
boolK x79 (
hpK (unmark h77 ms37) fun h80 =>
some ((.bool false), h80)) (
bothK (E (.fn 17) [v36.1, v36.2.1] h77) fun x81 h82 =>
valK (alen tab h82 30 x81) fun x83 =>
valK (abin tab .neq 3 x83 v36.2.2.2.1) fun x84 =>
boolK x84 (
hpK (unmark h82 ms37) fun h85 =>
some ((.bool false), h85)) (
j39_ (v36.1, v36.2.1, v36.2.2.2.2.1, ()) ms37 h82))))))) fun j35_ =>
bothK (E (.fn 19) [v32.1, v32.2.1, (.str [102, 114, 101, 115, 104]), (.int .i64 1), (.str [111, 116, 104, 101, 114])] h34) fun x86 h87 =>
valK (abin tab .neq 27 x86 (.int .i64 0)) fun x88 =>
boolK x88 (
hpK (unmark h87 ms33) fun h89 =>
some ((.bool false), h89)) (
bothK (E (.fn 19) [v32.1, (.int .i64 1), (.str [111, 116, 104, 101, 114]), v32.2.1, (.str [102, 114, 101, 115, 104])] h87) fun x90 h91 =>
valK (abin tab .neq 27 x90 (.int .i64 0)) fun x92 =>
boolK x92 (
hpK (unmark h91 ms33) fun h93 =>
some ((.bool false), h93)) (
j35_ (v32.1, v32.2.1, v32.2.2.1, v32.2.2.2.1, v32.2.2.2.2.1, ()) ms33 h91))) fun j31_ =>
valK (abin tab .neq 27 x30 (.int .i64 0)) fun x94 =>
boolK x94 (
hpK (unmark h28 ms14) fun h95 =>
some ((.bool false), h95)) (
valK (afieldAddr tab 26 x24 0) fun x96 =>
valK (loadA tab h28 3 x96) fun x97 =>
valK (abin tab .add 3 x97 (.int .i64 1)) fun x98 =>
valK (afieldAddr tab 26 x24 1) fun x99 =>
valK (loadA tab h28 3 x99) fun x100 =>
valK (alen tab h28 9 x18) fun x101 =>
valK (abin tab .add 3 x100 x101) fun x102 =>
valK (abuild tab 26 [(0, x98), (1, x102)]) fun x103 =>
bothK (E (.fn 11) [v13.2.1] h28) fun x104 h105 =>
valK (alen tab h105 9 x18) fun x106 =>
sameK x106 x101 (
valK (loadA tab h105 3 x99) fun x107 =>
sameK x107 x100 (
valK (loadA tab h105 3 x96) fun x108 =>
sameK x108 x97 (
valK (abin tab .neq 26 x104 x103) fun x109 =>
boolK x109 (
hpK (unmark h105 ms14) fun h110 =>
some ((.bool false), h110)) (
valK (abin tab .add 3 x23 (.int .i64 1)) fun x111 =>
bothK (E (.fn 17) [v13.2.1, v13.2.2.1] h105) fun x112 h113 =>
valK (alen tab h113 30 x112) fun x114 =>
valK (abin tab .neq 3 x114 x111) fun x115 =>
boolK x115 (
hpK (unmark h113 ms14) fun h116 =>
some ((.bool false), h116)) (
j31_ (v13.2.1, v13.2.2.1, x24, x23, x29, ()) ms14 h113))))))) fun j12_ =>
bothK (E (.fn 18) [v5.2.2.1, x11] h10) fun x117 h118 =>
valK (abin tab .eql 3 x117 (.int .i64 0)) fun x119 =>
boolK x119 (
j12_ (v5.2.1, v5.2.2.1, (.int .i64 1), ()) ms6 h118) (
j12_ (v5.2.1, v5.2.2.1, x11, ()) ms6 h118)) fun j4_ =>
loopN (F5_b5 E n j4_) n (a0, a1, a2, x1, (.int .i64 0), ()) [] h2)
theorem F5_eq (E : Env) (n : Nat) (a0 a1 a2 : AV) (h : AHeap) : fnK E tab a5 5 n [a0, a1, a2] h = F5 E n a0 a1 a2 h := by kernel_rfl

/-- v: 1 l, 7 b, 8 i -/
noncomputable def F6_b6 (E : Env) (n : Nat) (v : AV × AV × AV × Unit) (ms : List Nat) (h : AHeap) (next17_ : AV × AV × AV × Unit → List Nat → AHeap → Option (AV × AHeap)) : Option (AV × AHeap) :=
jn (fun (v19 : AV × AV × AV × Unit) ms20 h21 =>
valK (loadA tab h21 57 v19.2.1) fun x22 =>
valK (aindexAddr tab 53 v19.1 v19.2.2.1) fun x23 =>
valK (loadA tab h21 60 x23) fun x24 =>
bothK (E (.fn 21) [x22, x24] h21) fun x25 h26 =>
valK (aun .not x25) fun x27 =>
boolK x27 (
hpK (unmark h26 ms20) fun h28 =>
some ((.bool false), h28)) (
valK (loadA tab h26 57 v19.2.1) fun x29 =>
bothK (E (.fn 22) [x29] h26) fun x30 h31 =>
valK (aun .not x30) fun x32 =>
boolK x32 (
hpK (unmark h31 ms20) fun h33 =>
some ((.bool false), h33)) (
valK (abin tab .add 3 v19.2.2.1 (.int .i64 1)) fun x34 =>
next17_ (v19.1, v19.2.1, x34, ()) ms20 h31))) fun j18_ =>
valK (alen tab h 53 v.1) fun x35 =>
valK (abin tab .lss 3 v.2.2.1 x35) fun x36 =>
boolK x36 (
valK (abin tab .lss 3 v.2.2.1 (.int .i64 60)) fun x37 =>
boolK x37 (
j18_ (v.1, v.2.1, v.2.2.1, ()) ms h) (
valK (loadA tab h 57 v.2.1) fun x38 =>
bothK (E (.fn 22) [x38] h) fun x39 h40 =>
boolK x39 (
bothK (E (.fn 15) [] h40) fun x41 h42 =>
hpK (unmark h42 ms) fun h43 =>
some (x41, h43)) (
hpK (unmark h40 ms) fun h44 =>
some ((.bool false), h44)))) (
valK (loadA tab h 57 v.2.1) fun x45 =>
bothK (E (.fn 22) [x45] h) fun x46 h47 =>
boolK x46 (
bothK (E (.fn 15) [] h47) fun x48 h49 =>
hpK (unmark h49 ms) fun h50 =>
some (x48, h50)) (
hpK (unmark h47 ms) fun h51 =>
some ((.bool false), h51)))
/-- whisk/whisklaw07.InodePlays (q, l) -/
noncomputable def F6 (E : Env) (n : Nat) (a0 a1 : AV) (h : AHeap) : Option (AV × AHeap) :=
bothK (boxA h a0) fun x0 h1 =>
valK (loadA tab h1 26 x0) fun x2 =>
valK (loadA tab h1 26 x0) fun x3 =>
bothK (E (.fn 7) [x2] h1) fun x4 h5 =>
valK (loadA tab h5 26 x0) fun x6 =>
sameK x6 x3 (
bothK (E (.fn 20) [x3] h5) fun x7 h8 =>
jn (fun (v10 : AV × AV × AV × Unit) ms11 h12 =>
valK (abuild tab 57 [(0, v10.2.1), (1, v10.2.2.1)]) fun x13 =>
bothK (newCells h12 [.nilptr, .nilptr] fun o => .ptr o 0) fun x14 h15 =>
hpK (storeA tab h15 57 x14 x13) fun h16 =>
loopN (F6_b6 E n) n (v10.1, x14, (.int .i64 0), ()) ms11 h16) fun j9_ =>
valK (abin tab .eql 23 x4 (.nilptr)) fun x52 =>
boolK x52 (
valK (abin tab .eql 23 x4 (.nilptr)) fun x53 =>
boolK x53 (
valK (abin tab .eql 54 x7 (.nilptr)) fun x54 =>
boolK x54 (
bothK (E (.fn 15) [] h8) fun x55 h56 =>
some (x55, h56)) (
some ((.bool false), h8))) (
some ((.bool false), h8))) (
valK (abin tab .eql 54 x7 (.nilptr)) fun x57 =>
boolK x57 (
valK (abin tab .eql 23 x4 (.nilptr)) fun x58 =>
boolK x58 (
valK (abin tab .eql 54 x7 (.nilptr)) fun x59 =>
boolK x59 (
bothK (E (.fn 15) [] h8) fun x60 h61 =>
some (x60, h61)) (
some ((.bool false), h8))) (
some ((.bool false), h8))) (
j9_ (a1, x4, x7, ()) [] h8)))
theorem F6_eq (E : Env) (n : Nat) (a0 a1 : AV) (h : AHeap) : fnK E tab a6 6 n [a0, a1] h = F6 E n a0 a1 h := by kernel_rfl

/-- whisk/inode.New (q) -/
noncomputable def F7 (E : Env) (n : Nat) (a0 : AV) (h : AHeap) : Option (AV × AHeap) :=
bothK (boxA h a0) fun x0 h1 =>
jn (fun (v3 : AV × Unit) ms4 h5 =>
valK (abuild tab 35 [(0, (.int .i64 2)), (1, (.int .i64 493)), (3, (.int .i64 1))]) fun x6 =>
bothK (newMapA h5) fun x7 h8 =>
valK (abuild tab 65 [(0, x6), (1, (.int .i64 1)), (2, x7)]) fun x9 =>
bothK (boxA h8 x9) fun x10 h11 =>
valK (loadA tab h11 26 v3.1) fun x12 =>
valK (abuild tab 26 [(0, (.int .i64 1))]) fun x13 =>
bothK (newMapA h11) fun x14 h15 =>
hpK (amapUpdate tab h15 66 x14 (.int .i64 1) x10) fun h16 =>
valK (abuild tab 68 [(0, x12), (1, x13), (2, x14), (3, (.int .i64 1))]) fun x17 =>
bothK (boxA h16 x17) fun x18 h19 =>
hpK (unmark h19 ms4) fun h20 =>
some (x18, h20)) fun j2_ =>
valK (afieldAddr tab 26 x0 0) fun x21 =>
valK (loadA tab h1 3 x21) fun x22 =>
valK (abin tab .lss 3 x22 (.int .i64 1)) fun x23 =>
boolK x23 (
some ((.nilptr), h1)) (
valK (afieldAddr tab 26 x0 0) fun x24 =>
valK (loadA tab h1 3 x24) fun x25 =>
valK (abin tab .gtr 3 x25 (.int .i64 1048576)) fun x26 =>
boolK x26 (
some ((.nilptr), h1)) (
valK (afieldAddr tab 26 x0 1) fun x27 =>
valK (loadA tab h1 3 x27) fun x28 =>
valK (abin tab .lss 3 x28 (.int .i64 0)) fun x29 =>
boolK x29 (
some ((.nilptr), h1)) (
valK (afieldAddr tab 26 x0 1) fun x30 =>
valK (loadA tab h1 3 x30) fun x31 =>
valK (abin tab .gtr 3 x31 (.int .i64 1073741824)) fun x32 =>
boolK x32 (
some ((.nilptr), h1)) (
j2_ (x0, ()) [] h1))))
theorem F7_eq (E : Env) (n : Nat) (a0 : AV) (h : AHeap) : fnK E tab a7 7 n [a0] h = F7 E n a0 h := by kernel_rfl

/-- (*whisk/inode.Table).Make (t, dir, name, kind, mode, data) -/
noncomputable def F8 (E : Env) (n : Nat) (a0 a1 a2 a3 a4 a5 : AV) (h : AHeap) : Option (AV × AHeap) :=
bothK (boxA h a0) fun x0 h1 =>
bothK (boxA h1 a3) fun x2 h3 =>
bothK (boxA h3 a4) fun x4 h5 =>
bothK (boxA h5 a5) fun x6 h7 =>
valK (loadA tab h7 23 x0) fun x8 =>
valK (loadA tab h7 23 x0) fun x9 =>
valK (loadA tab h7 23 x0) fun x10 =>
bothK (E (.fn 28) [x9, a1] h7) fun x11 h12 =>
valK (loadA tab h12 23 x0) fun x13 =>
sameK x13 x10 (
valK (loadA tab h12 23 x0) fun x14 =>
sameK x14 x8 (
bothK (E (.fn 29) [a2] h12) fun x15 h16 =>
valK (loadA tab h16 23 x0) fun x17 =>
sameK x17 x10 (
valK (loadA tab h16 23 x0) fun x18 =>
sameK x18 x8 (
bothK (E (.fn 30) [x10, a1, a2] h16) fun x19 h20 =>
valK (loadA tab h20 23 x0) fun x21 =>
sameK x21 x8 (
bothK (abuildSlice tab h20 90 6 [(0, (.func 27 [x8] [])), (1, x11), (2, x15), (3, (.func 23 [] [x6, x2, x4])), (4, x19), (5, (.func 31 [] [x0, x6]))]) fun x22 h23 =>
bothK (E (.fn 26) [x22] h23) fun x24 h25 =>
valK (abin tab .neq 27 x24 (.int .i64 0)) fun x26 =>
boolK x26 (
some (.tuple [(.int .i64 0), x24], h25)) (
valK (loadA tab h25 23 x0) fun x27 =>
valK (nilA x27) fun x28 =>
valK (afieldAddr tab 68 x28 3) fun x29 =>
valK (loadA tab h25 3 x29) fun x30 =>
valK (abin tab .add 3 x30 (.int .i64 1)) fun x31 =>
valK (nilA x27) fun x32 =>
valK (afieldAddr tab 68 x32 3) fun x33 =>
hpK (storeA tab h25 3 x33 x31) fun h34 =>
valK (loadA tab h34 3 x2) fun x35 =>
valK (loadA tab h34 3 x4) fun x36 =>
valK (loadA tab h34 9 x6) fun x37 =>
valK (abuild tab 35 [(0, x35), (1, x36), (2, x37), (3, (.int .i64 1))]) fun x38 =>
valK (abuild tab 65 [(0, x38)]) fun x39 =>
bothK (boxA h34 x39) fun x40 h41 =>
jn (fun (v43 : AV × AV × AV × AV × AV × Unit) ms44 h45 =>
valK (loadA tab h45 23 v43.2.2.1) fun x46 =>
valK (nilA x46) fun x47 =>
valK (afieldAddr tab 68 x47 2) fun x48 =>
valK (loadA tab h45 66 x48) fun x49 =>
valK (loadA tab h45 23 v43.2.2.1) fun x50 =>
valK (nilA x50) fun x51 =>
valK (afieldAddr tab 68 x51 3) fun x52 =>
valK (loadA tab h45 3 x52) fun x53 =>
hpK (amapUpdate tab h45 66 x49 x53 v43.2.2.2.2.1) fun h54 =>
valK (loadA tab h54 23 v43.2.2.1) fun x55 =>
valK (nilA x55) fun x56 =>
valK (afieldAddr tab 68 x56 2) fun x57 =>
valK (loadA tab h54 66 x57) fun x58 =>
valK (alookup tab h54 66 x58 v43.1 false) fun x59 =>
valK (nilA x59) fun x60 =>
valK (afieldAddr tab 65 x60 2) fun x61 =>
valK (loadA tab h54 63 x61) fun x62 =>
valK (loadA tab h54 23 v43.2.2.1) fun x63 =>
valK (nilA x63) fun x64 =>
valK (afieldAddr tab 68 x64 3) fun x65 =>
valK (loadA tab h54 3 x65) fun x66 =>
hpK (amapUpdate tab h54 63 x62 v43.2.1 x66) fun h67 =>
valK (loadA tab h67 23 v43.2.2.1) fun x68 =>
valK (nilA x68) fun x69 =>
valK (afieldAddr tab 68 x69 1) fun x70 =>
valK (afieldAddr tab 26 x70 0) fun x71 =>
valK (loadA tab h67 3 x71) fun x72 =>
valK (abin tab .add 3 x72 (.int .i64 1)) fun x73 =>
valK (nilA x68) fun x74 =>
valK (afieldAddr tab 68 x74 1) fun x75 =>
valK (afieldAddr tab 26 x75 0) fun x76 =>
hpK (storeA tab h67 3 x76 x73) fun h77 =>
valK (loadA tab h77 23 v43.2.2.1) fun x78 =>
valK (nilA x78) fun x79 =>
valK (afieldAddr tab 68 x79 1) fun x80 =>
valK (afieldAddr tab 26 x80 1) fun x81 =>
valK (loadA tab h77 3 x81) fun x82 =>
valK (loadA tab h77 9 v43.2.2.2.1) fun x83 =>
valK (alen tab h77 9 x83) fun x84 =>
valK (abin tab .add 3 x82 x84) fun x85 =>
valK (nilA x78) fun x86 =>
valK (afieldAddr tab 68 x86 1) fun x87 =>
valK (afieldAddr tab 26 x87 1) fun x88 =>
hpK (storeA tab h77 3 x88 x85) fun h89 =>
valK (loadA tab h89 23 v43.2.2.1) fun x90 =>
valK (nilA x90) fun x91 =>
valK (afieldAddr tab 68 x91 3) fun x92 =>
valK (loadA tab h89 3 x92) fun x93 =>
hpK (unmark h89 ms44) fun h94 =>
some (.tuple [x93, (.int .i64 0)], h94)) fun j42_ =>
valK (loadA tab h41 3 x2) fun x95 =>
valK (abin tab .eql 3 x95 (.int .i64 2)) fun x96 =>
boolK x96 (
bothK (newMapA h41) fun x97 h98 =>
valK (nilA x40) fun x99 =>
valK (afieldAddr tab 65 x99 1) fun x100 =>
hpK (storeA tab h98 3 x100 a1) fun h101 =>
valK (nilA x40) fun x102 =>
valK (afieldAddr tab 65 x102 2) fun x103 =>
hpK (storeA tab h101 63 x103 x97) fun h104 =>
j42_ (a1, a2, x0, x6, x40, ()) [] h104) (
j42_ (a1, a2, x0, x6, x40, ()) [] h41)))))))
theorem F8_eq (E : Env) (n : Nat) (a0 a1 a2 a3 a4 a5 : AV) (h : AHeap) : fnK E tab a8 8 n [a0, a1, a2, a3, a4, a5] h = F8 E n a0 a1 a2 a3 a4 a5 h := by kernel_rfl

/-- (*whisk/inode.Table).Link (t, dir, name, ino) -/
noncomputable def F9 (E : Env) (n : Nat) (a0 a1 a2 a3 : AV) (h : AHeap) : Option (AV × AHeap) :=
bothK (E (.fn 28) [a0, a1] h) fun x0 h1 =>
bothK (E (.fn 29) [a2] h1) fun x2 h3 =>
bothK (E (.fn 33) [a0, a3] h3) fun x4 h5 =>
bothK (E (.fn 30) [a0, a1, a2] h5) fun x6 h7 =>
bothK (abuildSlice tab h7 90 5 [(0, (.func 27 [a0] [])), (1, x0), (2, x2), (3, x4), (4, x6)]) fun x8 h9 =>
bothK (E (.fn 26) [x8] h9) fun x10 h11 =>
valK (abin tab .neq 27 x10 (.int .i64 0)) fun x12 =>
boolK x12 (
some (x10, h11)) (
valK (nilA a0) fun x13 =>
valK (afieldAddr tab 68 x13 2) fun x14 =>
valK (loadA tab h11 66 x14) fun x15 =>
valK (alookup tab h11 66 x15 a1 false) fun x16 =>
valK (nilA x16) fun x17 =>
valK (afieldAddr tab 65 x17 2) fun x18 =>
valK (loadA tab h11 63 x18) fun x19 =>
hpK (amapUpdate tab h11 63 x19 a2 a3) fun h20 =>
valK (nilA a0) fun x21 =>
valK (afieldAddr tab 68 x21 2) fun x22 =>
valK (loadA tab h20 66 x22) fun x23 =>
valK (alookup tab h20 66 x23 a3 false) fun x24 =>
valK (nilA x24) fun x25 =>
valK (afieldAddr tab 65 x25 0) fun x26 =>
valK (afieldAddr tab 35 x26 3) fun x27 =>
valK (loadA tab h20 3 x27) fun x28 =>
valK (abin tab .add 3 x28 (.int .i64 1)) fun x29 =>
valK (nilA x24) fun x30 =>
valK (afieldAddr tab 65 x30 0) fun x31 =>
valK (afieldAddr tab 35 x31 3) fun x32 =>
hpK (storeA tab h20 3 x32 x29) fun h33 =>
some ((.int .i64 0), h33))
theorem F9_eq (E : Env) (n : Nat) (a0 a1 a2 a3 : AV) (h : AHeap) : fnK E tab a9 9 n [a0, a1, a2, a3] h = F9 E n a0 a1 a2 a3 h := by kernel_rfl

/-- (*whisk/inode.Table).Write (t, ino, data) -/
noncomputable def F10 (E : Env) (n : Nat) (a0 a1 a2 : AV) (h : AHeap) : Option (AV × AHeap) :=
bothK (boxA h a0) fun x0 h1 =>
bothK (boxA h1 a1) fun x2 h3 =>
bothK (boxA h3 a2) fun x4 h5 =>
valK (loadA tab h5 23 x0) fun x6 =>
valK (loadA tab h5 23 x0) fun x7 =>
valK (loadA tab h5 3 x2) fun x8 =>
bothK (E (.fn 33) [x7, x8] h5) fun x9 h10 =>
valK (loadA tab h10 23 x0) fun x11 =>
sameK x11 x6 (
bothK (abuildSlice tab h10 90 3 [(0, (.func 27 [x6] [])), (1, x9), (2, (.func 34 [] [x0, x4, x2]))]) fun x12 h13 =>
bothK (E (.fn 26) [x12] h13) fun x14 h15 =>
valK (abin tab .neq 27 x14 (.int .i64 0)) fun x16 =>
boolK x16 (
some (x14, h15)) (
valK (loadA tab h15 23 x0) fun x17 =>
valK (nilA x17) fun x18 =>
valK (afieldAddr tab 68 x18 2) fun x19 =>
valK (loadA tab h15 66 x19) fun x20 =>
valK (loadA tab h15 3 x2) fun x21 =>
valK (alookup tab h15 66 x20 x21 false) fun x22 =>
valK (loadA tab h15 23 x0) fun x23 =>
valK (nilA x23) fun x24 =>
valK (afieldAddr tab 68 x24 1) fun x25 =>
valK (afieldAddr tab 26 x25 1) fun x26 =>
valK (loadA tab h15 3 x26) fun x27 =>
valK (loadA tab h15 9 x4) fun x28 =>
valK (alen tab h15 9 x28) fun x29 =>
valK (nilA x22) fun x30 =>
valK (afieldAddr tab 65 x30 0) fun x31 =>
valK (afieldAddr tab 35 x31 2) fun x32 =>
valK (loadA tab h15 9 x32) fun x33 =>
valK (alen tab h15 9 x33) fun x34 =>
valK (abin tab .sub 3 x29 x34) fun x35 =>
valK (abin tab .add 3 x27 x35) fun x36 =>
valK (nilA x23) fun x37 =>
valK (afieldAddr tab 68 x37 1) fun x38 =>
valK (afieldAddr tab 26 x38 1) fun x39 =>
hpK (storeA tab h15 3 x39 x36) fun h40 =>
valK (loadA tab h40 9 x4) fun x41 =>
valK (nilA x22) fun x42 =>
valK (afieldAddr tab 65 x42 0) fun x43 =>
valK (afieldAddr tab 35 x43 2) fun x44 =>
hpK (storeA tab h40 9 x44 x41) fun h45 =>
some ((.int .i64 0), h45)))
theorem F10_eq (E : Env) (n : Nat) (a0 a1 a2 : AV) (h : AHeap) : fnK E tab a10 10 n [a0, a1, a2] h = F10 E n a0 a1 a2 h := by kernel_rfl

/-- (*whisk/inode.Table).Used (t) -/
noncomputable def F11 (E : Env) (n : Nat) (a0 : AV) (h : AHeap) : Option (AV × AHeap) :=
bothK (newCells h [.int .i64 0, .int .i64 0] fun o => .ptr o 0) fun x0 h1 =>
valK (abin tab .eql 23 a0 (.nilptr)) fun x2 =>
boolK x2 (
valK (abuild tab 26 []) fun x3 =>
hpK (storeA tab h1 26 x0 x3) fun h4 =>
valK (loadA tab h4 26 x0) fun x5 =>
some (x5, h4)) (
valK (nilA a0) fun x6 =>
valK (afieldAddr tab 68 x6 1) fun x7 =>
valK (loadA tab h1 26 x7) fun x8 =>
hpK (storeA tab h1 26 x0 x8) fun h9 =>
valK (loadA tab h9 26 x0) fun x10 =>
some (x10, h9))
theorem F11_eq (E : Env) (n : Nat) (a0 : AV) (h : AHeap) : fnK E tab a11 11 n [a0] h = F11 E n a0 h := by kernel_rfl

/-- (*whisk/inode.Table).Node (t, ino) -/
noncomputable def F12 (E : Env) (n : Nat) (a0 a1 : AV) (h : AHeap) : Option (AV × AHeap) :=
bothK (newCells h [.int .i64 0, .int .i64 0, .str [], .int .i64 0] fun o => .ptr o 0) fun x0 h1 =>
bothK (E (.fn 35) [a0, a1] h1) fun x2 h3 =>
valK (abin tab .eql 62 x2 (.nilptr)) fun x4 =>
boolK x4 (
valK (abuild tab 35 []) fun x5 =>
hpK (storeA tab h3 35 x0 x5) fun h6 =>
valK (loadA tab h6 35 x0) fun x7 =>
some (.tuple [x7, (.bool false)], h6)) (
valK (nilA x2) fun x8 =>
valK (afieldAddr tab 65 x8 0) fun x9 =>
valK (loadA tab h3 35 x9) fun x10 =>
hpK (storeA tab h3 35 x0 x10) fun h11 =>
valK (loadA tab h11 35 x0) fun x12 =>
some (.tuple [x12, (.bool true)], h11))
theorem F12_eq (E : Env) (n : Nat) (a0 a1 : AV) (h : AHeap) : fnK E tab a12 12 n [a0, a1] h = F12 E n a0 a1 h := by kernel_rfl

/-- (*whisk/inode.Table).Find (t, dir, name) -/
noncomputable def F13 (E : Env) (n : Nat) (a0 a1 a2 : AV) (h : AHeap) : Option (AV × AHeap) :=
bothK (E (.fn 35) [a0, a1] h) fun x0 h1 =>
valK (abin tab .eql 62 x0 (.nilptr)) fun x2 =>
boolK x2 (
some (.tuple [(.int .i64 0), (.bool false)], h1)) (
valK (nilA x0) fun x3 =>
valK (afieldAddr tab 65 x3 2) fun x4 =>
valK (loadA tab h1 63 x4) fun x5 =>
valK (alookup tab h1 63 x5 a2 true) fun x6 =>
valK (extractA x6 0) fun x7 =>
valK (extractA x6 1) fun x8 =>
some (.tuple [x7, x8], h1))
theorem F13_eq (E : Env) (n : Nat) (a0 a1 a2 : AV) (h : AHeap) : fnK E tab a13 13 n [a0, a1, a2] h = F13 E n a0 a1 a2 h := by kernel_rfl

/-- (*whisk/inode.Table).Unlink (t, dir, name) -/
noncomputable def F14 (E : Env) (n : Nat) (a0 a1 a2 : AV) (h : AHeap) : Option (AV × AHeap) :=
bothK (boxA h a0) fun x0 h1 =>
bothK (boxA h1 a1) fun x2 h3 =>
bothK (boxA h3 a2) fun x4 h5 =>
valK (loadA tab h5 23 x0) fun x6 =>
valK (loadA tab h5 23 x0) fun x7 =>
valK (loadA tab h5 3 x2) fun x8 =>
valK (loadA tab h5 23 x0) fun x9 =>
valK (loadA tab h5 3 x2) fun x10 =>
valK (loadA tab h5 9 x4) fun x11 =>
bothK (E (.fn 28) [x7, x8] h5) fun x12 h13 =>
valK (loadA tab h13 9 x4) fun x14 =>
sameK x14 x11 (
valK (loadA tab h13 3 x2) fun x15 =>
sameK x15 x10 (
valK (loadA tab h13 23 x0) fun x16 =>
sameK x16 x9 (
valK (loadA tab h13 23 x0) fun x17 =>
sameK x17 x6 (
bothK (E (.fn 37) [x9, x10, x11] h13) fun x18 h19 =>
valK (loadA tab h19 23 x0) fun x20 =>
sameK x20 x6 (
bothK (abuildSlice tab h19 90 4 [(0, (.func 27 [x6] [])), (1, x12), (2, x18), (3, (.func 36 [] [x0, x2, x4]))]) fun x21 h22 =>
bothK (E (.fn 26) [x21] h22) fun x23 h24 =>
valK (abin tab .neq 27 x23 (.int .i64 0)) fun x25 =>
boolK x25 (
some (x23, h24)) (
valK (loadA tab h24 23 x0) fun x26 =>
valK (loadA tab h24 3 x2) fun x27 =>
valK (loadA tab h24 9 x4) fun x28 =>
bothK (E (.fn 13) [x26, x27, x28] h24) fun x29 h30 =>
valK (extractA x29 0) fun x31 =>
valK (extractA x29 1) fun x32 =>
valK (loadA tab h30 23 x0) fun x33 =>
valK (nilA x33) fun x34 =>
valK (afieldAddr tab 68 x34 2) fun x35 =>
valK (loadA tab h30 66 x35) fun x36 =>
valK (loadA tab h30 3 x2) fun x37 =>
valK (alookup tab h30 66 x36 x37 false) fun x38 =>
valK (nilA x38) fun x39 =>
valK (afieldAddr tab 65 x39 2) fun x40 =>
valK (loadA tab h30 63 x40) fun x41 =>
valK (loadA tab h30 9 x4) fun x42 =>
hpK (adelete tab h30 63 x41 x42) fun h43 =>
valK (loadA tab h43 23 x0) fun x44 =>
valK (nilA x44) fun x45 =>
valK (afieldAddr tab 68 x45 2) fun x46 =>
valK (loadA tab h43 66 x46) fun x47 =>
valK (alookup tab h43 66 x47 x31 false) fun x48 =>
valK (nilA x48) fun x49 =>
valK (afieldAddr tab 65 x49 0) fun x50 =>
valK (afieldAddr tab 35 x50 3) fun x51 =>
valK (loadA tab h43 3 x51) fun x52 =>
valK (abin tab .sub 3 x52 (.int .i64 1)) fun x53 =>
valK (nilA x48) fun x54 =>
valK (afieldAddr tab 65 x54 0) fun x55 =>
valK (afieldAddr tab 35 x55 3) fun x56 =>
hpK (storeA tab h43 3 x56 x53) fun h57 =>
valK (nilA x48) fun x58 =>
valK (afieldAddr tab 65 x58 0) fun x59 =>
valK (afieldAddr tab 35 x59 3) fun x60 =>
valK (loadA tab h57 3 x60) fun x61 =>
valK (abin tab .eql 3 x61 (.int .i64 0)) fun x62 =>
boolK x62 (
valK (loadA tab h57 23 x0) fun x63 =>
valK (nilA x63) fun x64 =>
valK (afieldAddr tab 68 x64 2) fun x65 =>
valK (loadA tab h57 66 x65) fun x66 =>
hpK (adelete tab h57 66 x66 x31) fun h67 =>
valK (loadA tab h67 23 x0) fun x68 =>
valK (nilA x68) fun x69 =>
valK (afieldAddr tab 68 x69 1) fun x70 =>
valK (afieldAddr tab 26 x70 0) fun x71 =>
valK (loadA tab h67 3 x71) fun x72 =>
valK (abin tab .sub 3 x72 (.int .i64 1)) fun x73 =>
valK (nilA x68) fun x74 =>
valK (afieldAddr tab 68 x74 1) fun x75 =>
valK (afieldAddr tab 26 x75 0) fun x76 =>
hpK (storeA tab h67 3 x76 x73) fun h77 =>
valK (loadA tab h77 23 x0) fun x78 =>
valK (nilA x78) fun x79 =>
valK (afieldAddr tab 68 x79 1) fun x80 =>
valK (afieldAddr tab 26 x80 1) fun x81 =>
valK (loadA tab h77 3 x81) fun x82 =>
valK (nilA x48) fun x83 =>
valK (afieldAddr tab 65 x83 0) fun x84 =>
valK (afieldAddr tab 35 x84 2) fun x85 =>
valK (loadA tab h77 9 x85) fun x86 =>
valK (alen tab h77 9 x86) fun x87 =>
valK (abin tab .sub 3 x82 x87) fun x88 =>
valK (nilA x78) fun x89 =>
valK (afieldAddr tab 68 x89 1) fun x90 =>
valK (afieldAddr tab 26 x90 1) fun x91 =>
hpK (storeA tab h77 3 x91 x88) fun h92 =>
some ((.int .i64 0), h92)) (
some ((.int .i64 0), h57))))))))
theorem F14_eq (E : Env) (n : Nat) (a0 a1 a2 : AV) (h : AHeap) : fnK E tab a14 14 n [a0, a1, a2] h = F14 E n a0 a1 a2 h := by kernel_rfl

/-- whisk/whisklaw07.works () -/
noncomputable def F15 (E : Env) (n : Nat) (h : AHeap) : Option (AV × AHeap) :=
valK (abuild tab 26 [(0, (.int .i64 4)), (1, (.int .i64 10))]) fun x0 =>
bothK (E (.fn 7) [x0] h) fun x1 h2 =>
valK (abin tab .eql 23 x1 (.nilptr)) fun x3 =>
boolK x3 (
some ((.bool false), h2)) (
bothK (E (.fn 8) [x1, (.int .i64 1), (.str [100]), (.int .i64 2), (.int .i64 493), (.str [])] h2) fun x4 h5 =>
valK (extractA x4 0) fun x6 =>
valK (extractA x4 1) fun x7 =>
bothK (E (.fn 8) [x1, x6, (.str [102]), (.int .i64 1), (.int .i64 420), (.str [104, 105])] h5) fun x8 h9 =>
valK (extractA x8 0) fun x10 =>
valK (extractA x8 1) fun x11 =>
bothK (E (.fn 12) [x1, x10] h9) fun x12 h13 =>
valK (extractA x12 0) fun x14 =>
valK (extractA x12 1) fun x15 =>
bothK (newCells h13 [.int .i64 0, .int .i64 0, .str [], .int .i64 0] fun o => .ptr o 0) fun x16 h17 =>
hpK (storeA tab h17 35 x16 x14) fun h18 =>
valK (abin tab .eql 3 x6 (.int .i64 2)) fun x19 =>
boolK x19 (
valK (abin tab .eql 27 x7 (.int .i64 0)) fun x20 =>
boolK x20 (
valK (abin tab .eql 3 x10 (.int .i64 3)) fun x21 =>
boolK x21 (
valK (abin tab .eql 27 x11 (.int .i64 0)) fun x22 =>
boolK x22 (
boolK x15 (
valK (loadA tab h18 35 x16) fun x23 =>
valK (abuild tab 35 [(0, (.int .i64 1)), (1, (.int .i64 420)), (2, (.str [104, 105])), (3, (.int .i64 1))]) fun x24 =>
valK (abin tab .eql 35 x23 x24) fun x25 =>
boolK x25 (
bothK (E (.fn 18) [x1, x6] h18) fun x26 h27 =>
valK (abin tab .eql 3 x26 (.int .i64 1)) fun x28 =>
boolK x28 (
bothK (E (.fn 11) [x1] h27) fun x29 h30 =>
valK (abuild tab 26 [(0, (.int .i64 3)), (1, (.int .i64 2))]) fun x31 =>
valK (abin tab .eql 26 x29 x31) fun x32 =>
some (x32, h30)) (
some ((.bool false), h27))) (
some ((.bool false), h18))) (
some ((.bool false), h18))) (
some ((.bool false), h18))) (
some ((.bool false), h18))) (
some ((.bool false), h18))) (
some ((.bool false), h18)))
theorem F15_eq (E : Env) (n : Nat) (h : AHeap) : fnK E tab a15 15 n [] h = F15 E n h := by kernel_rfl

/-- whisk/whisklaw07.small (t, x) -/
noncomputable def F16 (E : Env) (n : Nat) (a0 a1 : AV) (h : AHeap) : Option (AV × AHeap) :=
bothK (boxA h a1) fun x0 h1 =>
valK (aindexAddr tab 45 x0 (.int .i64 3)) fun x2 =>
valK (loadA tab h1 5 x2) fun x3 =>
valK (abin tab .rem 5 x3 (.int .u8 4)) fun x4 =>
valK (abin tab .add 5 (.int .u8 97) x4) fun x5 =>
bothK (abuildSlice tab h1 22 1 [(0, x5)]) fun x6 h7 =>
bothK (aconvert tab h7 22 9 x6) fun x8 h9 =>
valK (aindexAddr tab 45 x0 (.int .i64 4)) fun x10 =>
valK (loadA tab h9 5 x10) fun x11 =>
valK (abin tab .rem 5 x11 (.int .u8 4)) fun x12 =>
valK (abin tab .add 5 (.int .u8 97) x12) fun x13 =>
bothK (abuildSlice tab h9 22 1 [(0, x13)]) fun x14 h15 =>
bothK (aconvert tab h15 22 9 x14) fun x16 h17 =>
valK (aindexAddr tab 45 x0 (.int .i64 1)) fun x18 =>
valK (loadA tab h17 5 x18) fun x19 =>
valK (abin tab .rem 5 x19 (.int .u8 12)) fun x20 =>
bothK (aconvert tab h17 5 3 x20) fun x21 h22 =>
valK (abin tab .add 3 (.int .i64 1) x21) fun x23 =>
valK (aindexAddr tab 45 x0 (.int .i64 2)) fun x24 =>
valK (loadA tab h22 5 x24) fun x25 =>
valK (abin tab .rem 5 x25 (.int .u8 12)) fun x26 =>
bothK (aconvert tab h22 5 3 x26) fun x27 h28 =>
valK (abin tab .add 3 (.int .i64 1) x27) fun x29 =>
valK (aindexAddr tab 45 x0 (.int .i64 4)) fun x30 =>
valK (loadA tab h28 5 x30) fun x31 =>
valK (abin tab .rem 5 x31 (.int .u8 20)) fun x32 =>
bothK (aconvert tab h28 5 3 x32) fun x33 h34 =>
bothK (amakeSlice tab h34 22 x33 x33) fun x35 h36 =>
bothK (aconvert tab h36 22 9 x35) fun x37 h38 =>
valK (aindexAddr tab 45 x0 (.int .i64 0)) fun x39 =>
valK (loadA tab h38 5 x39) fun x40 =>
valK (abin tab .rem 5 x40 (.int .u8 8)) fun x41 =>
jn (fun (v43 : AV × AV × AV × AV × AV × AV × AV × AV × Unit) ms44 h45 =>
boolK v43.2.2.2.2.2.2.2.1 (
bothK (E (.fn 8) [v43.1, v43.2.2.2.1, v43.2.1, (.int .i64 2), (.int .i64 493), (.str [])] h45) fun x46 h47 =>
valK (extractA x46 0) fun x48 =>
valK (extractA x46 1) fun x49 =>
hpK (unmark h47 ms44) fun h50 =>
some (x49, h50)) (
valK (abin tab .eql 5 v43.2.2.2.2.2.2.1 (.int .u8 2)) fun x51 =>
boolK x51 (
bothK (E (.fn 8) [v43.1, v43.2.2.2.1, v43.2.1, (.int .i64 1), (.int .i64 420), v43.2.2.2.2.2.1] h45) fun x52 h53 =>
valK (extractA x52 0) fun x54 =>
valK (extractA x52 1) fun x55 =>
hpK (unmark h53 ms44) fun h56 =>
some (x55, h56)) (
valK (abin tab .eql 5 v43.2.2.2.2.2.2.1 (.int .u8 3)) fun x57 =>
boolK x57 (
bothK (E (.fn 8) [v43.1, v43.2.2.2.1, v43.2.1, (.int .i64 3), (.int .i64 511), (.str [116, 111])] h45) fun x58 h59 =>
valK (extractA x58 0) fun x60 =>
valK (extractA x58 1) fun x61 =>
hpK (unmark h59 ms44) fun h62 =>
some (x61, h62)) (
valK (abin tab .eql 5 v43.2.2.2.2.2.2.1 (.int .u8 4)) fun x63 =>
boolK x63 (
bothK (E (.fn 9) [v43.1, v43.2.2.2.1, v43.2.1, v43.2.2.2.2.1] h45) fun x64 h65 =>
hpK (unmark h65 ms44) fun h66 =>
some (x64, h66)) (
valK (abin tab .eql 5 v43.2.2.2.2.2.2.1 (.int .u8 5)) fun x67 =>
boolK x67 (
bothK (E (.fn 14) [v43.1, v43.2.2.2.1, v43.2.1] h45) fun x68 h69 =>
hpK (unmark h69 ms44) fun h70 =>
some (x68, h70)) (
valK (abin tab .eql 5 v43.2.2.2.2.2.2.1 (.int .u8 6)) fun x71 =>
boolK x71 (
bothK (E (.fn 19) [v43.1, v43.2.2.2.1, v43.2.1, v43.2.2.2.2.1, v43.2.2.1] h45) fun x72 h73 =>
hpK (unmark h73 ms44) fun h74 =>
some (x72, h74)) (
bothK (E (.fn 10) [v43.1, v43.2.2.2.2.1, v43.2.2.2.2.2.1] h45) fun x75 h76 =>
hpK (unmark h76 ms44) fun h77 =>
some (x75, h77)))))))) fun j42_ =>
valK (abin tab .eql 5 x41 (.int .u8 0)) fun x78 =>
boolK x78 (
j42_ (a0, x8, x16, x23, x29, x37, x41, x78, ()) [] h38) (
valK (abin tab .eql 5 x41 (.int .u8 1)) fun x79 =>
j42_ (a0, x8, x16, x23, x29, x37, x41, x79, ()) [] h38)
theorem F16_eq (E : Env) (n : Nat) (a0 a1 : AV) (h : AHeap) : fnK E tab a16 16 n [a0, a1] h = F16 E n a0 a1 h := by kernel_rfl

/-- (*whisk/inode.Table).Names (t, dir) -/
noncomputable def F17 (E : Env) (n : Nat) (a0 a1 : AV) (h : AHeap) : Option (AV × AHeap) :=
bothK (E (.fn 35) [a0, a1] h) fun x0 h1 =>
valK (abin tab .eql 62 x0 (.nilptr)) fun x2 =>
boolK x2 (
some ((.nilslice), h1)) (
valK (nilA x0) fun x3 =>
valK (afieldAddr tab 65 x3 2) fun x4 =>
valK (loadA tab h1 63 x4) fun x5 =>
bothK (E (.fn 39) [x5] h1) fun x6 h7 =>
bothK (E (.fn 38) [x6] h7) fun x8 h9 =>
some (x8, h9))
theorem F17_eq (E : Env) (n : Nat) (a0 a1 : AV) (h : AHeap) : fnK E tab a17 17 n [a0, a1] h = F17 E n a0 a1 h := by kernel_rfl

/-- (*whisk/inode.Table).Up (t, dir) -/
noncomputable def F18 (E : Env) (n : Nat) (a0 a1 : AV) (h : AHeap) : Option (AV × AHeap) :=
bothK (E (.fn 35) [a0, a1] h) fun x0 h1 =>
valK (abin tab .eql 62 x0 (.nilptr)) fun x2 =>
boolK x2 (
some ((.int .i64 0), h1)) (
valK (nilA x0) fun x3 =>
valK (afieldAddr tab 65 x3 1) fun x4 =>
valK (loadA tab h1 3 x4) fun x5 =>
some (x5, h1))
theorem F18_eq (E : Env) (n : Nat) (a0 a1 : AV) (h : AHeap) : fnK E tab a18 18 n [a0, a1] h = F18 E n a0 a1 h := by kernel_rfl

/-- (*whisk/inode.Table).Move (t, from, name, to, as) -/
noncomputable def F19 (E : Env) (n : Nat) (a0 a1 a2 a3 a4 : AV) (h : AHeap) : Option (AV × AHeap) :=
bothK (boxA h a0) fun x0 h1 =>
bothK (boxA h1 a3) fun x2 h3 =>
valK (loadA tab h3 23 x0) fun x4 =>
valK (loadA tab h3 23 x0) fun x5 =>
valK (loadA tab h3 23 x0) fun x6 =>
valK (loadA tab h3 3 x2) fun x7 =>
valK (loadA tab h3 23 x0) fun x8 =>
bothK (E (.fn 28) [x5, a1] h3) fun x9 h10 =>
valK (loadA tab h10 23 x0) fun x11 =>
sameK x11 x8 (
valK (loadA tab h10 3 x2) fun x12 =>
sameK x12 x7 (
valK (loadA tab h10 23 x0) fun x13 =>
sameK x13 x6 (
valK (loadA tab h10 23 x0) fun x14 =>
sameK x14 x4 (
bothK (E (.fn 28) [x6, x7] h10) fun x15 h16 =>
valK (loadA tab h16 23 x0) fun x17 =>
sameK x17 x8 (
valK (loadA tab h16 23 x0) fun x18 =>
sameK x18 x4 (
bothK (E (.fn 29) [a4] h16) fun x19 h20 =>
valK (loadA tab h20 23 x0) fun x21 =>
sameK x21 x8 (
valK (loadA tab h20 23 x0) fun x22 =>
sameK x22 x4 (
bothK (E (.fn 37) [x8, a1, a2] h20) fun x23 h24 =>
valK (loadA tab h24 23 x0) fun x25 =>
sameK x25 x4 (
bothK (abuildSlice tab h24 90 5 [(0, (.func 27 [x4] [])), (1, x9), (2, x15), (3, x19), (4, x23)]) fun x26 h27 =>
bothK (E (.fn 26) [x26] h27) fun x28 h29 =>
jn (fun (v31 : AV × AV × AV × AV × AV × Unit) ms32 h33 =>
valK (loadA tab h33 23 v31.2.2.2.1) fun x34 =>
bothK (E (.fn 13) [x34, v31.1, v31.2.1] h33) fun x35 h36 =>
valK (extractA x35 0) fun x37 =>
valK (extractA x35 1) fun x38 =>
bothK (newCells h36 [.int .i64 0] fun o => .ptr o 0) fun x39 h40 =>
hpK (storeA tab h40 3 x39 x37) fun h41 =>
valK (loadA tab h41 23 v31.2.2.2.1) fun x42 =>
valK (loadA tab h41 3 v31.2.2.2.2.1) fun x43 =>
bothK (E (.fn 30) [x42, x43, v31.2.2.1] h41) fun x44 h45 =>
bothK (abuildSlice tab h45 90 2 [(0, x44), (1, (.func 40 [] [v31.2.2.2.2.1, v31.2.2.2.1, x39]))]) fun x46 h47 =>
bothK (E (.fn 26) [x46] h47) fun x48 h49 =>
valK (abin tab .neq 27 x48 (.int .i64 0)) fun x50 =>
boolK x50 (
hpK (unmark h49 ms32) fun h51 =>
some (x48, h51)) (
valK (loadA tab h49 23 v31.2.2.2.1) fun x52 =>
valK (nilA x52) fun x53 =>
valK (afieldAddr tab 68 x53 2) fun x54 =>
valK (loadA tab h49 66 x54) fun x55 =>
valK (alookup tab h49 66 x55 v31.1 false) fun x56 =>
valK (nilA x56) fun x57 =>
valK (afieldAddr tab 65 x57 2) fun x58 =>
valK (loadA tab h49 63 x58) fun x59 =>
hpK (adelete tab h49 63 x59 v31.2.1) fun h60 =>
valK (loadA tab h60 23 v31.2.2.2.1) fun x61 =>
valK (nilA x61) fun x62 =>
valK (afieldAddr tab 68 x62 2) fun x63 =>
valK (loadA tab h60 66 x63) fun x64 =>
valK (loadA tab h60 3 v31.2.2.2.2.1) fun x65 =>
valK (alookup tab h60 66 x64 x65 false) fun x66 =>
valK (nilA x66) fun x67 =>
valK (afieldAddr tab 65 x67 2) fun x68 =>
valK (loadA tab h60 63 x68) fun x69 =>
valK (loadA tab h60 3 x39) fun x70 =>
hpK (amapUpdate tab h60 63 x69 v31.2.2.1 x70) fun h71 =>
valK (loadA tab h71 23 v31.2.2.2.1) fun x72 =>
valK (nilA x72) fun x73 =>
valK (afieldAddr tab 68 x73 2) fun x74 =>
valK (loadA tab h71 66 x74) fun x75 =>
valK (loadA tab h71 3 x39) fun x76 =>
valK (alookup tab h71 66 x75 x76 false) fun x77 =>
valK (nilA x77) fun x78 =>
valK (afieldAddr tab 65 x78 0) fun x79 =>
valK (afieldAddr tab 35 x79 0) fun x80 =>
valK (loadA tab h71 3 x80) fun x81 =>
valK (abin tab .eql 3 x81 (.int .i64 2)) fun x82 =>
boolK x82 (
valK (loadA tab h71 3 v31.2.2.2.2.1) fun x83 =>
valK (nilA x77) fun x84 =>
valK (afieldAddr tab 65 x84 1) fun x85 =>
hpK (storeA tab h71 3 x85 x83) fun h86 =>
hpK (unmark h86 ms32) fun h87 =>
some ((.int .i64 0), h87)) (
hpK (unmark h71 ms32) fun h88 =>
some ((.int .i64 0), h88)))) fun j30_ =>
valK (abin tab .neq 27 x28 (.int .i64 0)) fun x89 =>
boolK x89 (
some (x28, h29)) (
valK (loadA tab h29 3 x2) fun x90 =>
valK (abin tab .eql 3 a1 x90) fun x91 =>
skipK x91 (
boolK (.tuple []) (
boolK (.tuple []) (
some (x28, h29)) (
j30_ (a1, a2, a4, x0, x2, ()) [] h29)) (
j30_ (a1, a2, a4, x0, x2, ()) [] h29)) (
boolK x91 (
valK (abin tab .eql 9 a2 a4) fun x92 =>
boolK x92 (
some (x28, h29)) (
j30_ (a1, a2, a4, x0, x2, ()) [] h29)) (
j30_ (a1, a2, a4, x0, x2, ()) [] h29))))))))))))
theorem F19_eq (E : Env) (n : Nat) (a0 a1 a2 a3 a4 : AV) (h : AHeap) : fnK E tab a19 19 n [a0, a1, a2, a3, a4] h = F19 E n a0 a1 a2 a3 a4 h := by kernel_rfl

/-- whisk/whiskref07.New (q) -/
noncomputable def F20 (E : Env) (n : Nat) (a0 : AV) (h : AHeap) : Option (AV × AHeap) :=
bothK (boxA h a0) fun x0 h1 =>
jn (fun (v3 : AV × Unit) ms4 h5 =>
valK (loadA tab h5 26 v3.1) fun x6 =>
valK (abuild tab 35 [(0, (.int .i64 2)), (1, (.int .i64 493))]) fun x7 =>
bothK (abuildSlice tab h5 83 1 [(0, x7)]) fun x8 h9 =>
valK (abuild tab 86 [(0, x6), (1, x8)]) fun x10 =>
bothK (boxA h9 x10) fun x11 h12 =>
hpK (unmark h12 ms4) fun h13 =>
some (x11, h13)) fun j2_ =>
valK (afieldAddr tab 26 x0 0) fun x14 =>
valK (loadA tab h1 3 x14) fun x15 =>
valK (abin tab .lss 3 x15 (.int .i64 1)) fun x16 =>
boolK x16 (
some ((.nilptr), h1)) (
valK (afieldAddr tab 26 x0 0) fun x17 =>
valK (loadA tab h1 3 x17) fun x18 =>
valK (abin tab .gtr 3 x18 (.int .i64 1048576)) fun x19 =>
boolK x19 (
some ((.nilptr), h1)) (
valK (afieldAddr tab 26 x0 1) fun x20 =>
valK (loadA tab h1 3 x20) fun x21 =>
valK (abin tab .lss 3 x21 (.int .i64 0)) fun x22 =>
boolK x22 (
some ((.nilptr), h1)) (
valK (afieldAddr tab 26 x0 1) fun x23 =>
valK (loadA tab h1 3 x23) fun x24 =>
valK (abin tab .gtr 3 x24 (.int .i64 1073741824)) fun x25 =>
boolK x25 (
some ((.nilptr), h1)) (
j2_ (x0, ()) [] h1))))
theorem F20_eq (E : Env) (n : Nat) (a0 : AV) (h : AHeap) : fnK E tab a20 20 n [a0] h = F20 E n a0 h := by kernel_rfl

/-- (whisk/whisklaw07.both).do (b, x) -/
noncomputable def F21 (E : Env) (n : Nat) (a0 a1 : AV) (h : AHeap) : Option (AV × AHeap) :=
bothK (boxA h a0) fun x0 h1 =>
bothK (boxA h1 a1) fun x2 h3 =>
valK (afieldAddr tab 57 x0 0) fun x4 =>
valK (loadA tab h3 23 x4) fun x5 =>
valK (afieldAddr tab 57 x0 1) fun x6 =>
valK (loadA tab h3 54 x6) fun x7 =>
valK (afieldAddr tab 60 x2 6) fun x8 =>
valK (loadA tab h3 9 x8) fun x9 =>
valK (afieldAddr tab 60 x2 6) fun x10 =>
valK (loadA tab h3 9 x10) fun x11 =>
valK (alen tab h3 9 x11) fun x12 =>
valK (amin x12 (.int .i64 300)) fun x13 =>
valK (aslice tab 9 x9 none (some x13)) fun x14 =>
valK (afieldAddr tab 60 x2 6) fun x15 =>
hpK (storeA tab h3 9 x15 x14) fun h16 =>
valK (afieldAddr tab 60 x2 0) fun x17 =>
valK (loadA tab h16 3 x17) fun x18 =>
jn (fun (v20 : AV × AV × AV × AV × AV × Unit) ms21 h22 =>
boolK v20.2.2.2.2.1 (
valK (afieldAddr tab 60 v20.1 1) fun x23 =>
valK (loadA tab h22 3 x23) fun x24 =>
valK (afieldAddr tab 60 v20.1 4) fun x25 =>
valK (loadA tab h22 9 x25) fun x26 =>
valK (afieldAddr tab 60 v20.1 2) fun x27 =>
valK (loadA tab h22 3 x27) fun x28 =>
valK (afieldAddr tab 60 v20.1 3) fun x29 =>
valK (loadA tab h22 3 x29) fun x30 =>
valK (afieldAddr tab 60 v20.1 6) fun x31 =>
valK (loadA tab h22 9 x31) fun x32 =>
bothK (E (.fn 8) [v20.2.1, x24, x26, x28, x30, x32] h22) fun x33 h34 =>
valK (extractA x33 0) fun x35 =>
valK (extractA x33 1) fun x36 =>
valK (afieldAddr tab 60 v20.1 1) fun x37 =>
valK (loadA tab h34 3 x37) fun x38 =>
valK (afieldAddr tab 60 v20.1 4) fun x39 =>
valK (loadA tab h34 9 x39) fun x40 =>
valK (afieldAddr tab 60 v20.1 2) fun x41 =>
valK (loadA tab h34 3 x41) fun x42 =>
valK (afieldAddr tab 60 v20.1 3) fun x43 =>
valK (loadA tab h34 3 x43) fun x44 =>
valK (afieldAddr tab 60 v20.1 6) fun x45 =>
valK (loadA tab h34 9 x45) fun x46 =>
bothK (E (.fn 41) [v20.2.2.1, x38, x40, x42, x44, x46] h34) fun x47 h48 =>
valK (extractA x47 0) fun x49 =>
valK (extractA x47 1) fun x50 =>
valK (abin tab .eql 3 x35 x49) fun x51 =>
boolK x51 (
valK (abin tab .eql 27 x36 x50) fun x52 =>
hpK (unmark h48 ms21) fun h53 =>
some (x52, h53)) (
hpK (unmark h48 ms21) fun h54 =>
some ((.bool false), h54))) (
valK (abin tab .eql 3 v20.2.2.2.1 (.int .i64 3)) fun x55 =>
boolK x55 (
valK (afieldAddr tab 60 v20.1 1) fun x56 =>
valK (loadA tab h22 3 x56) fun x57 =>
valK (afieldAddr tab 60 v20.1 4) fun x58 =>
valK (loadA tab h22 9 x58) fun x59 =>
valK (afieldAddr tab 60 v20.1 2) fun x60 =>
valK (loadA tab h22 3 x60) fun x61 =>
valK (afieldAddr tab 60 v20.1 1) fun x62 =>
valK (loadA tab h22 3 x62) fun x63 =>
valK (afieldAddr tab 60 v20.1 4) fun x64 =>
valK (loadA tab h22 9 x64) fun x65 =>
valK (afieldAddr tab 60 v20.1 2) fun x66 =>
valK (loadA tab h22 3 x66) fun x67 =>
bothK (E (.fn 9) [v20.2.1, x57, x59, x61] h22) fun x68 h69 =>
valK (loadA tab h69 3 x66) fun x70 =>
sameK x70 x67 (
valK (loadA tab h69 9 x64) fun x71 =>
sameK x71 x65 (
valK (loadA tab h69 3 x62) fun x72 =>
sameK x72 x63 (
bothK (E (.fn 42) [v20.2.2.1, x63, x65, x67] h69) fun x73 h74 =>
valK (abin tab .eql 27 x68 x73) fun x75 =>
hpK (unmark h74 ms21) fun h76 =>
some (x75, h76))))) (
valK (abin tab .eql 3 v20.2.2.2.1 (.int .i64 4)) fun x77 =>
boolK x77 (
valK (afieldAddr tab 60 v20.1 1) fun x78 =>
valK (loadA tab h22 3 x78) fun x79 =>
valK (afieldAddr tab 60 v20.1 4) fun x80 =>
valK (loadA tab h22 9 x80) fun x81 =>
valK (afieldAddr tab 60 v20.1 1) fun x82 =>
valK (loadA tab h22 3 x82) fun x83 =>
valK (afieldAddr tab 60 v20.1 4) fun x84 =>
valK (loadA tab h22 9 x84) fun x85 =>
bothK (E (.fn 14) [v20.2.1, x79, x81] h22) fun x86 h87 =>
valK (loadA tab h87 9 x84) fun x88 =>
sameK x88 x85 (
valK (loadA tab h87 3 x82) fun x89 =>
sameK x89 x83 (
bothK (E (.fn 43) [v20.2.2.1, x83, x85] h87) fun x90 h91 =>
valK (abin tab .eql 27 x86 x90) fun x92 =>
hpK (unmark h91 ms21) fun h93 =>
some (x92, h93)))) (
valK (abin tab .eql 3 v20.2.2.2.1 (.int .i64 5)) fun x94 =>
boolK x94 (
valK (afieldAddr tab 60 v20.1 1) fun x95 =>
valK (loadA tab h22 3 x95) fun x96 =>
valK (afieldAddr tab 60 v20.1 4) fun x97 =>
valK (loadA tab h22 9 x97) fun x98 =>
valK (afieldAddr tab 60 v20.1 2) fun x99 =>
valK (loadA tab h22 3 x99) fun x100 =>
valK (afieldAddr tab 60 v20.1 5) fun x101 =>
valK (loadA tab h22 9 x101) fun x102 =>
valK (afieldAddr tab 60 v20.1 1) fun x103 =>
valK (loadA tab h22 3 x103) fun x104 =>
valK (afieldAddr tab 60 v20.1 4) fun x105 =>
valK (loadA tab h22 9 x105) fun x106 =>
valK (afieldAddr tab 60 v20.1 2) fun x107 =>
valK (loadA tab h22 3 x107) fun x108 =>
valK (afieldAddr tab 60 v20.1 5) fun x109 =>
valK (loadA tab h22 9 x109) fun x110 =>
bothK (E (.fn 19) [v20.2.1, x96, x98, x100, x102] h22) fun x111 h112 =>
valK (loadA tab h112 9 x109) fun x113 =>
sameK x113 x110 (
valK (loadA tab h112 3 x107) fun x114 =>
sameK x114 x108 (
valK (loadA tab h112 9 x105) fun x115 =>
sameK x115 x106 (
valK (loadA tab h112 3 x103) fun x116 =>
sameK x116 x104 (
bothK (E (.fn 44) [v20.2.2.1, x104, x106, x108, x110] h112) fun x117 h118 =>
valK (abin tab .eql 27 x111 x117) fun x119 =>
hpK (unmark h118 ms21) fun h120 =>
some (x119, h120)))))) (
valK (abin tab .eql 3 v20.2.2.2.1 (.int .i64 6)) fun x121 =>
boolK x121 (
valK (afieldAddr tab 60 v20.1 1) fun x122 =>
valK (loadA tab h22 3 x122) fun x123 =>
valK (afieldAddr tab 60 v20.1 6) fun x124 =>
valK (loadA tab h22 9 x124) fun x125 =>
valK (afieldAddr tab 60 v20.1 1) fun x126 =>
valK (loadA tab h22 3 x126) fun x127 =>
valK (afieldAddr tab 60 v20.1 6) fun x128 =>
valK (loadA tab h22 9 x128) fun x129 =>
bothK (E (.fn 10) [v20.2.1, x123, x125] h22) fun x130 h131 =>
valK (loadA tab h131 9 x128) fun x132 =>
sameK x132 x129 (
valK (loadA tab h131 3 x126) fun x133 =>
sameK x133 x127 (
bothK (E (.fn 45) [v20.2.2.1, x127, x129] h131) fun x134 h135 =>
valK (abin tab .eql 27 x130 x134) fun x136 =>
hpK (unmark h135 ms21) fun h137 =>
some (x136, h137)))) (
valK (abin tab .eql 3 v20.2.2.2.1 (.int .i64 7)) fun x138 =>
boolK x138 (
valK (afieldAddr tab 60 v20.1 1) fun x139 =>
valK (loadA tab h22 3 x139) fun x140 =>
valK (afieldAddr tab 60 v20.1 3) fun x141 =>
valK (loadA tab h22 3 x141) fun x142 =>
valK (afieldAddr tab 60 v20.1 1) fun x143 =>
valK (loadA tab h22 3 x143) fun x144 =>
valK (afieldAddr tab 60 v20.1 3) fun x145 =>
valK (loadA tab h22 3 x145) fun x146 =>
bothK (E (.fn 46) [v20.2.1, x140, x142] h22) fun x147 h148 =>
valK (loadA tab h148 3 x145) fun x149 =>
sameK x149 x146 (
valK (loadA tab h148 3 x143) fun x150 =>
sameK x150 x144 (
bothK (E (.fn 47) [v20.2.2.1, x144, x146] h148) fun x151 h152 =>
valK (abin tab .eql 27 x147 x151) fun x153 =>
hpK (unmark h152 ms21) fun h154 =>
some (x153, h154)))) (
valK (afieldAddr tab 60 v20.1 1) fun x155 =>
valK (loadA tab h22 3 x155) fun x156 =>
valK (afieldAddr tab 60 v20.1 4) fun x157 =>
valK (loadA tab h22 9 x157) fun x158 =>
bothK (E (.fn 13) [v20.2.1, x156, x158] h22) fun x159 h160 =>
valK (extractA x159 0) fun x161 =>
valK (extractA x159 1) fun x162 =>
valK (afieldAddr tab 60 v20.1 1) fun x163 =>
valK (loadA tab h160 3 x163) fun x164 =>
valK (afieldAddr tab 60 v20.1 4) fun x165 =>
valK (loadA tab h160 9 x165) fun x166 =>
bothK (E (.fn 48) [v20.2.2.1, x164, x166] h160) fun x167 h168 =>
valK (extractA x167 0) fun x169 =>
valK (extractA x167 1) fun x170 =>
valK (abin tab .eql 3 x161 x169) fun x171 =>
boolK x171 (
valK (abin tab .eql 4 x162 x170) fun x172 =>
hpK (unmark h168 ms21) fun h173 =>
some (x172, h173)) (
hpK (unmark h168 ms21) fun h174 =>
some ((.bool false), h174))))))))) fun j19_ =>
valK (abin tab .eql 3 x18 (.int .i64 0)) fun x175 =>
boolK x175 (
j19_ (x2, x5, x7, x18, x175, ()) [] h16) (
valK (abin tab .eql 3 x18 (.int .i64 1)) fun x176 =>
boolK x176 (
j19_ (x2, x5, x7, x18, x176, ()) [] h16) (
valK (abin tab .eql 3 x18 (.int .i64 2)) fun x177 =>
j19_ (x2, x5, x7, x18, x177, ()) [] h16))
theorem F21_eq (E : Env) (n : Nat) (a0 a1 : AV) (h : AHeap) : fnK E tab a21 21 n [a0, a1] h = F21 E n a0 a1 h := by kernel_rfl

/-- v: 1 b, 3 i -/
noncomputable def F22_b2 (E : Env) (n : Nat) (v : AV × AV × Unit) (ms : List Nat) (h : AHeap) (next2_ : AV × AV × Unit → List Nat → AHeap → Option (AV × AHeap)) : Option (AV × AHeap) :=
valK (afieldAddr tab 57 v.1 1) fun x3 =>
valK (loadA tab h 54 x3) fun x4 =>
valK (nilA x4) fun x5 =>
valK (afieldAddr tab 86 x5 1) fun x6 =>
valK (loadA tab h 83 x6) fun x7 =>
valK (alen tab h 83 x7) fun x8 =>
valK (abin tab .add 3 x8 (.int .i64 1)) fun x9 =>
valK (abin tab .leq 3 v.2.1 x9) fun x10 =>
boolK x10 (
valK (afieldAddr tab 57 v.1 0) fun x11 =>
valK (loadA tab h 23 x11) fun x12 =>
bothK (E (.fn 12) [x12, v.2.1] h) fun x13 h14 =>
valK (extractA x13 0) fun x15 =>
valK (extractA x13 1) fun x16 =>
bothK (newCells h14 [.int .i64 0, .int .i64 0, .str [], .int .i64 0] fun o => .ptr o 0) fun x17 h18 =>
hpK (storeA tab h18 35 x17 x15) fun h19 =>
valK (afieldAddr tab 57 v.1 1) fun x20 =>
valK (loadA tab h19 54 x20) fun x21 =>
bothK (E (.fn 49) [x21, v.2.1] h19) fun x22 h23 =>
valK (extractA x22 0) fun x24 =>
valK (extractA x22 1) fun x25 =>
bothK (newCells h23 [.int .i64 0, .int .i64 0, .str [], .int .i64 0] fun o => .ptr o 0) fun x26 h27 =>
hpK (storeA tab h27 35 x26 x24) fun h28 =>
valK (loadA tab h28 35 x17) fun x29 =>
valK (loadA tab h28 35 x26) fun x30 =>
valK (abin tab .neq 35 x29 x30) fun x31 =>
boolK x31 (
hpK (unmark h28 ms) fun h32 =>
some ((.bool false), h32)) (
valK (abin tab .neq 4 x16 x25) fun x33 =>
boolK x33 (
hpK (unmark h28 ms) fun h34 =>
some ((.bool false), h34)) (
valK (afieldAddr tab 57 v.1 0) fun x35 =>
valK (loadA tab h28 23 x35) fun x36 =>
valK (afieldAddr tab 57 v.1 1) fun x37 =>
valK (loadA tab h28 54 x37) fun x38 =>
bothK (E (.fn 18) [x36, v.2.1] h28) fun x39 h40 =>
valK (loadA tab h40 54 x37) fun x41 =>
sameK x41 x38 (
bothK (E (.fn 50) [x38, v.2.1] h40) fun x42 h43 =>
valK (abin tab .neq 3 x39 x42) fun x44 =>
boolK x44 (
hpK (unmark h43 ms) fun h45 =>
some ((.bool false), h45)) (
valK (afieldAddr tab 57 v.1 0) fun x46 =>
valK (loadA tab h43 23 x46) fun x47 =>
valK (afieldAddr tab 57 v.1 1) fun x48 =>
valK (loadA tab h43 54 x48) fun x49 =>
bothK (E (.fn 17) [x47, v.2.1] h43) fun x50 h51 =>
valK (loadA tab h51 54 x48) fun x52 =>
sameK x52 x49 (
bothK (E (.fn 52) [x49, v.2.1] h51) fun x53 h54 =>
bothK (E (.fn 51) [x50, x53] h54) fun x55 h56 =>
valK (aun .not x55) fun x57 =>
boolK x57 (
hpK (unmark h56 ms) fun h58 =>
some ((.bool false), h58)) (
valK (abin tab .add 3 v.2.1 (.int .i64 1)) fun x59 =>
next2_ (v.1, x59, ()) ms h56))))))) (
valK (afieldAddr tab 57 v.1 0) fun x60 =>
valK (loadA tab h 23 x60) fun x61 =>
valK (afieldAddr tab 57 v.1 1) fun x62 =>
valK (loadA tab h 54 x62) fun x63 =>
bothK (E (.fn 11) [x61] h) fun x64 h65 =>
valK (loadA tab h65 54 x62) fun x66 =>
sameK x66 x63 (
bothK (E (.fn 53) [x63] h65) fun x67 h68 =>
valK (abin tab .eql 26 x64 x67) fun x69 =>
boolK x69 (
valK (afieldAddr tab 57 v.1 0) fun x70 =>
valK (loadA tab h68 23 x70) fun x71 =>
valK (afieldAddr tab 57 v.1 1) fun x72 =>
valK (loadA tab h68 54 x72) fun x73 =>
valK (nilA x73) fun x74 =>
valK (afieldAddr tab 86 x74 0) fun x75 =>
valK (loadA tab h68 26 x75) fun x76 =>
bothK (E (.fn 54) [x71] h68) fun x77 h78 =>
valK (loadA tab h78 26 x75) fun x79 =>
sameK x79 x76 (
valK (loadA tab h78 54 x72) fun x80 =>
sameK x80 x73 (
valK (abin tab .eql 26 x77 x76) fun x81 =>
boolK x81 (
valK (afieldAddr tab 57 v.1 0) fun x82 =>
valK (loadA tab h78 23 x82) fun x83 =>
bothK (E (.fn 55) [x83] h78) fun x84 h85 =>
valK (abin tab .eql 3 x84 (.int .i64 1)) fun x86 =>
hpK (unmark h85 ms) fun h87 =>
some (x86, h87)) (
hpK (unmark h78 ms) fun h88 =>
some ((.bool false), h88))))) (
hpK (unmark h68 ms) fun h89 =>
some ((.bool false), h89))))
/-- (whisk/whisklaw07.both).same (b) -/
noncomputable def F22 (E : Env) (n : Nat) (a0 : AV) (h : AHeap) : Option (AV × AHeap) :=
bothK (boxA h a0) fun x0 h1 =>
loopN (F22_b2 E n) n (x0, (.int .i64 (-1)), ()) [] h1
theorem F22_eq (E : Env) (n : Nat) (a0 : AV) (h : AHeap) : fnK E tab a22 22 n [a0] h = F22 E n a0 h := by kernel_rfl

/-- (*whisk/inode.Table).Make$1 (, , ) -/
noncomputable def F23 (E : Env) (n : Nat) (a0 a1 a2 : AV) (h : AHeap) : Option (AV × AHeap) :=
jn (fun (v1 : AV × AV × AV × AV × Unit) ms2 h3 =>
bothK (newMapA h3) fun x4 h5 =>
hpK (amapUpdate tab h5 70 x4 (.int .i64 1) (.bool true)) fun h6 =>
valK (loadA tab h6 9 v1.1) fun x7 =>
valK (abin tab .eql 9 x7 (.str [])) fun x8 =>
hpK (amapUpdate tab h6 70 x4 (.int .i64 2) x8) fun h9 =>
hpK (amapUpdate tab h9 70 x4 (.int .i64 3) v1.2.2.2.1) fun h10 =>
valK (loadA tab h10 3 v1.2.1) fun x11 =>
valK (alookup tab h10 70 x4 x11 false) fun x12 =>
boolK x12 (
valK (loadA tab h10 3 v1.2.2.1) fun x13 =>
valK (abin tab .geq 3 x13 (.int .i64 0)) fun x14 =>
boolK x14 (
valK (loadA tab h10 3 v1.2.2.1) fun x15 =>
valK (abin tab .leq 3 x15 (.int .i64 511)) fun x16 =>
bothK (E (.fn 25) [x16, (.int .i64 2)] h10) fun x17 h18 =>
hpK (unmark h18 ms2) fun h19 =>
some (x17, h19)) (
bothK (E (.fn 25) [(.bool false), (.int .i64 2)] h10) fun x20 h21 =>
hpK (unmark h21 ms2) fun h22 =>
some (x20, h22))) (
bothK (E (.fn 25) [(.bool false), (.int .i64 2)] h10) fun x23 h24 =>
hpK (unmark h24 ms2) fun h25 =>
some (x23, h25))) fun j0_ =>
valK (loadA tab h 9 a0) fun x26 =>
valK (abin tab .neq 9 x26 (.str [])) fun x27 =>
boolK x27 (
valK (loadA tab h 9 a0) fun x28 =>
valK (alen tab h 9 x28) fun x29 =>
valK (abin tab .leq 3 x29 (.int .i64 255)) fun x30 =>
boolK x30 (
valK (loadA tab h 9 a0) fun x31 =>
bothK (E (.fn 24) [x31, (.int .u8 0)] h) fun x32 h33 =>
valK (abin tab .lss 3 x32 (.int .i64 0)) fun x34 =>
j0_ (a0, a1, a2, x34, ()) [] h33) (
j0_ (a0, a1, a2, (.bool false), ()) [] h)) (
j0_ (a0, a1, a2, (.bool false), ()) [] h)
theorem F23_eq (E : Env) (n : Nat) (a0 a1 a2 : AV) (h : AHeap) : fnK E tab a23 23 n [a0, a1, a2] h = F23 E n a0 a1 a2 h := by kernel_rfl

/-- whisk/inode.must (is, e) -/
noncomputable def F25 (E : Env) (n : Nat) (a0 a1 : AV) (h : AHeap) : Option (AV × AHeap) :=
valK (aun .not a0) fun x0 =>
boolK x0 (
some (a1, h)) (
some ((.int .i64 0), h))
theorem F25_eq (E : Env) (n : Nat) (a0 a1 : AV) (h : AHeap) : fnK E tab a25 25 n [a0, a1] h = F25 E n a0 a1 h := by kernel_rfl

/-- v: 6, 7, 8 -/
noncomputable def F26_b2 (E : Env) (n : Nat) (v : AV × AV × AV × Unit) (ms : List Nat) (h : AHeap) (next1_ : AV × AV × AV × Unit → List Nat → AHeap → Option (AV × AHeap)) : Option (AV × AHeap) :=
valK (abin tab .lss 3 v.2.2.1 v.2.1) fun x2 =>
boolK x2 (
valK (aindexAddr tab 90 v.1 v.2.2.1) fun x3 =>
valK (loadA tab h 72 x3) fun x4 =>
callA x4 [] fun f5 as6 =>
bothK (E f5 as6 h) fun x7 h8 =>
valK (abin tab .neq 27 x7 (.int .i64 0)) fun x9 =>
boolK x9 (
hpK (unmark h8 ms) fun h10 =>
some (x7, h10)) (
valK (abin tab .add 3 v.2.2.1 (.int .i64 1)) fun x11 =>
next1_ (v.1, v.2.1, x11, ()) ms h8)) (
hpK (unmark h ms) fun h12 =>
some ((.int .i64 0), h12))
/-- whisk/inode.first (asked) -/
noncomputable def F26 (E : Env) (n : Nat) (a0 : AV) (h : AHeap) : Option (AV × AHeap) :=
valK (alen tab h 90 a0) fun x0 =>
loopN (F26_b2 E n) n (a0, x0, (.int .i64 0), ()) [] h
theorem F26_eq (E : Env) (n : Nat) (a0 : AV) (h : AHeap) : fnK E tab a26 26 n [a0] h = F26 E n a0 h := by kernel_rfl

/-- (*whisk/inode.Table).there (t) -/
noncomputable def F27 (E : Env) (n : Nat) (a0 : AV) (h : AHeap) : Option (AV × AHeap) :=
valK (abin tab .neq 23 a0 (.nilptr)) fun x0 =>
bothK (E (.fn 25) [x0, (.int .i64 1)] h) fun x1 h2 =>
some (x1, h2)
theorem F27_eq (E : Env) (n : Nat) (a0 : AV) (h : AHeap) : fnK E tab a27 27 n [a0] h = F27 E n a0 h := by kernel_rfl

/-- (*whisk/inode.Table).dir (t, ino) -/
noncomputable def F28 (E : Env) (n : Nat) (a0 a1 : AV) (h : AHeap) : Option (AV × AHeap) :=
bothK (boxA h a0) fun x0 h1 =>
bothK (boxA h1 a1) fun x2 h3 =>
some ((.func 57 [] [x0, x2]), h3)
theorem F28_eq (E : Env) (n : Nat) (a0 a1 : AV) (h : AHeap) : fnK E tab a28 28 n [a0, a1] h = F28 E n a0 a1 h := by kernel_rfl

/-- whisk/inode.named (name) -/
noncomputable def F29 (E : Env) (n : Nat) (a0 : AV) (h : AHeap) : Option (AV × AHeap) :=
bothK (boxA h a0) fun x0 h1 =>
some ((.func 58 [] [x0]), h1)
theorem F29_eq (E : Env) (n : Nat) (a0 : AV) (h : AHeap) : fnK E tab a29 29 n [a0] h = F29 E n a0 h := by kernel_rfl

/-- (*whisk/inode.Table).free (t, dir, name) -/
noncomputable def F30 (E : Env) (n : Nat) (a0 a1 a2 : AV) (h : AHeap) : Option (AV × AHeap) :=
bothK (boxA h a0) fun x0 h1 =>
bothK (boxA h1 a1) fun x2 h3 =>
bothK (boxA h3 a2) fun x4 h5 =>
some ((.func 60 [] [x0, x2, x4]), h5)
theorem F30_eq (E : Env) (n : Nat) (a0 a1 a2 : AV) (h : AHeap) : fnK E tab a30 30 n [a0, a1, a2] h = F30 E n a0 a1 a2 h := by kernel_rfl

/-- (*whisk/inode.Table).Make$2 (, ) -/
noncomputable def F31 (E : Env) (n : Nat) (a0 a1 : AV) (h : AHeap) : Option (AV × AHeap) :=
valK (loadA tab h 23 a0) fun x0 =>
valK (loadA tab h 9 a1) fun x1 =>
valK (alen tab h 9 x1) fun x2 =>
bothK (E (.fn 32) [x0, (.int .i64 1), x2] h) fun x3 h4 =>
callA x3 [] fun f5 as6 =>
bothK (E f5 as6 h4) fun x7 h8 =>
some (x7, h8)
theorem F31_eq (E : Env) (n : Nat) (a0 a1 : AV) (h : AHeap) : fnK E tab a31 31 n [a0, a1] h = F31 E n a0 a1 h := by kernel_rfl

/-- (*whisk/inode.Table).room (t, inodes, bytes) -/
noncomputable def F32 (E : Env) (n : Nat) (a0 a1 a2 : AV) (h : AHeap) : Option (AV × AHeap) :=
bothK (boxA h a0) fun x0 h1 =>
bothK (boxA h1 a1) fun x2 h3 =>
bothK (boxA h3 a2) fun x4 h5 =>
some ((.func 61 [] [x0, x2, x4]), h5)
theorem F32_eq (E : Env) (n : Nat) (a0 a1 a2 : AV) (h : AHeap) : fnK E tab a32 32 n [a0, a1, a2] h = F32 E n a0 a1 a2 h := by kernel_rfl

/-- (*whisk/inode.Table).file (t, ino) -/
noncomputable def F33 (E : Env) (n : Nat) (a0 a1 : AV) (h : AHeap) : Option (AV × AHeap) :=
bothK (boxA h a0) fun x0 h1 =>
bothK (boxA h1 a1) fun x2 h3 =>
some ((.func 62 [] [x0, x2]), h3)
theorem F33_eq (E : Env) (n : Nat) (a0 a1 : AV) (h : AHeap) : fnK E tab a33 33 n [a0, a1] h = F33 E n a0 a1 h := by kernel_rfl

/-- (*whisk/inode.Table).Write$1 (, , ) -/
noncomputable def F34 (E : Env) (n : Nat) (a0 a1 a2 : AV) (h : AHeap) : Option (AV × AHeap) :=
valK (loadA tab h 23 a0) fun x0 =>
valK (loadA tab h 9 a1) fun x1 =>
valK (alen tab h 9 x1) fun x2 =>
valK (loadA tab h 23 a0) fun x3 =>
valK (nilA x3) fun x4 =>
valK (afieldAddr tab 68 x4 2) fun x5 =>
valK (loadA tab h 66 x5) fun x6 =>
valK (loadA tab h 3 a2) fun x7 =>
valK (alookup tab h 66 x6 x7 false) fun x8 =>
valK (nilA x8) fun x9 =>
valK (afieldAddr tab 65 x9 0) fun x10 =>
valK (afieldAddr tab 35 x10 2) fun x11 =>
valK (loadA tab h 9 x11) fun x12 =>
valK (alen tab h 9 x12) fun x13 =>
valK (abin tab .sub 3 x2 x13) fun x14 =>
bothK (E (.fn 32) [x0, (.int .i64 0), x14] h) fun x15 h16 =>
callA x15 [] fun f17 as18 =>
bothK (E f17 as18 h16) fun x19 h20 =>
some (x19, h20)
theorem F34_eq (E : Env) (n : Nat) (a0 a1 a2 : AV) (h : AHeap) : fnK E tab a34 34 n [a0, a1, a2] h = F34 E n a0 a1 a2 h := by kernel_rfl

/-- (*whisk/inode.Table).get (t, ino) -/
noncomputable def F35 (E : Env) (n : Nat) (a0 a1 : AV) (h : AHeap) : Option (AV × AHeap) :=
valK (abin tab .eql 23 a0 (.nilptr)) fun x0 =>
boolK x0 (
some ((.nilptr), h)) (
valK (nilA a0) fun x1 =>
valK (afieldAddr tab 68 x1 2) fun x2 =>
valK (loadA tab h 66 x2) fun x3 =>
valK (alookup tab h 66 x3 a1 false) fun x4 =>
some (x4, h))
theorem F35_eq (E : Env) (n : Nat) (a0 a1 : AV) (h : AHeap) : fnK E tab a35 35 n [a0, a1] h = F35 E n a0 a1 h := by kernel_rfl

/-- (*whisk/inode.Table).Unlink$1 (, , ) -/
noncomputable def F36 (E : Env) (n : Nat) (a0 a1 a2 : AV) (h : AHeap) : Option (AV × AHeap) :=
valK (loadA tab h 23 a0) fun x0 =>
valK (loadA tab h 3 a1) fun x1 =>
valK (loadA tab h 9 a2) fun x2 =>
bothK (E (.fn 13) [x0, x1, x2] h) fun x3 h4 =>
valK (extractA x3 0) fun x5 =>
valK (extractA x3 1) fun x6 =>
valK (loadA tab h4 23 a0) fun x7 =>
valK (nilA x7) fun x8 =>
valK (afieldAddr tab 68 x8 2) fun x9 =>
valK (loadA tab h4 66 x9) fun x10 =>
valK (alookup tab h4 66 x10 x5 false) fun x11 =>
valK (nilA x11) fun x12 =>
valK (afieldAddr tab 65 x12 2) fun x13 =>
valK (loadA tab h4 63 x13) fun x14 =>
valK (alen tab h4 63 x14) fun x15 =>
valK (abin tab .eql 3 x15 (.int .i64 0)) fun x16 =>
bothK (E (.fn 25) [x16, (.int .i64 20)] h4) fun x17 h18 =>
some (x17, h18)
theorem F36_eq (E : Env) (n : Nat) (a0 a1 a2 : AV) (h : AHeap) : fnK E tab a36 36 n [a0, a1, a2] h = F36 E n a0 a1 a2 h := by kernel_rfl

/-- (*whisk/inode.Table).entry (t, dir, name) -/
noncomputable def F37 (E : Env) (n : Nat) (a0 a1 a2 : AV) (h : AHeap) : Option (AV × AHeap) :=
bothK (boxA h a0) fun x0 h1 =>
bothK (boxA h1 a1) fun x2 h3 =>
bothK (boxA h3 a2) fun x4 h5 =>
some ((.func 63 [] [x0, x2, x4]), h5)
theorem F37_eq (E : Env) (n : Nat) (a0 a1 a2 : AV) (h : AHeap) : fnK E tab a37 37 n [a0, a1, a2] h = F37 E n a0 a1 a2 h := by kernel_rfl

/-- v: 1, 2, 4 at -/
noncomputable def F40_b2 (E : Env) (n : Nat) (v : AV × AV × AV × Unit) (ms : List Nat) (h : AHeap) (next1_ : AV × AV × AV × Unit → List Nat → AHeap → Option (AV × AHeap)) : Option (AV × AHeap) :=
valK (abin tab .neq 3 v.2.2.1 (.int .i64 1)) fun x2 =>
boolK x2 (
valK (loadA tab h 3 v.2.1) fun x3 =>
valK (abin tab .eql 3 v.2.2.1 x3) fun x4 =>
boolK x4 (
hpK (unmark h ms) fun h5 =>
some ((.int .i64 2), h5)) (
valK (loadA tab h 23 v.1) fun x6 =>
valK (nilA x6) fun x7 =>
valK (afieldAddr tab 68 x7 2) fun x8 =>
valK (loadA tab h 66 x8) fun x9 =>
valK (alookup tab h 66 x9 v.2.2.1 false) fun x10 =>
valK (nilA x10) fun x11 =>
valK (afieldAddr tab 65 x11 1) fun x12 =>
valK (loadA tab h 3 x12) fun x13 =>
next1_ (v.1, v.2.1, x13, ()) ms h)) (
hpK (unmark h ms) fun h14 =>
some ((.int .i64 0), h14))
/-- (*whisk/inode.Table).Move$1 (, , ) -/
noncomputable def F40 (E : Env) (n : Nat) (a0 a1 a2 : AV) (h : AHeap) : Option (AV × AHeap) :=
valK (loadA tab h 3 a0) fun x0 =>
loopN (F40_b2 E n) n (a1, a2, x0, ()) [] h
theorem F40_eq (E : Env) (n : Nat) (a0 a1 a2 : AV) (h : AHeap) : fnK E tab a40 40 n [a0, a1, a2] h = F40 E n a0 a1 a2 h := by kernel_rfl

/-- (*whisk/whiskref07.Table).Make (t, dir, name, kind, mode, data) -/
noncomputable def F41 (E : Env) (n : Nat) (a0 a1 a2 a3 a4 a5 : AV) (h : AHeap) : Option (AV × AHeap) :=
bothK (E (.fn 67) [a0, a1, a2] h) fun x0 h1 =>
valK (abin tab .neq 27 x0 (.int .i64 0)) fun x2 =>
boolK x2 (
some (.tuple [(.int .i64 0), x0], h1)) (
jn (fun (v4 : AV × AV × AV × AV × AV × AV × Unit) ms5 h6 =>
bothK (E (.fn 69) [v4.1, v4.2.1, v4.2.2.1] h6) fun x7 h8 =>
valK (abin tab .geq 3 x7 (.int .i64 0)) fun x9 =>
boolK x9 (
hpK (unmark h8 ms5) fun h10 =>
some (.tuple [(.int .i64 0), (.int .i64 6)], h10)) (
valK (alen tab h8 9 v4.2.2.2.2.2.1) fun x11 =>
bothK (E (.fn 70) [v4.1, (.int .i64 1), x11] h8) fun x12 h13 =>
valK (aun .not x12) fun x14 =>
boolK x14 (
hpK (unmark h13 ms5) fun h15 =>
some (.tuple [(.int .i64 0), (.int .i64 10)], h15)) (
valK (nilA v4.1) fun x16 =>
valK (afieldAddr tab 86 x16 1) fun x17 =>
valK (loadA tab h13 83 x17) fun x18 =>
valK (abuild tab 35 [(0, v4.2.2.2.1), (1, v4.2.2.2.2.1), (2, v4.2.2.2.2.2.1)]) fun x19 =>
bothK (abuildSlice tab h13 83 1 [(0, x19)]) fun x20 h21 =>
bothK (aappend tab h21 83 83 x18 x20) fun x22 h23 =>
valK (nilA v4.1) fun x24 =>
valK (afieldAddr tab 86 x24 1) fun x25 =>
hpK (storeA tab h23 83 x25 x22) fun h26 =>
valK (nilA v4.1) fun x27 =>
valK (afieldAddr tab 86 x27 2) fun x28 =>
valK (loadA tab h26 84 x28) fun x29 =>
valK (nilA v4.1) fun x30 =>
valK (afieldAddr tab 86 x30 1) fun x31 =>
valK (loadA tab h26 83 x31) fun x32 =>
valK (alen tab h26 83 x32) fun x33 =>
valK (abuild tab 98 [(0, v4.2.1), (1, v4.2.2.1), (2, x33)]) fun x34 =>
bothK (abuildSlice tab h26 84 1 [(0, x34)]) fun x35 h36 =>
bothK (aappend tab h36 84 84 x29 x35) fun x37 h38 =>
valK (nilA v4.1) fun x39 =>
valK (afieldAddr tab 86 x39 2) fun x40 =>
hpK (storeA tab h38 84 x40 x37) fun h41 =>
valK (nilA v4.1) fun x42 =>
valK (afieldAddr tab 86 x42 1) fun x43 =>
valK (loadA tab h41 83 x43) fun x44 =>
valK (alen tab h41 83 x44) fun x45 =>
hpK (unmark h41 ms5) fun h46 =>
some (.tuple [x45, (.int .i64 0)], h46)))) fun j3_ =>
valK (abin tab .lss 3 a3 (.int .i64 1)) fun x47 =>
boolK x47 (
some (.tuple [(.int .i64 0), (.int .i64 2)], h1)) (
valK (abin tab .gtr 3 a3 (.int .i64 3)) fun x48 =>
boolK x48 (
some (.tuple [(.int .i64 0), (.int .i64 2)], h1)) (
valK (abin tab .lss 3 a4 (.int .i64 0)) fun x49 =>
boolK x49 (
some (.tuple [(.int .i64 0), (.int .i64 2)], h1)) (
valK (abin tab .gtr 3 a4 (.int .i64 511)) fun x50 =>
boolK x50 (
some (.tuple [(.int .i64 0), (.int .i64 2)], h1)) (
valK (abin tab .eql 3 a3 (.int .i64 2)) fun x51 =>
skipK x51 (
boolK (.tuple []) (
boolK (.tuple []) (
some (.tuple [(.int .i64 0), (.int .i64 2)], h1)) (
valK (abin tab .eql 3 a3 (.int .i64 3)) fun x52 =>
skipK x52 (
boolK (.tuple []) (
boolK (.tuple []) (
some (.tuple [(.int .i64 0), (.int .i64 2)], h1)) (
j3_ (a0, a1, a2, a3, a4, a5, ()) [] h1)) (
j3_ (a0, a1, a2, a3, a4, a5, ()) [] h1)) (
boolK x52 (
valK (abin tab .eql 9 a5 (.str [])) fun x53 =>
skipK x53 (
boolK (.tuple []) (
some (.tuple [(.int .i64 0), (.int .i64 2)], h1)) (
boolK (.tuple []) (
some (.tuple [(.int .i64 0), (.int .i64 2)], h1)) (
boolK (.tuple []) (
some (.tuple [(.int .i64 0), (.int .i64 2)], h1)) (
j3_ (a0, a1, a2, a3, a4, a5, ()) [] h1)))) (
boolK x53 (
some (.tuple [(.int .i64 0), (.int .i64 2)], h1)) (
valK (alen tab h1 9 a5) fun x54 =>
valK (abin tab .gtr 3 x54 (.int .i64 255)) fun x55 =>
skipK x55 (
boolK (.tuple []) (
some (.tuple [(.int .i64 0), (.int .i64 2)], h1)) (
boolK (.tuple []) (
some (.tuple [(.int .i64 0), (.int .i64 2)], h1)) (
j3_ (a0, a1, a2, a3, a4, a5, ()) [] h1))) (
boolK x55 (
some (.tuple [(.int .i64 0), (.int .i64 2)], h1)) (
bothK (E (.fn 68) [a5, (.int .u8 0)] h1) fun x56 h57 =>
boolK x56 (
some (.tuple [(.int .i64 0), (.int .i64 2)], h57)) (
j3_ (a0, a1, a2, a3, a4, a5, ()) [] h57)))))) (
j3_ (a0, a1, a2, a3, a4, a5, ()) [] h1)))) (
valK (abin tab .eql 3 a3 (.int .i64 3)) fun x58 =>
skipK x58 (
boolK (.tuple []) (
boolK (.tuple []) (
some (.tuple [(.int .i64 0), (.int .i64 2)], h1)) (
j3_ (a0, a1, a2, a3, a4, a5, ()) [] h1)) (
j3_ (a0, a1, a2, a3, a4, a5, ()) [] h1)) (
boolK x58 (
valK (abin tab .eql 9 a5 (.str [])) fun x59 =>
skipK x59 (
boolK (.tuple []) (
some (.tuple [(.int .i64 0), (.int .i64 2)], h1)) (
boolK (.tuple []) (
some (.tuple [(.int .i64 0), (.int .i64 2)], h1)) (
boolK (.tuple []) (
some (.tuple [(.int .i64 0), (.int .i64 2)], h1)) (
j3_ (a0, a1, a2, a3, a4, a5, ()) [] h1)))) (
boolK x59 (
some (.tuple [(.int .i64 0), (.int .i64 2)], h1)) (
valK (alen tab h1 9 a5) fun x60 =>
valK (abin tab .gtr 3 x60 (.int .i64 255)) fun x61 =>
skipK x61 (
boolK (.tuple []) (
some (.tuple [(.int .i64 0), (.int .i64 2)], h1)) (
boolK (.tuple []) (
some (.tuple [(.int .i64 0), (.int .i64 2)], h1)) (
j3_ (a0, a1, a2, a3, a4, a5, ()) [] h1))) (
boolK x61 (
some (.tuple [(.int .i64 0), (.int .i64 2)], h1)) (
bothK (E (.fn 68) [a5, (.int .u8 0)] h1) fun x62 h63 =>
boolK x62 (
some (.tuple [(.int .i64 0), (.int .i64 2)], h63)) (
j3_ (a0, a1, a2, a3, a4, a5, ()) [] h63)))))) (
j3_ (a0, a1, a2, a3, a4, a5, ()) [] h1)))) (
boolK x51 (
valK (abin tab .neq 9 a5 (.str [])) fun x64 =>
boolK x64 (
some (.tuple [(.int .i64 0), (.int .i64 2)], h1)) (
valK (abin tab .eql 3 a3 (.int .i64 3)) fun x65 =>
skipK x65 (
boolK (.tuple []) (
boolK (.tuple []) (
some (.tuple [(.int .i64 0), (.int .i64 2)], h1)) (
j3_ (a0, a1, a2, a3, a4, a5, ()) [] h1)) (
j3_ (a0, a1, a2, a3, a4, a5, ()) [] h1)) (
boolK x65 (
valK (abin tab .eql 9 a5 (.str [])) fun x66 =>
skipK x66 (
boolK (.tuple []) (
some (.tuple [(.int .i64 0), (.int .i64 2)], h1)) (
boolK (.tuple []) (
some (.tuple [(.int .i64 0), (.int .i64 2)], h1)) (
boolK (.tuple []) (
some (.tuple [(.int .i64 0), (.int .i64 2)], h1)) (
j3_ (a0, a1, a2, a3, a4, a5, ()) [] h1)))) (
boolK x66 (
some (.tuple [(.int .i64 0), (.int .i64 2)], h1)) (
valK (alen tab h1 9 a5) fun x67 =>
valK (abin tab .gtr 3 x67 (.int .i64 255)) fun x68 =>
skipK x68 (
boolK (.tuple []) (
some (.tuple [(.int .i64 0), (.int .i64 2)], h1)) (
boolK (.tuple []) (
some (.tuple [(.int .i64 0), (.int .i64 2)], h1)) (
j3_ (a0, a1, a2, a3, a4, a5, ()) [] h1))) (
boolK x68 (
some (.tuple [(.int .i64 0), (.int .i64 2)], h1)) (
bothK (E (.fn 68) [a5, (.int .u8 0)] h1) fun x69 h70 =>
boolK x69 (
some (.tuple [(.int .i64 0), (.int .i64 2)], h70)) (
j3_ (a0, a1, a2, a3, a4, a5, ()) [] h70)))))) (
j3_ (a0, a1, a2, a3, a4, a5, ()) [] h1)))) (
valK (abin tab .eql 3 a3 (.int .i64 3)) fun x71 =>
skipK x71 (
boolK (.tuple []) (
boolK (.tuple []) (
some (.tuple [(.int .i64 0), (.int .i64 2)], h1)) (
j3_ (a0, a1, a2, a3, a4, a5, ()) [] h1)) (
j3_ (a0, a1, a2, a3, a4, a5, ()) [] h1)) (
boolK x71 (
valK (abin tab .eql 9 a5 (.str [])) fun x72 =>
skipK x72 (
boolK (.tuple []) (
some (.tuple [(.int .i64 0), (.int .i64 2)], h1)) (
boolK (.tuple []) (
some (.tuple [(.int .i64 0), (.int .i64 2)], h1)) (
boolK (.tuple []) (
some (.tuple [(.int .i64 0), (.int .i64 2)], h1)) (
j3_ (a0, a1, a2, a3, a4, a5, ()) [] h1)))) (
boolK x72 (
some (.tuple [(.int .i64 0), (.int .i64 2)], h1)) (
valK (alen tab h1 9 a5) fun x73 =>
valK (abin tab .gtr 3 x73 (.int .i64 255)) fun x74 =>
skipK x74 (
boolK (.tuple []) (
some (.tuple [(.int .i64 0), (.int .i64 2)], h1)) (
boolK (.tuple []) (
some (.tuple [(.int .i64 0), (.int .i64 2)], h1)) (
j3_ (a0, a1, a2, a3, a4, a5, ()) [] h1))) (
boolK x74 (
some (.tuple [(.int .i64 0), (.int .i64 2)], h1)) (
bothK (E (.fn 68) [a5, (.int .u8 0)] h1) fun x75 h76 =>
boolK x75 (
some (.tuple [(.int .i64 0), (.int .i64 2)], h76)) (
j3_ (a0, a1, a2, a3, a4, a5, ()) [] h76)))))) (
j3_ (a0, a1, a2, a3, a4, a5, ()) [] h1)))))))))
theorem F41_eq (E : Env) (n : Nat) (a0 a1 a2 a3 a4 a5 : AV) (h : AHeap) : fnK E tab a41 41 n [a0, a1, a2, a3, a4, a5] h = F41 E n a0 a1 a2 a3 a4 a5 h := by kernel_rfl

/-- (*whisk/whiskref07.Table).Link (t, dir, name, ino) -/
noncomputable def F42 (E : Env) (n : Nat) (a0 a1 a2 a3 : AV) (h : AHeap) : Option (AV × AHeap) :=
bothK (E (.fn 67) [a0, a1, a2] h) fun x0 h1 =>
jn (fun (v3 : AV × AV × AV × AV × AV × Unit) ms4 h5 =>
valK (abin tab .neq 27 v3.2.2.2.2.1 (.int .i64 0)) fun x6 =>
boolK x6 (
hpK (unmark h5 ms4) fun h7 =>
some (v3.2.2.2.2.1, h7)) (
bothK (E (.fn 69) [v3.1, v3.2.1, v3.2.2.1] h5) fun x8 h9 =>
valK (abin tab .geq 3 x8 (.int .i64 0)) fun x10 =>
boolK x10 (
hpK (unmark h9 ms4) fun h11 =>
some ((.int .i64 6), h11)) (
valK (nilA v3.1) fun x12 =>
valK (afieldAddr tab 86 x12 2) fun x13 =>
valK (loadA tab h9 84 x13) fun x14 =>
valK (abuild tab 98 [(0, v3.2.1), (1, v3.2.2.1), (2, v3.2.2.2.1)]) fun x15 =>
bothK (abuildSlice tab h9 84 1 [(0, x15)]) fun x16 h17 =>
bothK (aappend tab h17 84 84 x14 x16) fun x18 h19 =>
valK (nilA v3.1) fun x20 =>
valK (afieldAddr tab 86 x20 2) fun x21 =>
hpK (storeA tab h19 84 x21 x18) fun h22 =>
hpK (unmark h22 ms4) fun h23 =>
some ((.int .i64 0), h23)))) fun j2_ =>
valK (abin tab .eql 27 x0 (.int .i64 0)) fun x24 =>
boolK x24 (
bothK (E (.fn 71) [a0, a3] h1) fun x25 h26 =>
j2_ (a0, a1, a2, a3, x25, ()) [] h26) (
j2_ (a0, a1, a2, a3, x0, ()) [] h1)
theorem F42_eq (E : Env) (n : Nat) (a0 a1 a2 a3 : AV) (h : AHeap) : fnK E tab a42 42 n [a0, a1, a2, a3] h = F42 E n a0 a1 a2 a3 h := by kernel_rfl

/-- (*whisk/whiskref07.Table).Unlink (t, dir, name) -/
noncomputable def F43 (E : Env) (n : Nat) (a0 a1 a2 : AV) (h : AHeap) : Option (AV × AHeap) :=
bothK (E (.fn 72) [a0, a1] h) fun x0 h1 =>
valK (abin tab .neq 27 x0 (.int .i64 0)) fun x2 =>
boolK x2 (
some (x0, h1)) (
bothK (E (.fn 69) [a0, a1, a2] h1) fun x3 h4 =>
valK (abin tab .lss 3 x3 (.int .i64 0)) fun x5 =>
boolK x5 (
some ((.int .i64 5), h4)) (
valK (nilA a0) fun x6 =>
valK (afieldAddr tab 86 x6 2) fun x7 =>
valK (loadA tab h4 84 x7) fun x8 =>
valK (aindexAddr tab 84 x8 x3) fun x9 =>
valK (afieldAddr tab 98 x9 2) fun x10 =>
valK (loadA tab h4 3 x10) fun x11 =>
bothK (E (.fn 52) [a0, x11] h4) fun x12 h13 =>
valK (alen tab h13 30 x12) fun x14 =>
valK (abin tab .gtr 3 x14 (.int .i64 0)) fun x15 =>
boolK x15 (
some ((.int .i64 20), h13)) (
bothK (E (.fn 73) [a0, x3] h13) fun x16 h17 =>
bothK (E (.fn 49) [a0, x11] h17) fun x18 h19 =>
valK (extractA x18 0) fun x20 =>
valK (extractA x18 1) fun x21 =>
bothK (newCells h19 [.int .i64 0, .int .i64 0, .str [], .int .i64 0] fun o => .ptr o 0) fun x22 h23 =>
hpK (storeA tab h23 35 x22 x20) fun h24 =>
valK (afieldAddr tab 35 x22 3) fun x25 =>
valK (loadA tab h24 3 x25) fun x26 =>
valK (abin tab .eql 3 x26 (.int .i64 0)) fun x27 =>
boolK x27 (
valK (nilA a0) fun x28 =>
valK (afieldAddr tab 86 x28 1) fun x29 =>
valK (loadA tab h24 83 x29) fun x30 =>
valK (abin tab .sub 3 x11 (.int .i64 1)) fun x31 =>
valK (abuild tab 35 []) fun x32 =>
valK (aindexAddr tab 83 x30 x31) fun x33 =>
hpK (storeA tab h24 35 x33 x32) fun h34 =>
some ((.int .i64 0), h34)) (
some ((.int .i64 0), h24)))))
theorem F43_eq (E : Env) (n : Nat) (a0 a1 a2 : AV) (h : AHeap) : fnK E tab a43 43 n [a0, a1, a2] h = F43 E n a0 a1 a2 h := by kernel_rfl

/-- v: 0 t, 3 to, 4 as, 12 i, 13 ino, 14 at -/
noncomputable def F44_b15 (E : Env) (n : Nat) (v : AV × AV × AV × AV × AV × AV × Unit) (ms : List Nat) (h : AHeap) (next26_ : AV × AV × AV × AV × AV × AV × Unit → List Nat → AHeap → Option (AV × AHeap)) : Option (AV × AHeap) :=
valK (abin tab .neq 3 v.2.2.2.2.2.1 (.int .i64 1)) fun x27 =>
boolK x27 (
valK (abin tab .eql 3 v.2.2.2.2.2.1 v.2.2.2.2.1) fun x28 =>
boolK x28 (
hpK (unmark h ms) fun h29 =>
some ((.int .i64 2), h29)) (
bothK (E (.fn 50) [v.1, v.2.2.2.2.2.1] h) fun x30 h31 =>
next26_ (v.1, v.2.1, v.2.2.1, v.2.2.2.1, v.2.2.2.2.1, x30, ()) ms h31)) (
bothK (E (.fn 73) [v.1, v.2.2.2.1] h) fun x32 h33 =>
valK (nilA v.1) fun x34 =>
valK (afieldAddr tab 86 x34 2) fun x35 =>
valK (loadA tab h33 84 x35) fun x36 =>
valK (abuild tab 98 [(0, v.2.1), (1, v.2.2.1), (2, v.2.2.2.2.1)]) fun x37 =>
bothK (abuildSlice tab h33 84 1 [(0, x37)]) fun x38 h39 =>
bothK (aappend tab h39 84 84 x36 x38) fun x40 h41 =>
valK (nilA v.1) fun x42 =>
valK (afieldAddr tab 86 x42 2) fun x43 =>
hpK (storeA tab h41 84 x43 x40) fun h44 =>
hpK (unmark h44 ms) fun h45 =>
some ((.int .i64 0), h45))
/-- (*whisk/whiskref07.Table).Move (t, from, name, to, as) -/
noncomputable def F44 (E : Env) (n : Nat) (a0 a1 a2 a3 a4 : AV) (h : AHeap) : Option (AV × AHeap) :=
bothK (E (.fn 72) [a0, a1] h) fun x0 h1 =>
jn (fun (v3 : AV × AV × AV × AV × AV × AV × Unit) ms4 h5 =>
valK (abin tab .neq 27 v3.2.2.2.2.2.1 (.int .i64 0)) fun x6 =>
boolK x6 (
hpK (unmark h5 ms4) fun h7 =>
some (v3.2.2.2.2.2.1, h7)) (
bothK (E (.fn 69) [v3.1, v3.2.1, v3.2.2.1] h5) fun x8 h9 =>
valK (abin tab .lss 3 x8 (.int .i64 0)) fun x10 =>
boolK x10 (
hpK (unmark h9 ms4) fun h11 =>
some ((.int .i64 5), h11)) (
jn (fun (v13 : AV × AV × AV × AV × Unit) ms14 h15 =>
bothK (E (.fn 69) [v13.1, v13.2.1, v13.2.2.1] h15) fun x16 h17 =>
valK (abin tab .geq 3 x16 (.int .i64 0)) fun x18 =>
boolK x18 (
hpK (unmark h17 ms14) fun h19 =>
some ((.int .i64 6), h19)) (
valK (nilA v13.1) fun x20 =>
valK (afieldAddr tab 86 x20 2) fun x21 =>
valK (loadA tab h17 84 x21) fun x22 =>
valK (aindexAddr tab 84 x22 v13.2.2.2.1) fun x23 =>
valK (afieldAddr tab 98 x23 2) fun x24 =>
valK (loadA tab h17 3 x24) fun x25 =>
loopN (F44_b15 E n) n (v13.1, v13.2.1, v13.2.2.1, v13.2.2.2.1, x25, v13.2.1, ()) ms14 h17)) fun j12_ =>
valK (abin tab .eql 3 v3.2.1 v3.2.2.2.1) fun x46 =>
boolK x46 (
valK (abin tab .eql 9 v3.2.2.1 v3.2.2.2.2.1) fun x47 =>
boolK x47 (
hpK (unmark h9 ms4) fun h48 =>
some ((.int .i64 0), h48)) (
j12_ (v3.1, v3.2.2.2.1, v3.2.2.2.2.1, x8, ()) ms4 h9)) (
j12_ (v3.1, v3.2.2.2.1, v3.2.2.2.2.1, x8, ()) ms4 h9)))) fun j2_ =>
valK (abin tab .eql 27 x0 (.int .i64 0)) fun x49 =>
boolK x49 (
bothK (E (.fn 67) [a0, a3, a4] h1) fun x50 h51 =>
j2_ (a0, a1, a2, a3, a4, x50, ()) [] h51) (
j2_ (a0, a1, a2, a3, a4, x0, ()) [] h1)
theorem F44_eq (E : Env) (n : Nat) (a0 a1 a2 a3 a4 : AV) (h : AHeap) : fnK E tab a44 44 n [a0, a1, a2, a3, a4] h = F44 E n a0 a1 a2 a3 a4 h := by kernel_rfl

/-- (*whisk/whiskref07.Table).Write (t, ino, data) -/
noncomputable def F45 (E : Env) (n : Nat) (a0 a1 a2 : AV) (h : AHeap) : Option (AV × AHeap) :=
bothK (E (.fn 71) [a0, a1] h) fun x0 h1 =>
valK (abin tab .neq 27 x0 (.int .i64 0)) fun x2 =>
boolK x2 (
some (x0, h1)) (
valK (alen tab h1 9 a2) fun x3 =>
valK (nilA a0) fun x4 =>
valK (afieldAddr tab 86 x4 1) fun x5 =>
valK (loadA tab h1 83 x5) fun x6 =>
valK (abin tab .sub 3 a1 (.int .i64 1)) fun x7 =>
valK (aindexAddr tab 83 x6 x7) fun x8 =>
valK (afieldAddr tab 35 x8 2) fun x9 =>
valK (loadA tab h1 9 x9) fun x10 =>
valK (alen tab h1 9 x10) fun x11 =>
valK (abin tab .sub 3 x3 x11) fun x12 =>
bothK (E (.fn 70) [a0, (.int .i64 0), x12] h1) fun x13 h14 =>
valK (aun .not x13) fun x15 =>
boolK x15 (
some ((.int .i64 10), h14)) (
valK (nilA a0) fun x16 =>
valK (afieldAddr tab 86 x16 1) fun x17 =>
valK (loadA tab h14 83 x17) fun x18 =>
valK (abin tab .sub 3 a1 (.int .i64 1)) fun x19 =>
valK (aindexAddr tab 83 x18 x19) fun x20 =>
valK (afieldAddr tab 35 x20 2) fun x21 =>
hpK (storeA tab h14 9 x21 a2) fun h22 =>
some ((.int .i64 0), h22)))
theorem F45_eq (E : Env) (n : Nat) (a0 a1 a2 : AV) (h : AHeap) : fnK E tab a45 45 n [a0, a1, a2] h = F45 E n a0 a1 a2 h := by kernel_rfl

/-- (*whisk/inode.Table).Chmod (t, ino, mode) -/
noncomputable def F46 (E : Env) (n : Nat) (a0 a1 a2 : AV) (h : AHeap) : Option (AV × AHeap) :=
bothK (boxA h a0) fun x0 h1 =>
bothK (boxA h1 a1) fun x2 h3 =>
bothK (boxA h3 a2) fun x4 h5 =>
valK (loadA tab h5 23 x0) fun x6 =>
bothK (abuildSlice tab h5 90 3 [(0, (.func 27 [x6] [])), (1, (.func 74 [] [x4])), (2, (.func 75 [] [x0, x2]))]) fun x7 h8 =>
bothK (E (.fn 26) [x7] h8) fun x9 h10 =>
valK (abin tab .neq 27 x9 (.int .i64 0)) fun x11 =>
boolK x11 (
some (x9, h10)) (
valK (loadA tab h10 23 x0) fun x12 =>
valK (nilA x12) fun x13 =>
valK (afieldAddr tab 68 x13 2) fun x14 =>
valK (loadA tab h10 66 x14) fun x15 =>
valK (loadA tab h10 3 x2) fun x16 =>
valK (alookup tab h10 66 x15 x16 false) fun x17 =>
valK (loadA tab h10 3 x4) fun x18 =>
valK (nilA x17) fun x19 =>
valK (afieldAddr tab 65 x19 0) fun x20 =>
valK (afieldAddr tab 35 x20 1) fun x21 =>
hpK (storeA tab h10 3 x21 x18) fun h22 =>
some ((.int .i64 0), h22))
theorem F46_eq (E : Env) (n : Nat) (a0 a1 a2 : AV) (h : AHeap) : fnK E tab a46 46 n [a0, a1, a2] h = F46 E n a0 a1 a2 h := by kernel_rfl

/-- (*whisk/whiskref07.Table).Chmod (t, ino, mode) -/
noncomputable def F47 (E : Env) (n : Nat) (a0 a1 a2 : AV) (h : AHeap) : Option (AV × AHeap) :=
jn (fun (v1 : AV × AV × AV × Unit) ms2 h3 =>
bothK (E (.fn 76) [v1.1, v1.2.1] h3) fun x4 h5 =>
valK (abin tab .eql 3 x4 (.int .i64 0)) fun x6 =>
boolK x6 (
hpK (unmark h5 ms2) fun h7 =>
some ((.int .i64 5), h7)) (
valK (nilA v1.1) fun x8 =>
valK (afieldAddr tab 86 x8 1) fun x9 =>
valK (loadA tab h5 83 x9) fun x10 =>
valK (abin tab .sub 3 v1.2.1 (.int .i64 1)) fun x11 =>
valK (aindexAddr tab 83 x10 x11) fun x12 =>
valK (afieldAddr tab 35 x12 1) fun x13 =>
hpK (storeA tab h5 3 x13 v1.2.2.1) fun h14 =>
hpK (unmark h14 ms2) fun h15 =>
some ((.int .i64 0), h15))) fun j0_ =>
valK (abin tab .lss 3 a2 (.int .i64 0)) fun x16 =>
boolK x16 (
some ((.int .i64 2), h)) (
valK (abin tab .gtr 3 a2 (.int .i64 511)) fun x17 =>
boolK x17 (
some ((.int .i64 2), h)) (
j0_ (a0, a1, a2, ()) [] h))
theorem F47_eq (E : Env) (n : Nat) (a0 a1 a2 : AV) (h : AHeap) : fnK E tab a47 47 n [a0, a1, a2] h = F47 E n a0 a1 a2 h := by kernel_rfl

/-- (*whisk/whiskref07.Table).Find (t, dir, name) -/
noncomputable def F48 (E : Env) (n : Nat) (a0 a1 a2 : AV) (h : AHeap) : Option (AV × AHeap) :=
bothK (E (.fn 69) [a0, a1, a2] h) fun x0 h1 =>
valK (abin tab .lss 3 x0 (.int .i64 0)) fun x2 =>
boolK x2 (
some (.tuple [(.int .i64 0), (.bool false)], h1)) (
valK (nilA a0) fun x3 =>
valK (afieldAddr tab 86 x3 2) fun x4 =>
valK (loadA tab h1 84 x4) fun x5 =>
valK (aindexAddr tab 84 x5 x0) fun x6 =>
valK (afieldAddr tab 98 x6 2) fun x7 =>
valK (loadA tab h1 3 x7) fun x8 =>
some (.tuple [x8, (.bool true)], h1))
theorem F48_eq (E : Env) (n : Nat) (a0 a1 a2 : AV) (h : AHeap) : fnK E tab a48 48 n [a0, a1, a2] h = F48 E n a0 a1 a2 h := by kernel_rfl

/-- v: 0 t, 1 ino, 4, 6 n, 7 i -/
noncomputable def F49_b5 (E : Env) (n : Nat) (v : AV × AV × AV × AV × AV × Unit) (ms : List Nat) (h : AHeap) (next17_ : AV × AV × AV × AV × AV × Unit → List Nat → AHeap → Option (AV × AHeap)) : Option (AV × AHeap) :=
valK (nilA v.1) fun x18 =>
valK (afieldAddr tab 86 x18 2) fun x19 =>
valK (loadA tab h 84 x19) fun x20 =>
valK (alen tab h 84 x20) fun x21 =>
valK (abin tab .lss 3 v.2.2.2.2.1 x21) fun x22 =>
boolK x22 (
valK (nilA v.1) fun x23 =>
valK (afieldAddr tab 86 x23 2) fun x24 =>
valK (loadA tab h 84 x24) fun x25 =>
valK (aindexAddr tab 84 x25 v.2.2.2.2.1) fun x26 =>
valK (afieldAddr tab 98 x26 2) fun x27 =>
valK (loadA tab h 3 x27) fun x28 =>
valK (abin tab .eql 3 x28 v.2.1) fun x29 =>
boolK x29 (
valK (afieldAddr tab 35 v.2.2.2.1 3) fun x30 =>
valK (loadA tab h 3 x30) fun x31 =>
valK (abin tab .add 3 x31 (.int .i64 1)) fun x32 =>
valK (afieldAddr tab 35 v.2.2.2.1 3) fun x33 =>
hpK (storeA tab h 3 x33 x32) fun h34 =>
valK (abin tab .add 3 v.2.2.2.2.1 (.int .i64 1)) fun x35 =>
next17_ (v.1, v.2.1, v.2.2.1, v.2.2.2.1, x35, ()) ms h34) (
valK (abin tab .add 3 v.2.2.2.2.1 (.int .i64 1)) fun x36 =>
next17_ (v.1, v.2.1, v.2.2.1, v.2.2.2.1, x36, ()) ms h)) (
valK (abin tab .eql 3 v.2.1 (.int .i64 1)) fun x37 =>
boolK x37 (
valK (afieldAddr tab 35 v.2.2.2.1 3) fun x38 =>
hpK (storeA tab h 3 x38 (.int .i64 1)) fun h39 =>
valK (loadA tab h39 35 v.2.2.2.1) fun x40 =>
hpK (storeA tab h39 35 v.2.2.1 x40) fun h41 =>
hpK (unmark h41 ms) fun h42 =>
valK (loadA tab h42 35 v.2.2.1) fun x43 =>
some (.tuple [x43, (.bool true)], h42)) (
valK (loadA tab h 35 v.2.2.2.1) fun x44 =>
hpK (storeA tab h 35 v.2.2.1 x44) fun h45 =>
hpK (unmark h45 ms) fun h46 =>
valK (loadA tab h46 35 v.2.2.1) fun x47 =>
some (.tuple [x47, (.bool true)], h46)))
/-- (*whisk/whiskref07.Table).Node (t, ino) -/
noncomputable def F49 (E : Env) (n : Nat) (a0 a1 : AV) (h : AHeap) : Option (AV × AHeap) :=
bothK (newCells h [.int .i64 0, .int .i64 0, .str [], .int .i64 0] fun o => .ptr o 0) fun x0 h1 =>
bothK (E (.fn 76) [a0, a1] h1) fun x2 h3 =>
valK (abin tab .eql 3 x2 (.int .i64 0)) fun x4 =>
boolK x4 (
valK (abuild tab 35 []) fun x5 =>
hpK (storeA tab h3 35 x0 x5) fun h6 =>
valK (loadA tab h6 35 x0) fun x7 =>
some (.tuple [x7, (.bool false)], h6)) (
valK (nilA a0) fun x8 =>
valK (afieldAddr tab 86 x8 1) fun x9 =>
valK (loadA tab h3 83 x9) fun x10 =>
valK (abin tab .sub 3 a1 (.int .i64 1)) fun x11 =>
valK (aindexAddr tab 83 x10 x11) fun x12 =>
valK (loadA tab h3 35 x12) fun x13 =>
bothK (newCells h3 [.int .i64 0, .int .i64 0, .str [], .int .i64 0] fun o => .ptr o 0) fun x14 h15 =>
hpK (storeA tab h15 35 x14 x13) fun h16 =>
loopN (F49_b5 E n) n (a0, a1, x0, x14, (.int .i64 0), ()) [] h16)
theorem F49_eq (E : Env) (n : Nat) (a0 a1 : AV) (h : AHeap) : fnK E tab a49 49 n [a0, a1] h = F49 E n a0 a1 h := by kernel_rfl

/-- v: 0 t, 1 dir, 5 i -/
noncomputable def F50_b4 (E : Env) (n : Nat) (v : AV × AV × AV × Unit) (ms : List Nat) (h : AHeap) (next3_ : AV × AV × AV × Unit → List Nat → AHeap → Option (AV × AHeap)) : Option (AV × AHeap) :=
valK (nilA v.1) fun x4 =>
valK (afieldAddr tab 86 x4 2) fun x5 =>
valK (loadA tab h 84 x5) fun x6 =>
valK (alen tab h 84 x6) fun x7 =>
valK (abin tab .lss 3 v.2.2.1 x7) fun x8 =>
boolK x8 (
valK (nilA v.1) fun x9 =>
valK (afieldAddr tab 86 x9 2) fun x10 =>
valK (loadA tab h 84 x10) fun x11 =>
valK (aindexAddr tab 84 x11 v.2.2.1) fun x12 =>
valK (afieldAddr tab 98 x12 2) fun x13 =>
valK (loadA tab h 3 x13) fun x14 =>
valK (abin tab .eql 3 x14 v.2.1) fun x15 =>
boolK x15 (
valK (nilA v.1) fun x16 =>
valK (afieldAddr tab 86 x16 2) fun x17 =>
valK (loadA tab h 84 x17) fun x18 =>
valK (aindexAddr tab 84 x18 v.2.2.1) fun x19 =>
valK (afieldAddr tab 98 x19 0) fun x20 =>
valK (loadA tab h 3 x20) fun x21 =>
hpK (unmark h ms) fun h22 =>
some (x21, h22)) (
valK (abin tab .add 3 v.2.2.1 (.int .i64 1)) fun x23 =>
next3_ (v.1, v.2.1, x23, ()) ms h)) (
hpK (unmark h ms) fun h24 =>
some ((.int .i64 1), h24))
/-- (*whisk/whiskref07.Table).Up (t, dir) -/
noncomputable def F50 (E : Env) (n : Nat) (a0 a1 : AV) (h : AHeap) : Option (AV × AHeap) :=
bothK (E (.fn 76) [a0, a1] h) fun x0 h1 =>
valK (abin tab .neq 3 x0 (.int .i64 2)) fun x2 =>
boolK x2 (
some ((.int .i64 0), h1)) (
loopN (F50_b4 E n) n (a0, a1, (.int .i64 0), ()) [] h1)
theorem F50_eq (E : Env) (n : Nat) (a0 a1 : AV) (h : AHeap) : fnK E tab a50 50 n [a0, a1] h = F50 E n a0 a1 h := by kernel_rfl

/-- v: 0 a, 1 b, 5 i -/
noncomputable def F51_b4 (E : Env) (n : Nat) (v : AV × AV × AV × Unit) (ms : List Nat) (h : AHeap) (next3_ : AV × AV × AV × Unit → List Nat → AHeap → Option (AV × AHeap)) : Option (AV × AHeap) :=
valK (alen tab h 30 v.1) fun x4 =>
valK (abin tab .lss 3 v.2.2.1 x4) fun x5 =>
boolK x5 (
valK (aindexAddr tab 30 v.1 v.2.2.1) fun x6 =>
valK (loadA tab h 9 x6) fun x7 =>
valK (aindexAddr tab 30 v.2.1 v.2.2.1) fun x8 =>
valK (loadA tab h 9 x8) fun x9 =>
valK (abin tab .neq 9 x7 x9) fun x10 =>
boolK x10 (
hpK (unmark h ms) fun h11 =>
some ((.bool false), h11)) (
valK (abin tab .add 3 v.2.2.1 (.int .i64 1)) fun x12 =>
next3_ (v.1, v.2.1, x12, ()) ms h)) (
hpK (unmark h ms) fun h13 =>
some ((.bool true), h13))
/-- whisk/whiskref06.Texts (a, b) -/
noncomputable def F51 (E : Env) (n : Nat) (a0 a1 : AV) (h : AHeap) : Option (AV × AHeap) :=
valK (alen tab h 30 a0) fun x0 =>
valK (alen tab h 30 a1) fun x1 =>
valK (abin tab .neq 3 x0 x1) fun x2 =>
boolK x2 (
some ((.bool false), h)) (
loopN (F51_b4 E n) n (a0, a1, (.int .i64 0), ()) [] h)
theorem F51_eq (E : Env) (n : Nat) (a0 a1 : AV) (h : AHeap) : fnK E tab a51 51 n [a0, a1] h = F51 E n a0 a1 h := by kernel_rfl

/-- v: 0 t, 1 dir, 5 out, 6 i, 7 at -/
noncomputable def F52_b7 (E : Env) (n : Nat) (j14_ : AV × AV × AV × AV × AV × Unit → List Nat → AHeap → Option (AV × AHeap)) (v : AV × AV × AV × AV × AV × Unit) (ms : List Nat) (h : AHeap) (next35_ : AV × AV × AV × AV × AV × Unit → List Nat → AHeap → Option (AV × AHeap)) : Option (AV × AHeap) :=
valK (alen tab h 30 v.2.2.1) fun x36 =>
valK (abin tab .lss 3 v.2.2.2.2.1 x36) fun x37 =>
boolK x37 (
valK (aindexAddr tab 30 v.2.2.1 v.2.2.2.2.1) fun x38 =>
valK (loadA tab h 9 x38) fun x39 =>
valK (nilA v.1) fun x40 =>
valK (afieldAddr tab 86 x40 2) fun x41 =>
valK (loadA tab h 84 x41) fun x42 =>
valK (aindexAddr tab 84 x42 v.2.2.2.1) fun x43 =>
valK (afieldAddr tab 98 x43 1) fun x44 =>
valK (loadA tab h 9 x44) fun x45 =>
valK (abin tab .lss 9 x39 x45) fun x46 =>
boolK x46 (
valK (abin tab .add 3 v.2.2.2.2.1 (.int .i64 1)) fun x47 =>
next35_ (v.1, v.2.1, v.2.2.1, v.2.2.2.1, x47, ()) ms h) (
j14_ (v.1, v.2.1, v.2.2.1, v.2.2.2.1, v.2.2.2.2.1, ()) ms h)) (
j14_ (v.1, v.2.1, v.2.2.1, v.2.2.2.1, v.2.2.2.2.1, ()) ms h)
/-- v: 0 t, 1 dir, 5 out, 6 i -/
noncomputable def F52_b3 (E : Env) (n : Nat) (v : AV × AV × AV × AV × Unit) (ms : List Nat) (h : AHeap) (next0_ : AV × AV × AV × AV × Unit → List Nat → AHeap → Option (AV × AHeap)) : Option (AV × AHeap) :=
valK (nilA v.1) fun x1 =>
valK (afieldAddr tab 86 x1 2) fun x2 =>
valK (loadA tab h 84 x2) fun x3 =>
valK (alen tab h 84 x3) fun x4 =>
valK (abin tab .lss 3 v.2.2.2.1 x4) fun x5 =>
boolK x5 (
valK (nilA v.1) fun x6 =>
valK (afieldAddr tab 86 x6 2) fun x7 =>
valK (loadA tab h 84 x7) fun x8 =>
valK (aindexAddr tab 84 x8 v.2.2.2.1) fun x9 =>
valK (afieldAddr tab 98 x9 0) fun x10 =>
valK (loadA tab h 3 x10) fun x11 =>
valK (abin tab .neq 3 x11 v.2.1) fun x12 =>
boolK x12 (
valK (abin tab .add 3 v.2.2.2.1 (.int .i64 1)) fun x13 =>
next0_ (v.1, v.2.1, v.2.2.1, x13, ()) ms h) (
jn (fun (v15 : AV × AV × AV × AV × AV × Unit) ms16 h17 =>
valK (aslice tab 30 v15.2.2.1 none (some v15.2.2.2.2.1)) fun x18 =>
bothK (aappend tab h17 30 30 (.nilslice) x18) fun x19 h20 =>
valK (nilA v15.1) fun x21 =>
valK (afieldAddr tab 86 x21 2) fun x22 =>
valK (loadA tab h20 84 x22) fun x23 =>
valK (aindexAddr tab 84 x23 v15.2.2.2.1) fun x24 =>
valK (afieldAddr tab 98 x24 1) fun x25 =>
valK (loadA tab h20 9 x25) fun x26 =>
bothK (abuildSlice tab h20 30 1 [(0, x26)]) fun x27 h28 =>
bothK (aappend tab h28 30 30 x19 x27) fun x29 h30 =>
valK (aslice tab 30 v15.2.2.1 (some v15.2.2.2.2.1) none) fun x31 =>
bothK (aappend tab h30 30 30 x29 x31) fun x32 h33 =>
valK (abin tab .add 3 v15.2.2.2.1 (.int .i64 1)) fun x34 =>
next0_ (v15.1, v15.2.1, x32, x34, ()) ms16 h33) fun j14_ =>
loopN (F52_b7 E n j14_) n (v.1, v.2.1, v.2.2.1, v.2.2.2.1, (.int .i64 0), ()) ms h)) (
hpK (unmark h ms) fun h48 =>
some (v.2.2.1, h48))
/-- (*whisk/whiskref07.Table).Names (t, dir) -/
noncomputable def F52 (E : Env) (n : Nat) (a0 a1 : AV) (h : AHeap) : Option (AV × AHeap) :=
loopN (F52_b3 E n) n (a0, a1, (.nilslice), (.int .i64 0), ()) [] h
theorem F52_eq (E : Env) (n : Nat) (a0 a1 : AV) (h : AHeap) : fnK E tab a52 52 n [a0, a1] h = F52 E n a0 a1 h := by kernel_rfl

/-- v: 0 t, 2, 3 q, 4 i -/
noncomputable def F53_b3 (E : Env) (n : Nat) (v : AV × AV × AV × AV × Unit) (ms : List Nat) (h : AHeap) (next6_ : AV × AV × AV × AV × Unit → List Nat → AHeap → Option (AV × AHeap)) : Option (AV × AHeap) :=
valK (nilA v.1) fun x7 =>
valK (afieldAddr tab 86 x7 1) fun x8 =>
valK (loadA tab h 83 x8) fun x9 =>
valK (alen tab h 83 x9) fun x10 =>
valK (abin tab .lss 3 v.2.2.2.1 x10) fun x11 =>
boolK x11 (
valK (nilA v.1) fun x12 =>
valK (afieldAddr tab 86 x12 1) fun x13 =>
valK (loadA tab h 83 x13) fun x14 =>
valK (aindexAddr tab 83 x14 v.2.2.2.1) fun x15 =>
valK (afieldAddr tab 35 x15 0) fun x16 =>
valK (loadA tab h 3 x16) fun x17 =>
valK (abin tab .gtr 3 x17 (.int .i64 0)) fun x18 =>
boolK x18 (
valK (afieldAddr tab 26 v.2.2.1 0) fun x19 =>
valK (loadA tab h 3 x19) fun x20 =>
valK (abin tab .add 3 x20 (.int .i64 1)) fun x21 =>
valK (afieldAddr tab 26 v.2.2.1 0) fun x22 =>
hpK (storeA tab h 3 x22 x21) fun h23 =>
valK (afieldAddr tab 26 v.2.2.1 1) fun x24 =>
valK (loadA tab h23 3 x24) fun x25 =>
valK (nilA v.1) fun x26 =>
valK (afieldAddr tab 86 x26 1) fun x27 =>
valK (loadA tab h23 83 x27) fun x28 =>
valK (aindexAddr tab 83 x28 v.2.2.2.1) fun x29 =>
valK (afieldAddr tab 35 x29 2) fun x30 =>
valK (loadA tab h23 9 x30) fun x31 =>
valK (alen tab h23 9 x31) fun x32 =>
valK (abin tab .add 3 x25 x32) fun x33 =>
valK (afieldAddr tab 26 v.2.2.1 1) fun x34 =>
hpK (storeA tab h23 3 x34 x33) fun h35 =>
valK (abin tab .add 3 v.2.2.2.1 (.int .i64 1)) fun x36 =>
next6_ (v.1, v.2.1, v.2.2.1, x36, ()) ms h35) (
valK (abin tab .add 3 v.2.2.2.1 (.int .i64 1)) fun x37 =>
next6_ (v.1, v.2.1, v.2.2.1, x37, ()) ms h)) (
valK (loadA tab h 26 v.2.2.1) fun x38 =>
hpK (storeA tab h 26 v.2.1 x38) fun h39 =>
hpK (unmark h39 ms) fun h40 =>
valK (loadA tab h40 26 v.2.1) fun x41 =>
some (x41, h40))
/-- (*whisk/whiskref07.Table).Used (t) -/
noncomputable def F53 (E : Env) (n : Nat) (a0 : AV) (h : AHeap) : Option (AV × AHeap) :=
bothK (newCells h [.int .i64 0, .int .i64 0] fun o => .ptr o 0) fun x0 h1 =>
valK (abuild tab 26 []) fun x2 =>
bothK (newCells h1 [.int .i64 0, .int .i64 0] fun o => .ptr o 0) fun x3 h4 =>
hpK (storeA tab h4 26 x3 x2) fun h5 =>
loopN (F53_b3 E n) n (a0, x0, x3, (.int .i64 0), ()) [] h5
theorem F53_eq (E : Env) (n : Nat) (a0 : AV) (h : AHeap) : fnK E tab a53 53 n [a0] h = F53 E n a0 h := by kernel_rfl

/-- (*whisk/inode.Table).Quota (t) -/
noncomputable def F54 (E : Env) (n : Nat) (a0 : AV) (h : AHeap) : Option (AV × AHeap) :=
bothK (newCells h [.int .i64 0, .int .i64 0] fun o => .ptr o 0) fun x0 h1 =>
valK (abin tab .eql 23 a0 (.nilptr)) fun x2 =>
boolK x2 (
valK (abuild tab 26 []) fun x3 =>
hpK (storeA tab h1 26 x0 x3) fun h4 =>
valK (loadA tab h4 26 x0) fun x5 =>
some (x5, h4)) (
valK (nilA a0) fun x6 =>
valK (afieldAddr tab 68 x6 0) fun x7 =>
valK (loadA tab h1 26 x7) fun x8 =>
hpK (storeA tab h1 26 x0 x8) fun h9 =>
valK (loadA tab h9 26 x0) fun x10 =>
some (x10, h9))
theorem F54_eq (E : Env) (n : Nat) (a0 : AV) (h : AHeap) : fnK E tab a54 54 n [a0] h = F54 E n a0 h := by kernel_rfl

/-- (*whisk/inode.Table).Root (t) -/
noncomputable def F55 (E : Env) (n : Nat) (a0 : AV) (h : AHeap) : Option (AV × AHeap) :=
valK (abin tab .eql 23 a0 (.nilptr)) fun x0 =>
boolK x0 (
some ((.int .i64 0), h)) (
some ((.int .i64 1), h))
theorem F55_eq (E : Env) (n : Nat) (a0 : AV) (h : AHeap) : fnK E tab a55 55 n [a0] h = F55 E n a0 h := by kernel_rfl

/-- (*whisk/inode.Table).dir$1 (, ) -/
noncomputable def F57 (E : Env) (n : Nat) (a0 a1 : AV) (h : AHeap) : Option (AV × AHeap) :=
valK (loadA tab h 23 a0) fun x0 =>
valK (loadA tab h 3 a1) fun x1 =>
bothK (E (.fn 35) [x0, x1] h) fun x2 h3 =>
valK (abin tab .eql 62 x2 (.nilptr)) fun x4 =>
boolK x4 (
some ((.int .i64 5), h3)) (
valK (nilA x2) fun x5 =>
valK (afieldAddr tab 65 x5 0) fun x6 =>
valK (afieldAddr tab 35 x6 0) fun x7 =>
valK (loadA tab h3 3 x7) fun x8 =>
valK (abin tab .eql 3 x8 (.int .i64 2)) fun x9 =>
bothK (E (.fn 25) [x9, (.int .i64 8)] h3) fun x10 h11 =>
some (x10, h11))
theorem F57_eq (E : Env) (n : Nat) (a0 a1 : AV) (h : AHeap) : fnK E tab a57 57 n [a0, a1] h = F57 E n a0 a1 h := by kernel_rfl

/-- whisk/inode.named$1 () -/
noncomputable def F58 (E : Env) (n : Nat) (a0 : AV) (h : AHeap) : Option (AV × AHeap) :=
valK (loadA tab h 9 a0) fun x0 =>
valK (alen tab h 9 x0) fun x1 =>
valK (abin tab .gtr 3 x1 (.int .i64 56)) fun x2 =>
boolK x2 (
some ((.int .i64 3), h)) (
valK (loadA tab h 9 a0) fun x3 =>
valK (abin tab .neq 9 x3 (.str [])) fun x4 =>
boolK x4 (
valK (loadA tab h 9 a0) fun x5 =>
valK (abin tab .neq 9 x5 (.str [46])) fun x6 =>
boolK x6 (
valK (loadA tab h 9 a0) fun x7 =>
valK (abin tab .neq 9 x7 (.str [46, 46])) fun x8 =>
boolK x8 (
valK (loadA tab h 9 a0) fun x9 =>
bothK (E (.fn 59) [x9, (.str [47, 0])] h) fun x10 h11 =>
valK (aun .not x10) fun x12 =>
bothK (E (.fn 25) [x12, (.int .i64 2)] h11) fun x13 h14 =>
some (x13, h14)) (
bothK (E (.fn 25) [(.bool false), (.int .i64 2)] h) fun x15 h16 =>
some (x15, h16))) (
bothK (E (.fn 25) [(.bool false), (.int .i64 2)] h) fun x17 h18 =>
some (x17, h18))) (
bothK (E (.fn 25) [(.bool false), (.int .i64 2)] h) fun x19 h20 =>
some (x19, h20)))
theorem F58_eq (E : Env) (n : Nat) (a0 : AV) (h : AHeap) : fnK E tab a58 58 n [a0] h = F58 E n a0 h := by kernel_rfl

/-- (*whisk/inode.Table).free$1 (, , ) -/
noncomputable def F60 (E : Env) (n : Nat) (a0 a1 a2 : AV) (h : AHeap) : Option (AV × AHeap) :=
valK (loadA tab h 23 a0) fun x0 =>
valK (loadA tab h 3 a1) fun x1 =>
valK (loadA tab h 9 a2) fun x2 =>
bothK (E (.fn 13) [x0, x1, x2] h) fun x3 h4 =>
valK (extractA x3 0) fun x5 =>
valK (extractA x3 1) fun x6 =>
valK (aun .not x6) fun x7 =>
bothK (E (.fn 25) [x7, (.int .i64 6)] h4) fun x8 h9 =>
some (x8, h9)
theorem F60_eq (E : Env) (n : Nat) (a0 a1 a2 : AV) (h : AHeap) : fnK E tab a60 60 n [a0, a1, a2] h = F60 E n a0 a1 a2 h := by kernel_rfl

/-- (*whisk/inode.Table).room$1 (, , ) -/
noncomputable def F61 (E : Env) (n : Nat) (a0 a1 a2 : AV) (h : AHeap) : Option (AV × AHeap) :=
valK (loadA tab h 23 a0) fun x0 =>
valK (nilA x0) fun x1 =>
valK (afieldAddr tab 68 x1 1) fun x2 =>
valK (afieldAddr tab 26 x2 0) fun x3 =>
valK (loadA tab h 3 x3) fun x4 =>
valK (loadA tab h 3 a1) fun x5 =>
valK (abin tab .add 3 x4 x5) fun x6 =>
valK (loadA tab h 23 a0) fun x7 =>
valK (nilA x7) fun x8 =>
valK (afieldAddr tab 68 x8 0) fun x9 =>
valK (afieldAddr tab 26 x9 0) fun x10 =>
valK (loadA tab h 3 x10) fun x11 =>
valK (abin tab .leq 3 x6 x11) fun x12 =>
boolK x12 (
valK (loadA tab h 23 a0) fun x13 =>
valK (nilA x13) fun x14 =>
valK (afieldAddr tab 68 x14 1) fun x15 =>
valK (afieldAddr tab 26 x15 1) fun x16 =>
valK (loadA tab h 3 x16) fun x17 =>
valK (loadA tab h 3 a2) fun x18 =>
valK (abin tab .add 3 x17 x18) fun x19 =>
valK (loadA tab h 23 a0) fun x20 =>
valK (nilA x20) fun x21 =>
valK (afieldAddr tab 68 x21 0) fun x22 =>
valK (afieldAddr tab 26 x22 1) fun x23 =>
valK (loadA tab h 3 x23) fun x24 =>
valK (abin tab .leq 3 x19 x24) fun x25 =>
bothK (E (.fn 25) [x25, (.int .i64 10)] h) fun x26 h27 =>
some (x26, h27)) (
bothK (E (.fn 25) [(.bool false), (.int .i64 10)] h) fun x28 h29 =>
some (x28, h29))
theorem F61_eq (E : Env) (n : Nat) (a0 a1 a2 : AV) (h : AHeap) : fnK E tab a61 61 n [a0, a1, a2] h = F61 E n a0 a1 a2 h := by kernel_rfl

/-- (*whisk/inode.Table).file$1 (, ) -/
noncomputable def F62 (E : Env) (n : Nat) (a0 a1 : AV) (h : AHeap) : Option (AV × AHeap) :=
valK (loadA tab h 23 a0) fun x0 =>
valK (loadA tab h 3 a1) fun x1 =>
bothK (E (.fn 35) [x0, x1] h) fun x2 h3 =>
valK (abin tab .eql 62 x2 (.nilptr)) fun x4 =>
boolK x4 (
some ((.int .i64 5), h3)) (
valK (nilA x2) fun x5 =>
valK (afieldAddr tab 65 x5 0) fun x6 =>
valK (afieldAddr tab 35 x6 0) fun x7 =>
valK (loadA tab h3 3 x7) fun x8 =>
valK (abin tab .eql 3 x8 (.int .i64 2)) fun x9 =>
boolK x9 (
some ((.int .i64 7), h3)) (
valK (nilA x2) fun x10 =>
valK (afieldAddr tab 65 x10 0) fun x11 =>
valK (afieldAddr tab 35 x11 0) fun x12 =>
valK (loadA tab h3 3 x12) fun x13 =>
valK (abin tab .eql 3 x13 (.int .i64 1)) fun x14 =>
bothK (E (.fn 25) [x14, (.int .i64 2)] h3) fun x15 h16 =>
some (x15, h16)))
theorem F62_eq (E : Env) (n : Nat) (a0 a1 : AV) (h : AHeap) : fnK E tab a62 62 n [a0, a1] h = F62 E n a0 a1 h := by kernel_rfl

/-- (*whisk/inode.Table).entry$1 (, , ) -/
noncomputable def F63 (E : Env) (n : Nat) (a0 a1 a2 : AV) (h : AHeap) : Option (AV × AHeap) :=
valK (loadA tab h 23 a0) fun x0 =>
valK (loadA tab h 3 a1) fun x1 =>
valK (loadA tab h 9 a2) fun x2 =>
bothK (E (.fn 13) [x0, x1, x2] h) fun x3 h4 =>
valK (extractA x3 0) fun x5 =>
valK (extractA x3 1) fun x6 =>
bothK (E (.fn 25) [x6, (.int .i64 5)] h4) fun x7 h8 =>
some (x7, h8)
theorem F63_eq (E : Env) (n : Nat) (a0 a1 a2 : AV) (h : AHeap) : fnK E tab a63 63 n [a0, a1, a2] h = F63 E n a0 a1 a2 h := by kernel_rfl

/-- (*whisk/whiskref07.Table).place (t, dir, name) -/
noncomputable def F67 (E : Env) (n : Nat) (a0 a1 a2 : AV) (h : AHeap) : Option (AV × AHeap) :=
bothK (E (.fn 72) [a0, a1] h) fun x0 h1 =>
valK (abin tab .neq 27 x0 (.int .i64 0)) fun x2 =>
boolK x2 (
some (x0, h1)) (
valK (alen tab h1 9 a2) fun x3 =>
valK (abin tab .gtr 3 x3 (.int .i64 56)) fun x4 =>
boolK x4 (
some ((.int .i64 3), h1)) (
valK (abin tab .eql 9 a2 (.str [])) fun x5 =>
boolK x5 (
some ((.int .i64 2), h1)) (
valK (abin tab .eql 9 a2 (.str [46])) fun x6 =>
boolK x6 (
some ((.int .i64 2), h1)) (
valK (abin tab .eql 9 a2 (.str [46, 46])) fun x7 =>
boolK x7 (
some ((.int .i64 2), h1)) (
bothK (E (.fn 68) [a2, (.int .u8 47)] h1) fun x8 h9 =>
boolK x8 (
some ((.int .i64 2), h9)) (
bothK (E (.fn 68) [a2, (.int .u8 0)] h9) fun x10 h11 =>
boolK x10 (
some ((.int .i64 2), h11)) (
some ((.int .i64 0), h11))))))))
theorem F67_eq (E : Env) (n : Nat) (a0 a1 a2 : AV) (h : AHeap) : fnK E tab a67 67 n [a0, a1, a2] h = F67 E n a0 a1 a2 h := by kernel_rfl

/-- v: 0 s, 1 c, 5 i -/
noncomputable def F68_b2 (E : Env) (n : Nat) (v : AV × AV × AV × Unit) (ms : List Nat) (h : AHeap) (next0_ : AV × AV × AV × Unit → List Nat → AHeap → Option (AV × AHeap)) : Option (AV × AHeap) :=
valK (alen tab h 9 v.1) fun x1 =>
valK (abin tab .lss 3 v.2.2.1 x1) fun x2 =>
boolK x2 (
valK (aindex tab 9 v.1 v.2.2.1) fun x3 =>
valK (abin tab .eql 5 x3 v.2.1) fun x4 =>
boolK x4 (
hpK (unmark h ms) fun h5 =>
some ((.bool true), h5)) (
valK (abin tab .add 3 v.2.2.1 (.int .i64 1)) fun x6 =>
next0_ (v.1, v.2.1, x6, ()) ms h)) (
hpK (unmark h ms) fun h7 =>
some ((.bool false), h7))
/-- whisk/whiskref07.has (s, c) -/
noncomputable def F68 (E : Env) (n : Nat) (a0 a1 : AV) (h : AHeap) : Option (AV × AHeap) :=
loopN (F68_b2 E n) n (a0, a1, (.int .i64 0), ()) [] h
theorem F68_eq (E : Env) (n : Nat) (a0 a1 : AV) (h : AHeap) : fnK E tab a68 68 n [a0, a1] h = F68 E n a0 a1 h := by kernel_rfl

/-- v: 0 t, 1 dir, 2 name, 7 i -/
noncomputable def F69_b2 (E : Env) (n : Nat) (v : AV × AV × AV × AV × Unit) (ms : List Nat) (h : AHeap) (next0_ : AV × AV × AV × AV × Unit → List Nat → AHeap → Option (AV × AHeap)) : Option (AV × AHeap) :=
valK (nilA v.1) fun x1 =>
valK (afieldAddr tab 86 x1 2) fun x2 =>
valK (loadA tab h 84 x2) fun x3 =>
valK (alen tab h 84 x3) fun x4 =>
valK (abin tab .lss 3 v.2.2.2.1 x4) fun x5 =>
boolK x5 (
valK (nilA v.1) fun x6 =>
valK (afieldAddr tab 86 x6 2) fun x7 =>
valK (loadA tab h 84 x7) fun x8 =>
valK (aindexAddr tab 84 x8 v.2.2.2.1) fun x9 =>
valK (afieldAddr tab 98 x9 0) fun x10 =>
valK (loadA tab h 3 x10) fun x11 =>
valK (abin tab .eql 3 x11 v.2.1) fun x12 =>
boolK x12 (
valK (nilA v.1) fun x13 =>
valK (afieldAddr tab 86 x13 2) fun x14 =>
valK (loadA tab h 84 x14) fun x15 =>
valK (aindexAddr tab 84 x15 v.2.2.2.1) fun x16 =>
valK (afieldAddr tab 98 x16 1) fun x17 =>
valK (loadA tab h 9 x17) fun x18 =>
valK (abin tab .eql 9 x18 v.2.2.1) fun x19 =>
boolK x19 (
hpK (unmark h ms) fun h20 =>
some (v.2.2.2.1, h20)) (
valK (abin tab .add 3 v.2.2.2.1 (.int .i64 1)) fun x21 =>
next0_ (v.1, v.2.1, v.2.2.1, x21, ()) ms h)) (
valK (abin tab .add 3 v.2.2.2.1 (.int .i64 1)) fun x22 =>
next0_ (v.1, v.2.1, v.2.2.1, x22, ()) ms h)) (
hpK (unmark h ms) fun h23 =>
some ((.int .i64 (-1)), h23))
/-- (*whisk/whiskref07.Table).find (t, dir, name) -/
noncomputable def F69 (E : Env) (n : Nat) (a0 a1 a2 : AV) (h : AHeap) : Option (AV × AHeap) :=
loopN (F69_b2 E n) n (a0, a1, a2, (.int .i64 0), ()) [] h
theorem F69_eq (E : Env) (n : Nat) (a0 a1 a2 : AV) (h : AHeap) : fnK E tab a69 69 n [a0, a1, a2] h = F69 E n a0 a1 a2 h := by kernel_rfl

/-- (*whisk/whiskref07.Table).room (t, inodes, bytes) -/
noncomputable def F70 (E : Env) (n : Nat) (a0 a1 a2 : AV) (h : AHeap) : Option (AV × AHeap) :=
bothK (E (.fn 53) [a0] h) fun x0 h1 =>
bothK (newCells h1 [.int .i64 0, .int .i64 0] fun o => .ptr o 0) fun x2 h3 =>
hpK (storeA tab h3 26 x2 x0) fun h4 =>
valK (afieldAddr tab 26 x2 0) fun x5 =>
valK (loadA tab h4 3 x5) fun x6 =>
valK (abin tab .add 3 x6 a1) fun x7 =>
valK (nilA a0) fun x8 =>
valK (afieldAddr tab 86 x8 0) fun x9 =>
valK (afieldAddr tab 26 x9 0) fun x10 =>
valK (loadA tab h4 3 x10) fun x11 =>
valK (abin tab .leq 3 x7 x11) fun x12 =>
boolK x12 (
valK (afieldAddr tab 26 x2 1) fun x13 =>
valK (loadA tab h4 3 x13) fun x14 =>
valK (abin tab .add 3 x14 a2) fun x15 =>
valK (nilA a0) fun x16 =>
valK (afieldAddr tab 86 x16 0) fun x17 =>
valK (afieldAddr tab 26 x17 1) fun x18 =>
valK (loadA tab h4 3 x18) fun x19 =>
valK (abin tab .leq 3 x15 x19) fun x20 =>
some (x20, h4)) (
some ((.bool false), h4))
theorem F70_eq (E : Env) (n : Nat) (a0 a1 a2 : AV) (h : AHeap) : fnK E tab a70 70 n [a0, a1, a2] h = F70 E n a0 a1 a2 h := by kernel_rfl

/-- (*whisk/whiskref07.Table).file (t, ino) -/
noncomputable def F71 (E : Env) (n : Nat) (a0 a1 : AV) (h : AHeap) : Option (AV × AHeap) :=
bothK (E (.fn 76) [a0, a1] h) fun x0 h1 =>
valK (abin tab .eql 3 x0 (.int .i64 0)) fun x2 =>
boolK x2 (
some ((.int .i64 5), h1)) (
valK (abin tab .eql 3 x0 (.int .i64 2)) fun x3 =>
boolK x3 (
some ((.int .i64 7), h1)) (
valK (abin tab .eql 3 x0 (.int .i64 3)) fun x4 =>
boolK x4 (
some ((.int .i64 2), h1)) (
some ((.int .i64 0), h1))))
theorem F71_eq (E : Env) (n : Nat) (a0 a1 : AV) (h : AHeap) : fnK E tab a71 71 n [a0, a1] h = F71 E n a0 a1 h := by kernel_rfl

/-- (*whisk/whiskref07.Table).dir (t, ino) -/
noncomputable def F72 (E : Env) (n : Nat) (a0 a1 : AV) (h : AHeap) : Option (AV × AHeap) :=
bothK (E (.fn 76) [a0, a1] h) fun x0 h1 =>
valK (abin tab .eql 3 x0 (.int .i64 0)) fun x2 =>
boolK x2 (
some ((.int .i64 5), h1)) (
bothK (E (.fn 76) [a0, a1] h1) fun x3 h4 =>
valK (abin tab .neq 3 x3 (.int .i64 2)) fun x5 =>
boolK x5 (
some ((.int .i64 8), h4)) (
some ((.int .i64 0), h4)))
theorem F72_eq (E : Env) (n : Nat) (a0 a1 : AV) (h : AHeap) : fnK E tab a72 72 n [a0, a1] h = F72 E n a0 a1 h := by kernel_rfl

/-- (*whisk/whiskref07.Table).drop (t, i) -/
noncomputable def F73 (E : Env) (n : Nat) (a0 a1 : AV) (h : AHeap) : Option (AV × AHeap) :=
valK (nilA a0) fun x0 =>
valK (afieldAddr tab 86 x0 2) fun x1 =>
valK (loadA tab h 84 x1) fun x2 =>
valK (aslice tab 84 x2 none (some a1)) fun x3 =>
bothK (aappend tab h 84 84 (.nilslice) x3) fun x4 h5 =>
valK (nilA a0) fun x6 =>
valK (afieldAddr tab 86 x6 2) fun x7 =>
valK (loadA tab h5 84 x7) fun x8 =>
valK (abin tab .add 3 a1 (.int .i64 1)) fun x9 =>
valK (aslice tab 84 x8 (some x9) none) fun x10 =>
bothK (aappend tab h5 84 84 x4 x10) fun x11 h12 =>
valK (nilA a0) fun x13 =>
valK (afieldAddr tab 86 x13 2) fun x14 =>
hpK (storeA tab h12 84 x14 x11) fun h15 =>
some (.tuple [], h15)
theorem F73_eq (E : Env) (n : Nat) (a0 a1 : AV) (h : AHeap) : fnK E tab a73 73 n [a0, a1] h = F73 E n a0 a1 h := by kernel_rfl

/-- (*whisk/inode.Table).Chmod$1 () -/
noncomputable def F74 (E : Env) (n : Nat) (a0 : AV) (h : AHeap) : Option (AV × AHeap) :=
valK (loadA tab h 3 a0) fun x0 =>
valK (abin tab .geq 3 x0 (.int .i64 0)) fun x1 =>
boolK x1 (
valK (loadA tab h 3 a0) fun x2 =>
valK (abin tab .leq 3 x2 (.int .i64 511)) fun x3 =>
bothK (E (.fn 25) [x3, (.int .i64 2)] h) fun x4 h5 =>
some (x4, h5)) (
bothK (E (.fn 25) [(.bool false), (.int .i64 2)] h) fun x6 h7 =>
some (x6, h7))
theorem F74_eq (E : Env) (n : Nat) (a0 : AV) (h : AHeap) : fnK E tab a74 74 n [a0] h = F74 E n a0 h := by kernel_rfl

/-- (*whisk/inode.Table).Chmod$2 (, ) -/
noncomputable def F75 (E : Env) (n : Nat) (a0 a1 : AV) (h : AHeap) : Option (AV × AHeap) :=
valK (loadA tab h 23 a0) fun x0 =>
valK (loadA tab h 3 a1) fun x1 =>
bothK (E (.fn 35) [x0, x1] h) fun x2 h3 =>
valK (abin tab .neq 62 x2 (.nilptr)) fun x4 =>
bothK (E (.fn 25) [x4, (.int .i64 5)] h3) fun x5 h6 =>
some (x5, h6)
theorem F75_eq (E : Env) (n : Nat) (a0 a1 : AV) (h : AHeap) : fnK E tab a75 75 n [a0, a1] h = F75 E n a0 a1 h := by kernel_rfl

/-- (*whisk/whiskref07.Table).kind (t, ino) -/
noncomputable def F76 (E : Env) (n : Nat) (a0 a1 : AV) (h : AHeap) : Option (AV × AHeap) :=
valK (abin tab .lss 3 a1 (.int .i64 1)) fun x0 =>
boolK x0 (
some ((.int .i64 0), h)) (
valK (nilA a0) fun x1 =>
valK (afieldAddr tab 86 x1 1) fun x2 =>
valK (loadA tab h 83 x2) fun x3 =>
valK (alen tab h 83 x3) fun x4 =>
valK (abin tab .gtr 3 a1 x4) fun x5 =>
boolK x5 (
some ((.int .i64 0), h)) (
valK (nilA a0) fun x6 =>
valK (afieldAddr tab 86 x6 1) fun x7 =>
valK (loadA tab h 83 x7) fun x8 =>
valK (abin tab .sub 3 a1 (.int .i64 1)) fun x9 =>
valK (aindexAddr tab 83 x8 x9) fun x10 =>
valK (afieldAddr tab 35 x10 0) fun x11 =>
valK (loadA tab h 3 x11) fun x12 =>
some (x12, h)))
theorem F76_eq (E : Env) (n : Nat) (a0 a1 : AV) (h : AHeap) : fnK E tab a76 76 n [a0, a1] h = F76 E n a0 a1 h := by kernel_rfl


end Go.Am
