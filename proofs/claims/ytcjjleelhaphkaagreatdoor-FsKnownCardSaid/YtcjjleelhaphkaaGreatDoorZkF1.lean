/-
  The seat's functions, in plain text: printed by wip/tools/Pretty.lean.
-/
import Derived.Test.YtcjjleelhaphkaaGreatDoorK1
import Derived.Test.YtcjjleelhaphkaaGreatDoorZkD1
set_option maxRecDepth 100000
set_option linter.unusedVariables false
set_option linter.unusedSimpArgs false
namespace Go.Am
open Go

/-- v: 1 f, 10 ok, 16 j, 18 k, 19 long, 20 at, 21 x -/
noncomputable def F3_b22 (E : Env) (n : Nat) (v : AV × AV × AV × AV × AV × AV × AV × Unit) (ms : List Nat) (h : AHeap) (next75_ : AV × AV × AV × AV × AV × AV × AV × Unit → List Nat → AHeap → Option (AV × AHeap)) : Option (AV × AHeap) :=
valK (abin tab .lss 3 v.2.2.2.2.2.2.1 (.int .i64 9)) fun x76 =>
boolK x76 (
valK (abin tab .add 9 v.2.2.2.2.2.1 v.2.2.2.2.1) fun x77 =>
boolK v.2.1 (
bothK (E (.fn 9) [v.1, (.str [47]), x77] h) fun x78 h79 =>
valK (abin tab .eql 26 x78 (.int .i64 0)) fun x80 =>
valK (abin tab .add 3 v.2.2.2.2.2.2.1 (.int .i64 1)) fun x81 =>
next75_ (v.1, x80, v.2.2.1, v.2.2.2.1, v.2.2.2.2.1, x77, x81, ()) ms h79) (
valK (abin tab .add 3 v.2.2.2.2.2.2.1 (.int .i64 1)) fun x82 =>
next75_ (v.1, (.bool false), v.2.2.1, v.2.2.2.1, v.2.2.2.2.1, x77, x82, ()) ms h)) (
jn (fun (v84 : AV × AV × AV × AV × AV × Unit) (ms85 : List Nat) (h86 : AHeap) =>
bothK (E (.fn 10) [v84.1, v84.2.2.2.2.1] h86) fun x87 h88 =>
valK (extractA x87 0) fun x89 =>
valK (extractA x87 1) fun x90 =>
bothK (newCells h88 [.str [], .int .i64 0, .bool false, .str [], .nilslice] fun o => .ptr o 0) fun x91 h92 =>
hpK (storeA tab h92 32 x91 x89) fun h93 =>
bothK (E (.fn 10) [(.nilptr), (.str [47])] h93) fun x94 h95 =>
valK (extractA x94 0) fun x96 =>
valK (extractA x94 1) fun x97 =>
bothK (newCells h95 [.str [], .int .i64 0, .bool false, .str [], .nilslice] fun o => .ptr o 0) fun x98 h99 =>
hpK (storeA tab h99 32 x98 x96) fun h100 =>
bothK (E (.fn 10) [v84.1, (.str [])] h100) fun x101 h102 =>
valK (extractA x101 0) fun x103 =>
valK (extractA x101 1) fun x104 =>
bothK (newCells h102 [.str [], .int .i64 0, .bool false, .str [], .nilslice] fun o => .ptr o 0) fun x105 h106 =>
hpK (storeA tab h106 32 x105 x103) fun h107 =>
bothK (E (.fn 15) [] h107) fun x108 h109 =>
boolK x108 (
boolK v84.2.1 (
valK (abin tab .eql 26 v84.2.2.1 (.int .i64 3)) fun x110 =>
boolK x110 (
valK (abin tab .eql 26 v84.2.2.2.1 (.int .i64 0)) fun x111 =>
boolK x111 (
valK (abin tab .eql 26 x90 (.int .i64 0)) fun x112 =>
boolK x112 (
valK (abin tab .eql 26 x97 (.int .i64 1)) fun x113 =>
boolK x113 (
valK (abin tab .eql 26 x104 (.int .i64 5)) fun x114 =>
hpK (unmark h109 ms85) fun h115 =>
some (x114, h115)) (
hpK (unmark h109 ms85) fun h116 =>
some ((.bool false), h116))) (
hpK (unmark h109 ms85) fun h117 =>
some ((.bool false), h117))) (
hpK (unmark h109 ms85) fun h118 =>
some ((.bool false), h118))) (
hpK (unmark h109 ms85) fun h119 =>
some ((.bool false), h119))) (
hpK (unmark h109 ms85) fun h120 =>
some ((.bool false), h120))) (
hpK (unmark h109 ms85) fun h121 =>
some ((.bool false), h121))) fun j83_ =>
boolK v.2.1 (
bothK (E (.fn 14) [(.str [109]), (.int .i64 24)] h) fun x122 h123 =>
bothK (E (.fn 9) [v.1, v.2.2.2.2.2.1, x122] h123) fun x124 h125 =>
valK (abin tab .eql 26 x124 (.int .i64 0)) fun x126 =>
boolK x126 (
valK (abin tab .add 9 v.2.2.2.2.2.1 (.str [47])) fun x127 =>
bothK (E (.fn 14) [(.str [109]), (.int .i64 24)] h125) fun x128 h129 =>
valK (abin tab .add 9 x127 x128) fun x130 =>
bothK (E (.fn 9) [v.1, x130, (.str [122])] h129) fun x131 h132 =>
valK (abin tab .eql 26 x131 (.int .i64 0)) fun x133 =>
j83_ (v.1, x133, v.2.2.1, v.2.2.2.1, v.2.2.2.2.1, ()) ms h132) (
j83_ (v.1, (.bool false), v.2.2.1, v.2.2.2.1, v.2.2.2.2.1, ()) ms h125)) (
j83_ (v.1, (.bool false), v.2.2.1, v.2.2.2.1, v.2.2.2.2.1, ()) ms h))
/-- v: 1 f, 10 ok, 11 path, 12 i -/
noncomputable def F3_b11 (E : Env) (n : Nat) (v : AV × AV × AV × AV × Unit) (ms : List Nat) (h : AHeap) (next39_ : AV × AV × AV × AV × Unit → List Nat → AHeap → Option (AV × AHeap)) : Option (AV × AHeap) :=
valK (abin tab .lss 3 v.2.2.2.1 (.int .i64 11)) fun x40 =>
boolK x40 (
valK (abin tab .add 9 v.2.2.1 (.str [47, 100])) fun x41 =>
boolK v.2.1 (
bothK (E (.fn 9) [v.1, (.str [47]), x41] h) fun x42 h43 =>
valK (abin tab .eql 26 x42 (.int .i64 0)) fun x44 =>
valK (abin tab .add 3 v.2.2.2.1 (.int .i64 1)) fun x45 =>
next39_ (v.1, x44, x41, x45, ()) ms h43) (
valK (abin tab .add 3 v.2.2.2.1 (.int .i64 1)) fun x46 =>
next39_ (v.1, (.bool false), x41, x46, ()) ms h)) (
bothK (E (.fn 10) [v.1, (.str [47])] h) fun x47 h48 =>
valK (extractA x47 0) fun x49 =>
valK (extractA x47 1) fun x50 =>
bothK (newCells h48 [.str [], .int .i64 0, .bool false, .str [], .nilslice] fun o => .ptr o 0) fun x51 h52 =>
hpK (storeA tab h52 32 x51 x49) fun h53 =>
jn (fun (v55 : AV × AV × Unit) (ms56 : List Nat) (h57 : AHeap) =>
bothK (E (.fn 10) [v55.1, (.str [47])] h57) fun x58 h59 =>
valK (extractA x58 0) fun x60 =>
valK (extractA x58 1) fun x61 =>
bothK (newCells h59 [.str [], .int .i64 0, .bool false, .str [], .nilslice] fun o => .ptr o 0) fun x62 h63 =>
hpK (storeA tab h63 32 x62 x60) fun h64 =>
bothK (E (.fn 10) [v55.1, (.str [47, 100])] h64) fun x65 h66 =>
valK (extractA x65 0) fun x67 =>
valK (extractA x65 1) fun x68 =>
bothK (newCells h66 [.str [], .int .i64 0, .bool false, .str [], .nilslice] fun o => .ptr o 0) fun x69 h70 =>
hpK (storeA tab h70 32 x69 x67) fun h71 =>
bothK (E (.fn 14) [(.str [110]), (.int .i64 24)] h71) fun x72 h73 =>
valK (abin tab .add 9 (.str [47]) x72) fun x74 =>
loopN (F3_b22 E n) n (v55.1, v55.2.1, x61, x68, x74, (.str []), (.int .i64 0), ()) ms56 h73) fun j54_ =>
boolK v.2.1 (
valK (abin tab .eql 26 x50 (.int .i64 0)) fun x134 =>
boolK x134 (
valK (abin tab .add 9 v.2.2.1 (.str [47, 102])) fun x135 =>
bothK (E (.fn 7) [v.1, (.str [47]), x135, (.str [120]), (.bool false)] h53) fun x136 h137 =>
valK (abin tab .eql 26 x136 (.int .i64 0)) fun x138 =>
j54_ (v.1, x138, ()) ms h137) (
j54_ (v.1, (.bool false), ()) ms h53)) (
j54_ (v.1, (.bool false), ()) ms h53))
/-- whisk/whisklaw10.CanonKnown () -/
noncomputable def F3 (E : Env) (n : Nat) (h : AHeap) : Option (AV × AHeap) :=
valK (abuild tab 25 [(0, (.int .i64 60)), (1, (.int .i64 2000))]) fun x0 =>
bothK (E (.fn 6) [x0] h) fun x1 h2 =>
jn (fun (v4 : AV × Unit) (ms5 : List Nat) (h6 : AHeap) =>
bothK (E (.fn 10) [v4.1, (.str [47, 102])] h6) fun x7 h8 =>
valK (extractA x7 0) fun x9 =>
valK (extractA x7 1) fun x10 =>
bothK (newCells h8 [.str [], .int .i64 0, .bool false, .str [], .nilslice] fun o => .ptr o 0) fun x11 h12 =>
hpK (storeA tab h12 32 x11 x9) fun h13 =>
bothK (E (.fn 10) [v4.1, (.str [47, 108])] h13) fun x14 h15 =>
valK (extractA x14 0) fun x16 =>
valK (extractA x14 1) fun x17 =>
bothK (newCells h15 [.str [], .int .i64 0, .bool false, .str [], .nilslice] fun o => .ptr o 0) fun x18 h19 =>
hpK (storeA tab h19 32 x18 x16) fun h20 =>
bothK (E (.fn 10) [v4.1, (.str [47, 101])] h20) fun x21 h22 =>
valK (extractA x21 0) fun x23 =>
valK (extractA x21 1) fun x24 =>
bothK (newCells h22 [.str [], .int .i64 0, .bool false, .str [], .nilslice] fun o => .ptr o 0) fun x25 h26 =>
hpK (storeA tab h26 32 x25 x23) fun h27 =>
bothK (E (.fn 10) [v4.1, (.str [47])] h27) fun x28 h29 =>
valK (extractA x28 0) fun x30 =>
valK (extractA x28 1) fun x31 =>
bothK (newCells h29 [.str [], .int .i64 0, .bool false, .str [], .nilslice] fun o => .ptr o 0) fun x32 h33 =>
hpK (storeA tab h33 32 x32 x30) fun h34 =>
jn (fun (v36 : AV × AV × Unit) (ms37 : List Nat) (h38 : AHeap) =>
loopN (F3_b11 E n) n (v36.1, v36.2.1, (.str []), (.int .i64 0), ()) ms37 h38) fun j35_ =>
valK (abin tab .eql 26 x10 (.int .i64 0)) fun x139 =>
boolK x139 (
valK (loadA tab h34 32 x11) fun x140 =>
bothK (E (.fn 12) [(.str []), (.str [100, 97, 116, 97]), (.bool false)] h34) fun x141 h142 =>
valK (loadA tab h142 32 x11) fun x143 =>
sameK x143 x140 (
bothK (E (.fn 11) [x140, x141] h142) fun x144 h145 =>
boolK x144 (
valK (abin tab .eql 26 x17 (.int .i64 0)) fun x146 =>
boolK x146 (
valK (loadA tab h145 32 x18) fun x147 =>
bothK (E (.fn 13) [(.str []), (.str [102])] h145) fun x148 h149 =>
valK (loadA tab h149 32 x18) fun x150 =>
sameK x150 x147 (
bothK (E (.fn 11) [x147, x148] h149) fun x151 h152 =>
boolK x151 (
valK (abin tab .eql 26 x24 (.int .i64 0)) fun x153 =>
boolK x153 (
valK (loadA tab h152 32 x25) fun x154 =>
valK (abuild tab 32 [(1, (.int .i64 2))]) fun x155 =>
bothK (E (.fn 11) [x154, x155] h152) fun x156 h157 =>
boolK x156 (
valK (abin tab .eql 26 x31 (.int .i64 0)) fun x158 =>
boolK x158 (
valK (afieldAddr tab 32 x32 4) fun x159 =>
valK (loadA tab h157 30 x159) fun x160 =>
valK (alen tab h157 30 x160) fun x161 =>
valK (abin tab .eql 3 x161 (.int .i64 3)) fun x162 =>
boolK x162 (
valK (afieldAddr tab 32 x32 4) fun x163 =>
valK (loadA tab h157 30 x163) fun x164 =>
valK (aindexAddr tab 30 x164 (.int .i64 0)) fun x165 =>
valK (afieldAddr tab 32 x165 0) fun x166 =>
valK (loadA tab h157 9 x166) fun x167 =>
valK (abin tab .eql 9 x167 (.str [101])) fun x168 =>
j35_ (v4.1, x168, ()) ms5 h157) (
j35_ (v4.1, (.bool false), ()) ms5 h157)) (
j35_ (v4.1, (.bool false), ()) ms5 h157)) (
j35_ (v4.1, (.bool false), ()) ms5 h157)) (
j35_ (v4.1, (.bool false), ()) ms5 h152)) (
j35_ (v4.1, (.bool false), ()) ms5 h152))) (
j35_ (v4.1, (.bool false), ()) ms5 h145)) (
j35_ (v4.1, (.bool false), ()) ms5 h145))) (
j35_ (v4.1, (.bool false), ()) ms5 h34)) fun j3_ =>
valK (abin tab .eql 22 x1 (.nilptr)) fun x169 =>
boolK x169 (
some ((.bool false), h2)) (
bothK (E (.fn 7) [x1, (.str [47]), (.str [102]), (.str [100, 97, 116, 97]), (.bool false)] h2) fun x170 h171 =>
valK (abin tab .neq 26 x170 (.int .i64 0)) fun x172 =>
boolK x172 (
some ((.bool false), h171)) (
bothK (E (.fn 8) [x1, (.str [47]), (.str [102]), (.str [108])] h171) fun x173 h174 =>
valK (abin tab .neq 26 x173 (.int .i64 0)) fun x175 =>
boolK x175 (
some ((.bool false), h174)) (
bothK (E (.fn 9) [x1, (.str [47]), (.str [101])] h174) fun x176 h177 =>
valK (abin tab .neq 26 x176 (.int .i64 0)) fun x178 =>
boolK x178 (
some ((.bool false), h177)) (
j3_ (x1, ()) [] h177))))
theorem F3_eq (E : Env) (n : Nat) (h : AHeap) : fnK E tab a3 3 n [] h = F3 E n h := by kernel_rfl

/-- v: 1 none, 2 f, 3 ok, 10 last, 11 i -/
noncomputable def F4_b21 (E : Env) (n : Nat) (v : AV × AV × AV × AV × AV × Unit) (ms : List Nat) (h : AHeap) (next46_ : AV × AV × AV × AV × AV × Unit → List Nat → AHeap → Option (AV × AHeap)) : Option (AV × AHeap) :=
valK (abin tab .lss 3 v.2.2.2.2.1 (.int .i64 9)) fun x47 =>
boolK x47 (
valK (abin tab .add 3 (.int .i64 48) v.2.2.2.2.1) fun x48 =>
bothK (aconvert tab h 3 5 x48) fun x49 h50 =>
bothK (abuildSlice tab h50 53 2 [(0, (.int .u8 107)), (1, x49)]) fun x51 h52 =>
bothK (aconvert tab h52 53 9 x51) fun x53 h54 =>
boolK v.2.2.1 (
bothK (E (.fn 8) [v.2.1, (.str [47]), v.2.2.2.1, x53] h54) fun x55 h56 =>
valK (abin tab .eql 26 x55 (.int .i64 0)) fun x57 =>
valK (abin tab .add 3 v.2.2.2.2.1 (.int .i64 1)) fun x58 =>
next46_ (v.1, v.2.1, x57, x53, x58, ()) ms h56) (
valK (abin tab .add 3 v.2.2.2.2.1 (.int .i64 1)) fun x59 =>
next46_ (v.1, v.2.1, (.bool false), x53, x59, ()) ms h54)) (
jn (fun (v61 : AV × AV × Unit) (ms62 : List Nat) (h63 : AHeap) =>
valK (abuild tab 25 [(0, (.int .i64 2)), (1, (.int .i64 3))]) fun x64 =>
bothK (E (.fn 6) [x64] h63) fun x65 h66 =>
jn (fun (v68 : AV × AV × AV × Unit) (ms69 : List Nat) (h70 : AHeap) =>
bothK (E (.fn 27) [v68.1, (.str [47]), (.str [97])] h70) fun x71 h72 =>
valK (extractA x71 0) fun x73 =>
valK (extractA x71 1) fun x74 =>
bothK (E (.fn 23) [v68.1, (.str [47]), (.str [97])] h72) fun x75 h76 =>
valK (extractA x75 0) fun x77 =>
valK (extractA x75 1) fun x78 =>
bothK (E (.fn 28) [v68.1, (.str [47]), (.str [97])] h76) fun x79 h80 =>
valK (extractA x79 0) fun x81 =>
valK (extractA x79 1) fun x82 =>
bothK (E (.fn 19) [v68.1, (.str [47]), (.str [97]), (.bool true)] h80) fun x83 h84 =>
valK (extractA x83 0) fun x85 =>
valK (extractA x83 1) fun x86 =>
bothK (newCells h84 [.int .i64 0, .int .i64 0, .str [], .int .i64 0] fun o => .ptr o 0) fun x87 h88 =>
hpK (storeA tab h88 43 x87 x85) fun h89 =>
bothK (E (.fn 29) [] h89) fun x90 h91 =>
boolK x90 (
boolK v68.2.1 (
boolK v68.2.2.1 (
valK (abin tab .eql 26 x74 (.int .i64 1)) fun x92 =>
boolK x92 (
valK (abin tab .eql 26 x78 (.int .i64 1)) fun x93 =>
boolK x93 (
valK (abin tab .eql 26 x82 (.int .i64 1)) fun x94 =>
boolK x94 (
valK (abin tab .eql 26 x86 (.int .i64 1)) fun x95 =>
boolK x95 (
bothK (E (.fn 7) [v68.1, (.str [47]), (.str [97]), (.str []), (.bool false)] h91) fun x96 h97 =>
valK (abin tab .eql 26 x96 (.int .i64 1)) fun x98 =>
boolK x98 (
bothK (E (.fn 9) [v68.1, (.str [47]), (.str [97])] h97) fun x99 h100 =>
valK (abin tab .eql 26 x99 (.int .i64 1)) fun x101 =>
boolK x101 (
bothK (E (.fn 21) [v68.1, (.str [47]), (.str [97])] h100) fun x102 h103 =>
valK (abin tab .eql 26 x102 (.int .i64 1)) fun x104 =>
boolK x104 (
bothK (E (.fn 22) [v68.1, (.str [47]), (.str [97]), (.str [98])] h103) fun x105 h106 =>
valK (abin tab .eql 26 x105 (.int .i64 1)) fun x107 =>
boolK x107 (
bothK (E (.fn 8) [v68.1, (.str [47]), (.str [97]), (.str [98])] h106) fun x108 h109 =>
valK (abin tab .eql 26 x108 (.int .i64 1)) fun x110 =>
boolK x110 (
bothK (E (.fn 18) [v68.1, (.str [47]), (.str [97]), (.str [98])] h109) fun x111 h112 =>
valK (abin tab .eql 26 x111 (.int .i64 1)) fun x113 =>
boolK x113 (
bothK (E (.fn 25) [v68.1, (.str [47]), (.str [97]), (.int .i64 0)] h112) fun x114 h115 =>
valK (abin tab .eql 26 x114 (.int .i64 1)) fun x116 =>
boolK x116 (
valK (abuild tab 32 [(1, (.int .i64 1))]) fun x117 =>
bothK (E (.fn 26) [v68.1, (.str [47, 97]), x117] h115) fun x118 h119 =>
valK (abin tab .eql 26 x118 (.int .i64 1)) fun x120 =>
boolK x120 (
bothK (E (.fn 20) [v68.1] h119) fun x121 h122 =>
valK (abuild tab 25 []) fun x123 =>
valK (abin tab .eql 25 x121 x123) fun x124 =>
boolK x124 (
valK (abuild tab 25 []) fun x125 =>
bothK (E (.fn 6) [x125] h122) fun x126 h127 =>
valK (abin tab .eql 22 x126 (.nilptr)) fun x128 =>
boolK x128 (
valK (abuild tab 25 [(0, (.int .i64 1048577))]) fun x129 =>
bothK (E (.fn 6) [x129] h127) fun x130 h131 =>
valK (abin tab .eql 22 x130 (.nilptr)) fun x132 =>
boolK x132 (
valK (abuild tab 25 [(0, (.int .i64 1)), (1, (.int .i64 (-1)))]) fun x133 =>
bothK (E (.fn 6) [x133] h131) fun x134 h135 =>
valK (abin tab .eql 22 x134 (.nilptr)) fun x136 =>
boolK x136 (
valK (abuild tab 25 [(0, (.int .i64 1)), (1, (.int .i64 1073741825))]) fun x137 =>
bothK (E (.fn 6) [x137] h135) fun x138 h139 =>
valK (abin tab .eql 22 x138 (.nilptr)) fun x140 =>
hpK (unmark h139 ms69) fun h141 =>
some (x140, h141)) (
hpK (unmark h135 ms69) fun h142 =>
some ((.bool false), h142))) (
hpK (unmark h131 ms69) fun h143 =>
some ((.bool false), h143))) (
hpK (unmark h127 ms69) fun h144 =>
some ((.bool false), h144))) (
hpK (unmark h122 ms69) fun h145 =>
some ((.bool false), h145))) (
hpK (unmark h119 ms69) fun h146 =>
some ((.bool false), h146))) (
hpK (unmark h115 ms69) fun h147 =>
some ((.bool false), h147))) (
hpK (unmark h112 ms69) fun h148 =>
some ((.bool false), h148))) (
hpK (unmark h109 ms69) fun h149 =>
some ((.bool false), h149))) (
hpK (unmark h106 ms69) fun h150 =>
some ((.bool false), h150))) (
hpK (unmark h103 ms69) fun h151 =>
some ((.bool false), h151))) (
hpK (unmark h100 ms69) fun h152 =>
some ((.bool false), h152))) (
hpK (unmark h97 ms69) fun h153 =>
some ((.bool false), h153))) (
hpK (unmark h91 ms69) fun h154 =>
some ((.bool false), h154))) (
hpK (unmark h91 ms69) fun h155 =>
some ((.bool false), h155))) (
hpK (unmark h91 ms69) fun h156 =>
some ((.bool false), h156))) (
hpK (unmark h91 ms69) fun h157 =>
some ((.bool false), h157))) (
hpK (unmark h91 ms69) fun h158 =>
some ((.bool false), h158))) (
hpK (unmark h91 ms69) fun h159 =>
some ((.bool false), h159))) (
hpK (unmark h91 ms69) fun h160 =>
some ((.bool false), h160))) fun j67_ =>
valK (abin tab .neq 22 x65 (.nilptr)) fun x161 =>
boolK x161 (
bothK (E (.fn 7) [x65, (.str [47]), (.str [97]), (.str [97, 98, 99, 100]), (.bool false)] h66) fun x162 h163 =>
valK (abin tab .eql 26 x162 (.int .i64 10)) fun x164 =>
boolK x164 (
bothK (E (.fn 7) [x65, (.str [47]), (.str [97]), (.str [97, 98, 99]), (.bool false)] h163) fun x165 h166 =>
valK (abin tab .eql 26 x165 (.int .i64 0)) fun x167 =>
boolK x167 (
bothK (E (.fn 7) [x65, (.str [47]), (.str [97]), (.str [100]), (.bool true)] h166) fun x168 h169 =>
valK (abin tab .eql 26 x168 (.int .i64 10)) fun x170 =>
boolK x170 (
bothK (E (.fn 9) [x65, (.str [47]), (.str [98])] h169) fun x171 h172 =>
valK (abin tab .eql 26 x171 (.int .i64 10)) fun x173 =>
boolK x173 (
bothK (E (.fn 17) [x65, (.str [47]), (.str [97]), (.str [97, 98, 99]), (.int .i64 0)] h172) fun x174 h175 =>
boolK x174 (
bothK (E (.fn 7) [x65, (.str [47]), (.str [97]), (.str []), (.bool false)] h175) fun x176 h177 =>
valK (abin tab .eql 26 x176 (.int .i64 0)) fun x178 =>
boolK x178 (
valK (abuild tab 32 [(1, (.int .i64 1))]) fun x179 =>
bothK (E (.fn 26) [x65, (.str [47, 98]), x179] h177) fun x180 h181 =>
valK (abin tab .eql 26 x180 (.int .i64 10)) fun x182 =>
boolK x182 (
valK (abuild tab 32 [(1, (.int .i64 1))]) fun x183 =>
bothK (E (.fn 26) [x65, (.str [47, 97]), x183] h181) fun x184 h185 =>
valK (abin tab .eql 26 x184 (.int .i64 6)) fun x186 =>
boolK x186 (
valK (abuild tab 32 [(1, (.int .i64 1))]) fun x187 =>
bothK (E (.fn 26) [x65, (.str [47]), x187] h185) fun x188 h189 =>
valK (abin tab .eql 26 x188 (.int .i64 6)) fun x190 =>
boolK x190 (
valK (abuild tab 32 []) fun x191 =>
bothK (E (.fn 26) [x65, (.str [47, 99]), x191] h189) fun x192 h193 =>
valK (abin tab .eql 26 x192 (.int .i64 2)) fun x194 =>
j67_ (v61.1, v61.2.1, x194, ()) ms62 h193) (
j67_ (v61.1, v61.2.1, (.bool false), ()) ms62 h189)) (
j67_ (v61.1, v61.2.1, (.bool false), ()) ms62 h185)) (
j67_ (v61.1, v61.2.1, (.bool false), ()) ms62 h181)) (
j67_ (v61.1, v61.2.1, (.bool false), ()) ms62 h177)) (
j67_ (v61.1, v61.2.1, (.bool false), ()) ms62 h175)) (
j67_ (v61.1, v61.2.1, (.bool false), ()) ms62 h172)) (
j67_ (v61.1, v61.2.1, (.bool false), ()) ms62 h169)) (
j67_ (v61.1, v61.2.1, (.bool false), ()) ms62 h166)) (
j67_ (v61.1, v61.2.1, (.bool false), ()) ms62 h163)) (
j67_ (v61.1, v61.2.1, (.bool false), ()) ms62 h66)) fun j60_ =>
boolK v.2.2.1 (
bothK (E (.fn 17) [v.2.1, (.str [47]), (.str [107, 55]), (.str [104, 105]), (.int .i64 0)] h) fun x195 h196 =>
boolK x195 (
bothK (E (.fn 17) [v.2.1, (.str [47]), (.str [107, 56]), (.str []), (.int .i64 9)] h196) fun x197 h198 =>
j60_ (v.1, x197, ()) ms h198) (
j60_ (v.1, (.bool false), ()) ms h196)) (
j60_ (v.1, (.bool false), ()) ms h))
/-- v: 1 none, 2 f, 3 ok, 8 path, 9 i -/
noncomputable def F4_b14 (E : Env) (n : Nat) (v : AV × AV × AV × AV × AV × Unit) (ms : List Nat) (h : AHeap) (next34_ : AV × AV × AV × AV × AV × Unit → List Nat → AHeap → Option (AV × AHeap)) : Option (AV × AHeap) :=
valK (abin tab .lss 3 v.2.2.2.2.1 (.int .i64 10)) fun x35 =>
boolK x35 (
valK (abin tab .add 9 v.2.2.2.1 (.str [47, 120])) fun x36 =>
boolK v.2.2.1 (
bothK (E (.fn 9) [v.2.1, (.str [47]), x36] h) fun x37 h38 =>
valK (abin tab .eql 26 x37 (.int .i64 0)) fun x39 =>
valK (abin tab .add 3 v.2.2.2.2.1 (.int .i64 1)) fun x40 =>
next34_ (v.1, v.2.1, x39, x36, x40, ()) ms h38) (
valK (abin tab .add 3 v.2.2.2.2.1 (.int .i64 1)) fun x41 =>
next34_ (v.1, v.2.1, (.bool false), x36, x41, ()) ms h)) (
jn (fun (v43 : AV × AV × AV × Unit) (ms44 : List Nat) (h45 : AHeap) =>
loopN (F4_b21 E n) n (v43.1, v43.2.1, v43.2.2.1, (.str [100, 47, 102]), (.int .i64 0), ()) ms44 h45) fun j42_ =>
boolK v.2.2.1 (
valK (abin tab .add 9 v.2.2.2.1 (.str [47, 120])) fun x199 =>
bothK (E (.fn 9) [v.2.1, (.str [47]), x199] h) fun x200 h201 =>
valK (abin tab .eql 26 x200 (.int .i64 3)) fun x202 =>
boolK x202 (
bothK (E (.fn 22) [v.2.1, (.str [47]), (.str [103]), (.str [100, 47, 103])] h201) fun x203 h204 =>
valK (abin tab .eql 26 x203 (.int .i64 3)) fun x205 =>
boolK x205 (
valK (abin tab .add 9 v.2.2.2.1 (.str [47, 121])) fun x206 =>
valK (abuild tab 32 [(1, (.int .i64 2))]) fun x207 =>
bothK (E (.fn 26) [v.2.1, x206, x207] h204) fun x208 h209 =>
valK (abin tab .eql 26 x208 (.int .i64 3)) fun x210 =>
boolK x210 (
valK (abin tab .add 9 v.2.2.2.1 (.str [47, 121])) fun x211 =>
valK (abuild tab 32 [(1, (.int .i64 1)), (3, (.str [116]))]) fun x212 =>
bothK (E (.fn 26) [v.2.1, x211, x212] h209) fun x213 h214 =>
valK (abin tab .eql 26 x213 (.int .i64 0)) fun x215 =>
j42_ (v.1, v.2.1, x215, ()) ms h214) (
j42_ (v.1, v.2.1, (.bool false), ()) ms h209)) (
j42_ (v.1, v.2.1, (.bool false), ()) ms h204)) (
j42_ (v.1, v.2.1, (.bool false), ()) ms h201)) (
j42_ (v.1, v.2.1, (.bool false), ()) ms h))
/-- whisk/whisklaw08.FsKnown () -/
noncomputable def F4 (E : Env) (n : Nat) (h : AHeap) : Option (AV × AHeap) :=
bothK (E (.fn 16) [] h) fun x0 h1 =>
valK (abin tab .eql 22 x0 (.nilptr)) fun x2 =>
boolK x2 (
some ((.bool false), h1)) (
jn (fun (v4 : AV × AV × AV × Unit) (ms5 : List Nat) (h6 : AHeap) =>
bothK (E (.fn 19) [v4.2.1, (.str [47]), (.str [97, 47, 104]), (.bool true)] h6) fun x7 h8 =>
valK (extractA x7 0) fun x9 =>
valK (extractA x7 1) fun x10 =>
bothK (newCells h8 [.int .i64 0, .int .i64 0, .str [], .int .i64 0] fun o => .ptr o 0) fun x11 h12 =>
hpK (storeA tab h12 43 x11 x9) fun h13 =>
jn (fun (v15 : AV × AV × AV × Unit) (ms16 : List Nat) (h17 : AHeap) =>
jn (fun (v19 : AV × AV × AV × Unit) (ms20 : List Nat) (h21 : AHeap) =>
bothK (E (.fn 23) [v19.2.1, (.str [47]), (.str [47])] h21) fun x22 h23 =>
valK (extractA x22 0) fun x24 =>
valK (extractA x22 1) fun x25 =>
jn (fun (v27 : AV × AV × AV × Unit) (ms28 : List Nat) (h29 : AHeap) =>
jn (fun (v31 : AV × AV × AV × Unit) (ms32 : List Nat) (h33 : AHeap) =>
loopN (F4_b14 E n) n (v31.1, v31.2.1, v31.2.2.1, (.str [47, 103]), (.int .i64 0), ()) ms32 h33) fun j30_ =>
boolK v27.2.2.1 (
bothK (E (.fn 9) [v27.2.1, (.str [47]), (.str [100])] h29) fun x216 h217 =>
valK (abin tab .eql 26 x216 (.int .i64 6)) fun x218 =>
boolK x218 (
bothK (E (.fn 9) [v27.2.1, (.str [47]), (.str [113, 47, 114])] h217) fun x219 h220 =>
valK (abin tab .eql 26 x219 (.int .i64 5)) fun x221 =>
boolK x221 (
bothK (E (.fn 9) [v27.2.1, (.str [47]), (.str [])] h220) fun x222 h223 =>
valK (abin tab .eql 26 x222 (.int .i64 5)) fun x224 =>
boolK x224 (
bothK (E (.fn 9) [v27.2.1, (.str [120]), (.str [121])] h223) fun x225 h226 =>
valK (abin tab .eql 26 x225 (.int .i64 5)) fun x227 =>
boolK x227 (
bothK (E (.fn 14) [(.str [110]), (.int .i64 57)] h226) fun x228 h229 =>
bothK (E (.fn 9) [v27.2.1, (.str [47]), x228] h229) fun x230 h231 =>
valK (abin tab .eql 26 x230 (.int .i64 3)) fun x232 =>
boolK x232 (
bothK (E (.fn 14) [(.str [47, 97]), (.int .i64 128)] h231) fun x233 h234 =>
bothK (E (.fn 9) [v27.2.1, (.str [47]), x233] h234) fun x235 h236 =>
valK (abin tab .eql 26 x235 (.int .i64 3)) fun x237 =>
boolK x237 (
bothK (E (.fn 9) [v27.2.1, (.str [47]), (.str [97, 0])] h236) fun x238 h239 =>
valK (abin tab .eql 26 x238 (.int .i64 2)) fun x240 =>
boolK x240 (
bothK (E (.fn 21) [v27.2.1, (.str [47]), (.str [46])] h239) fun x241 h242 =>
valK (abin tab .eql 26 x241 (.int .i64 2)) fun x243 =>
boolK x243 (
bothK (E (.fn 21) [v27.2.1, (.str [47]), (.str [100, 47, 46, 46])] h242) fun x244 h245 =>
valK (abin tab .eql 26 x244 (.int .i64 2)) fun x246 =>
boolK x246 (
bothK (E (.fn 21) [v27.2.1, (.str [47]), (.str [122, 122])] h245) fun x247 h248 =>
valK (abin tab .eql 26 x247 (.int .i64 5)) fun x249 =>
boolK x249 (
bothK (E (.fn 8) [v27.2.1, (.str [47]), (.str []), (.str [115])] h248) fun x250 h251 =>
valK (abin tab .eql 26 x250 (.int .i64 2)) fun x252 =>
boolK x252 (
bothK (E (.fn 18) [v27.2.1, (.str [47]), (.str [100]), (.str [115])] h251) fun x253 h254 =>
valK (abin tab .eql 26 x253 (.int .i64 7)) fun x255 =>
boolK x255 (
bothK (E (.fn 18) [v27.2.1, (.str [47]), (.str [108]), (.str [115])] h254) fun x256 h257 =>
valK (abin tab .eql 26 x256 (.int .i64 2)) fun x258 =>
boolK x258 (
bothK (E (.fn 25) [v27.2.1, (.str [47]), (.str [100, 47, 102]), (.int .i64 512)] h257) fun x259 h260 =>
valK (abin tab .eql 26 x259 (.int .i64 2)) fun x261 =>
boolK x261 (
bothK (E (.fn 25) [v27.2.1, (.str [47]), (.str [100, 47, 102]), (.int .i64 0)] h260) fun x262 h263 =>
valK (abin tab .eql 26 x262 (.int .i64 0)) fun x264 =>
boolK x264 (
bothK (E (.fn 25) [v27.2.1, (.str [47]), (.str [122, 122]), (.int .i64 0)] h263) fun x265 h266 =>
valK (abin tab .eql 26 x265 (.int .i64 5)) fun x267 =>
j30_ (v27.1, v27.2.1, x267, ()) ms28 h266) (
j30_ (v27.1, v27.2.1, (.bool false), ()) ms28 h263)) (
j30_ (v27.1, v27.2.1, (.bool false), ()) ms28 h260)) (
j30_ (v27.1, v27.2.1, (.bool false), ()) ms28 h257)) (
j30_ (v27.1, v27.2.1, (.bool false), ()) ms28 h254)) (
j30_ (v27.1, v27.2.1, (.bool false), ()) ms28 h251)) (
j30_ (v27.1, v27.2.1, (.bool false), ()) ms28 h248)) (
j30_ (v27.1, v27.2.1, (.bool false), ()) ms28 h245)) (
j30_ (v27.1, v27.2.1, (.bool false), ()) ms28 h242)) (
j30_ (v27.1, v27.2.1, (.bool false), ()) ms28 h239)) (
j30_ (v27.1, v27.2.1, (.bool false), ()) ms28 h236)) (
j30_ (v27.1, v27.2.1, (.bool false), ()) ms28 h231)) (
j30_ (v27.1, v27.2.1, (.bool false), ()) ms28 h226)) (
j30_ (v27.1, v27.2.1, (.bool false), ()) ms28 h223)) (
j30_ (v27.1, v27.2.1, (.bool false), ()) ms28 h220)) (
j30_ (v27.1, v27.2.1, (.bool false), ()) ms28 h217)) (
j30_ (v27.1, v27.2.1, (.bool false), ()) ms28 h29)) fun j26_ =>
boolK v19.2.2.1 (
valK (abin tab .eql 26 x25 (.int .i64 0)) fun x268 =>
boolK x268 (
bothK (abuildSlice tab h23 47 5 [(0, (.str [100])), (1, (.str [103])), (2, (.str [108])), (3, (.str [109])), (4, (.str [110]))]) fun x269 h270 =>
bothK (E (.fn 24) [x24, x269] h270) fun x271 h272 =>
j26_ (v19.1, v19.2.1, x271, ()) ms20 h272) (
j26_ (v19.1, v19.2.1, (.bool false), ()) ms20 h23)) (
j26_ (v19.1, v19.2.1, (.bool false), ()) ms20 h23)) fun j18_ =>
boolK v15.2.2.1 (
bothK (E (.fn 9) [v15.2.1, (.str [47]), (.str [100])] h17) fun x273 h274 =>
valK (abin tab .eql 26 x273 (.int .i64 0)) fun x275 =>
boolK x275 (
bothK (E (.fn 9) [v15.2.1, (.str [47]), (.str [100, 47, 101])] h274) fun x276 h277 =>
valK (abin tab .eql 26 x276 (.int .i64 0)) fun x278 =>
boolK x278 (
bothK (E (.fn 22) [v15.2.1, (.str [47]), (.str [100]), (.str [100, 47, 101, 47, 120])] h277) fun x279 h280 =>
valK (abin tab .eql 26 x279 (.int .i64 2)) fun x281 =>
boolK x281 (
bothK (E (.fn 22) [v15.2.1, (.str [47]), (.str [97, 47, 102]), (.str [100])] h280) fun x282 h283 =>
valK (abin tab .eql 26 x282 (.int .i64 7)) fun x284 =>
boolK x284 (
bothK (E (.fn 22) [v15.2.1, (.str [47]), (.str [100]), (.str [97, 47, 102])] h283) fun x285 h286 =>
valK (abin tab .eql 26 x285 (.int .i64 8)) fun x287 =>
boolK x287 (
bothK (E (.fn 22) [v15.2.1, (.str [47]), (.str [100]), (.str [97])] h286) fun x288 h289 =>
valK (abin tab .eql 26 x288 (.int .i64 20)) fun x290 =>
boolK x290 (
bothK (E (.fn 22) [v15.2.1, (.str [47]), (.str [100, 47, 101]), (.str [103])] h289) fun x291 h292 =>
valK (abin tab .eql 26 x291 (.int .i64 0)) fun x293 =>
boolK x293 (
bothK (E (.fn 22) [v15.2.1, (.str [47]), (.str [97]), (.str [100])] h292) fun x294 h295 =>
valK (abin tab .eql 26 x294 (.int .i64 0)) fun x296 =>
boolK x296 (
bothK (E (.fn 17) [v15.2.1, (.str [47]), (.str [100, 47, 102]), (.str [104, 105]), (.int .i64 0)] h295) fun x297 h298 =>
boolK x297 (
bothK (E (.fn 17) [v15.2.1, (.str [47]), (.str [108]), (.str []), (.int .i64 5)] h298) fun x299 h300 =>
boolK x299 (
bothK (E (.fn 22) [v15.2.1, (.str [47]), (.str [122, 122]), (.str [121])] h300) fun x301 h302 =>
valK (abin tab .eql 26 x301 (.int .i64 5)) fun x303 =>
boolK x303 (
bothK (E (.fn 22) [v15.2.1, (.str [47]), (.str [100]), (.str [100])] h302) fun x304 h305 =>
valK (abin tab .eql 26 x304 (.int .i64 0)) fun x306 =>
boolK x306 (
bothK (E (.fn 22) [v15.2.1, (.str [47]), (.str [47]), (.str [121])] h305) fun x307 h308 =>
valK (abin tab .eql 26 x307 (.int .i64 2)) fun x309 =>
boolK x309 (
bothK (E (.fn 22) [v15.2.1, (.str [47]), (.str [100]), (.str [46, 46])] h308) fun x310 h311 =>
valK (abin tab .eql 26 x310 (.int .i64 2)) fun x312 =>
j18_ (v15.1, v15.2.1, x312, ()) ms16 h311) (
j18_ (v15.1, v15.2.1, (.bool false), ()) ms16 h308)) (
j18_ (v15.1, v15.2.1, (.bool false), ()) ms16 h305)) (
j18_ (v15.1, v15.2.1, (.bool false), ()) ms16 h302)) (
j18_ (v15.1, v15.2.1, (.bool false), ()) ms16 h300)) (
j18_ (v15.1, v15.2.1, (.bool false), ()) ms16 h298)) (
j18_ (v15.1, v15.2.1, (.bool false), ()) ms16 h295)) (
j18_ (v15.1, v15.2.1, (.bool false), ()) ms16 h292)) (
j18_ (v15.1, v15.2.1, (.bool false), ()) ms16 h289)) (
j18_ (v15.1, v15.2.1, (.bool false), ()) ms16 h286)) (
j18_ (v15.1, v15.2.1, (.bool false), ()) ms16 h283)) (
j18_ (v15.1, v15.2.1, (.bool false), ()) ms16 h280)) (
j18_ (v15.1, v15.2.1, (.bool false), ()) ms16 h277)) (
j18_ (v15.1, v15.2.1, (.bool false), ()) ms16 h274)) (
j18_ (v15.1, v15.2.1, (.bool false), ()) ms16 h17)) fun j14_ =>
boolK v4.2.2.1 (
valK (afieldAddr tab 43 x11 3) fun x313 =>
valK (loadA tab h13 3 x313) fun x314 =>
valK (abin tab .eql 3 x314 (.int .i64 2)) fun x315 =>
boolK x315 (
bothK (E (.fn 20) [v4.2.1] h13) fun x316 h317 =>
valK (abuild tab 25 [(0, (.int .i64 7)), (1, (.int .i64 11))]) fun x318 =>
valK (abin tab .eql 25 x316 x318) fun x319 =>
boolK x319 (
bothK (E (.fn 21) [v4.2.1, (.str [47]), (.str [110, 101, 119])] h317) fun x320 h321 =>
valK (abin tab .eql 26 x320 (.int .i64 0)) fun x322 =>
boolK x322 (
bothK (E (.fn 17) [v4.2.1, (.str [47]), (.str [97, 47, 104]), (.str [121, 122]), (.int .i64 0)] h321) fun x323 h324 =>
boolK x323 (
bothK (E (.fn 20) [v4.2.1] h324) fun x325 h326 =>
valK (afield tab 25 x325 0) fun x327 =>
valK (abin tab .eql 3 x327 (.int .i64 7)) fun x328 =>
boolK x328 (
bothK (E (.fn 21) [v4.2.1, (.str [47]), (.str [97, 47, 104])] h326) fun x329 h330 =>
valK (abin tab .eql 26 x329 (.int .i64 0)) fun x331 =>
boolK x331 (
bothK (E (.fn 20) [v4.2.1] h330) fun x332 h333 =>
valK (afield tab 25 x332 0) fun x334 =>
valK (abin tab .eql 3 x334 (.int .i64 6)) fun x335 =>
j14_ (v4.1, v4.2.1, x335, ()) ms5 h333) (
j14_ (v4.1, v4.2.1, (.bool false), ()) ms5 h330)) (
j14_ (v4.1, v4.2.1, (.bool false), ()) ms5 h326)) (
j14_ (v4.1, v4.2.1, (.bool false), ()) ms5 h324)) (
j14_ (v4.1, v4.2.1, (.bool false), ()) ms5 h321)) (
j14_ (v4.1, v4.2.1, (.bool false), ()) ms5 h317)) (
j14_ (v4.1, v4.2.1, (.bool false), ()) ms5 h13)) (
j14_ (v4.1, v4.2.1, (.bool false), ()) ms5 h13)) fun j3_ =>
bothK (E (.fn 8) [x0, (.str [47]), (.str [110, 101, 119]), (.str [110])] h1) fun x336 h337 =>
valK (abin tab .eql 26 x336 (.int .i64 0)) fun x338 =>
boolK x338 (
bothK (E (.fn 7) [x0, (.str [47]), (.str [110]), (.str [120]), (.bool false)] h337) fun x339 h340 =>
valK (abin tab .eql 26 x339 (.int .i64 0)) fun x341 =>
boolK x341 (
bothK (E (.fn 17) [x0, (.str [47]), (.str [110, 101, 119]), (.str [120]), (.int .i64 0)] h340) fun x342 h343 =>
boolK x342 (
bothK (E (.fn 18) [x0, (.str [47]), (.str [110, 101, 119]), (.str [97, 47, 104])] h343) fun x344 h345 =>
valK (abin tab .eql 26 x344 (.int .i64 0)) fun x346 =>
boolK x346 (
bothK (E (.fn 7) [x0, (.str [47]), (.str [97, 47, 104]), (.str [121, 122]), (.bool false)] h345) fun x347 h348 =>
valK (abin tab .eql 26 x347 (.int .i64 0)) fun x349 =>
boolK x349 (
bothK (E (.fn 17) [x0, (.str [47]), (.str [110]), (.str [121, 122]), (.int .i64 0)] h348) fun x350 h351 =>
j3_ ((.nilptr), x0, x350, ()) [] h351) (
j3_ ((.nilptr), x0, (.bool false), ()) [] h348)) (
j3_ ((.nilptr), x0, (.bool false), ()) [] h345)) (
j3_ ((.nilptr), x0, (.bool false), ()) [] h343)) (
j3_ ((.nilptr), x0, (.bool false), ()) [] h340)) (
j3_ ((.nilptr), x0, (.bool false), ()) [] h337))
theorem F4_eq (E : Env) (n : Nat) (h : AHeap) : fnK E tab a4 4 n [] h = F4 E n h := by kernel_rfl

/-- whisk/fs.New (q) -/
noncomputable def F6 (E : Env) (n : Nat) (a0 : AV) (h : AHeap) : Option (AV × AHeap) :=
bothK (boxA h a0) fun x0 h1 =>
valK (loadA tab h1 25 x0) fun x2 =>
bothK (E (.fn 42) [x2] h1) fun x3 h4 =>
valK (abin tab .eql 72 x3 (.nilptr)) fun x5 =>
boolK x5 (
some ((.nilptr), h4)) (
valK (abuild tab 75 [(0, x3)]) fun x6 =>
bothK (boxA h4 x6) fun x7 h8 =>
some (x7, h8))
theorem F6_eq (E : Env) (n : Nat) (a0 : AV) (h : AHeap) : fnK E tab a6 6 n [a0] h = F6 E n a0 h := by kernel_rfl

/-- (*whisk/fs.Fs).Write (f, cwd, path, data, more) -/
noncomputable def F7 (E : Env) (n : Nat) (a0 a1 a2 a3 a4 : AV) (h : AHeap) : Option (AV × AHeap) :=
bothK (E (.fn 43) [a0, a1, a2, (.bool true)] h) fun x0 h1 =>
valK (extractA x0 0) fun x2 =>
valK (extractA x0 1) fun x3 =>
bothK (newCells h1 [.int .i64 0, .str [], .int .i64 0, .bool false] fun o => .ptr o 0) fun x4 h5 =>
hpK (storeA tab h5 77 x4 x2) fun h6 =>
valK (abin tab .neq 26 x3 (.int .i64 0)) fun x7 =>
boolK x7 (
some (x3, h6)) (
valK (afieldAddr tab 77 x4 3) fun x8 =>
valK (loadA tab h6 4 x8) fun x9 =>
valK (aun .not x9) fun x10 =>
boolK x10 (
valK (nilA a0) fun x11 =>
valK (afieldAddr tab 75 x11 0) fun x12 =>
valK (loadA tab h6 72 x12) fun x13 =>
valK (afieldAddr tab 77 x4 0) fun x14 =>
valK (loadA tab h6 3 x14) fun x15 =>
valK (afieldAddr tab 77 x4 1) fun x16 =>
valK (loadA tab h6 9 x16) fun x17 =>
bothK (E (.fn 44) [x13, x15, x17, (.int .i64 1), (.int .i64 420), a3] h6) fun x18 h19 =>
valK (extractA x18 0) fun x20 =>
valK (extractA x18 1) fun x21 =>
some (x21, h19)) (
valK (nilA a0) fun x22 =>
valK (afieldAddr tab 75 x22 0) fun x23 =>
valK (loadA tab h6 72 x23) fun x24 =>
valK (afieldAddr tab 77 x4 2) fun x25 =>
valK (loadA tab h6 3 x25) fun x26 =>
bothK (newCells h6 [.int .i64 0, .int .i64 0, .str [], .int .i64 0] fun o => .ptr o 0) fun x27 h28 =>
bothK (E (.fn 45) [x24, x26] h28) fun x29 h30 =>
valK (extractA x29 0) fun x31 =>
valK (extractA x29 1) fun x32 =>
hpK (storeA tab h30 43 x27 x31) fun h33 =>
valK (afieldAddr tab 43 x27 0) fun x34 =>
valK (loadA tab h33 3 x34) fun x35 =>
valK (abin tab .eql 3 x35 (.int .i64 2)) fun x36 =>
boolK x36 (
some ((.int .i64 7), h33)) (
boolK a4 (
valK (afieldAddr tab 43 x27 2) fun x37 =>
valK (loadA tab h33 9 x37) fun x38 =>
valK (abin tab .add 9 x38 a3) fun x39 =>
valK (nilA a0) fun x40 =>
valK (afieldAddr tab 75 x40 0) fun x41 =>
valK (loadA tab h33 72 x41) fun x42 =>
valK (afieldAddr tab 77 x4 2) fun x43 =>
valK (loadA tab h33 3 x43) fun x44 =>
bothK (E (.fn 46) [x42, x44, x39] h33) fun x45 h46 =>
some (x45, h46)) (
valK (nilA a0) fun x47 =>
valK (afieldAddr tab 75 x47 0) fun x48 =>
valK (loadA tab h33 72 x48) fun x49 =>
valK (afieldAddr tab 77 x4 2) fun x50 =>
valK (loadA tab h33 3 x50) fun x51 =>
bothK (E (.fn 46) [x49, x51, a3] h33) fun x52 h53 =>
some (x52, h53)))))
theorem F7_eq (E : Env) (n : Nat) (a0 a1 a2 a3 a4 : AV) (h : AHeap) : fnK E tab a7 7 n [a0, a1, a2, a3, a4] h = F7 E n a0 a1 a2 a3 a4 h := by kernel_rfl

/-- (*whisk/fs.Fs).Symlink (f, cwd, target, path) -/
noncomputable def F8 (E : Env) (n : Nat) (a0 a1 a2 a3 : AV) (h : AHeap) : Option (AV × AHeap) :=
bothK (boxA h a0) fun x0 h1 =>
bothK (boxA h1 a2) fun x2 h3 =>
valK (loadA tab h3 22 x0) fun x4 =>
bothK (E (.fn 47) [x4] h3) fun x5 h6 =>
boolK x5 (
some ((.int .i64 1), h6)) (
valK (loadA tab h6 9 x2) fun x7 =>
valK (abin tab .eql 9 x7 (.str [])) fun x8 =>
boolK x8 (
some ((.int .i64 2), h6)) (
valK (loadA tab h6 9 x2) fun x9 =>
valK (alen tab h6 9 x9) fun x10 =>
valK (abin tab .gtr 3 x10 (.int .i64 255)) fun x11 =>
boolK x11 (
some ((.int .i64 2), h6)) (
valK (loadA tab h6 9 x2) fun x12 =>
bothK (E (.fn 48) [x12, (.int .u8 0)] h6) fun x13 h14 =>
valK (abin tab .geq 3 x13 (.int .i64 0)) fun x15 =>
boolK x15 (
some ((.int .i64 2), h14)) (
valK (loadA tab h14 22 x0) fun x16 =>
bothK (E (.fn 49) [x16, a1, a3, (.func 50 [] [x0, x2])] h14) fun x17 h18 =>
some (x17, h18)))))
theorem F8_eq (E : Env) (n : Nat) (a0 a1 a2 a3 : AV) (h : AHeap) : fnK E tab a8 8 n [a0, a1, a2, a3] h = F8 E n a0 a1 a2 a3 h := by kernel_rfl

/-- (*whisk/fs.Fs).Mkdir (f, cwd, path) -/
noncomputable def F9 (E : Env) (n : Nat) (a0 a1 a2 : AV) (h : AHeap) : Option (AV × AHeap) :=
bothK (boxA h a0) fun x0 h1 =>
valK (loadA tab h1 22 x0) fun x2 =>
bothK (E (.fn 49) [x2, a1, a2, (.func 51 [] [x0])] h1) fun x3 h4 =>
some (x3, h4)
theorem F9_eq (E : Env) (n : Nat) (a0 a1 a2 : AV) (h : AHeap) : fnK E tab a9 9 n [a0, a1, a2] h = F9 E n a0 a1 a2 h := by kernel_rfl

/-- whisk/canon.Of (f, path) -/
noncomputable def F10 (E : Env) (n : Nat) (a0 a1 : AV) (h : AHeap) : Option (AV × AHeap) :=
bothK (newCells h [.str [], .int .i64 0, .bool false, .str [], .nilslice] fun o => .ptr o 0) fun x0 h1 =>
valK (abuild tab 90 [(0, a0)]) fun x2 =>
bothK (E (.fn 53) [x2, a1] h1) fun x3 h4 =>
valK (extractA x3 0) fun x5 =>
valK (extractA x3 1) fun x6 =>
bothK (newCells h4 [.str [], .int .i64 0, .bool false, .str [], .nilslice] fun o => .ptr o 0) fun x7 h8 =>
hpK (storeA tab h8 32 x7 x5) fun h9 =>
valK (abin tab .eql 26 x6 (.int .i64 0)) fun x10 =>
boolK x10 (
valK (loadA tab h9 32 x7) fun x11 =>
bothK (E (.fn 54) [x11] h9) fun x12 h13 =>
valK (abin tab .neq 26 x12 (.int .i64 0)) fun x14 =>
boolK x14 (
valK (abuild tab 32 []) fun x15 =>
hpK (storeA tab h13 32 x0 x15) fun h16 =>
valK (loadA tab h16 32 x0) fun x17 =>
some (.tuple [x17, x12], h16)) (
valK (loadA tab h13 32 x7) fun x18 =>
hpK (storeA tab h13 32 x0 x18) fun h19 =>
valK (loadA tab h19 32 x0) fun x20 =>
some (.tuple [x20, (.int .i64 0)], h19))) (
valK (abin tab .neq 26 x6 (.int .i64 0)) fun x21 =>
boolK x21 (
valK (abuild tab 32 []) fun x22 =>
hpK (storeA tab h9 32 x0 x22) fun h23 =>
valK (loadA tab h23 32 x0) fun x24 =>
some (.tuple [x24, x6], h23)) (
valK (loadA tab h9 32 x7) fun x25 =>
hpK (storeA tab h9 32 x0 x25) fun h26 =>
valK (loadA tab h26 32 x0) fun x27 =>
some (.tuple [x27, (.int .i64 0)], h26)))
theorem F10_eq (E : Env) (n : Nat) (a0 a1 : AV) (h : AHeap) : fnK E tab a10 10 n [a0, a1] h = F10 E n a0 a1 h := by kernel_rfl

/-- whisk/tree.Same (a, b) -/
noncomputable def F11 (E : Env) (n : Nat) (a0 a1 : AV) (h : AHeap) : Option (AV × AHeap) :=
bothK (boxA h a0) fun x0 h1 =>
bothK (boxA h1 a1) fun x2 h3 =>
jn (fun (v5 : AV × AV × Unit) (ms6 : List Nat) (h7 : AHeap) =>
valK (afieldAddr tab 32 v5.1 0) fun x8 =>
valK (loadA tab h7 9 x8) fun x9 =>
valK (afieldAddr tab 32 v5.2.1 0) fun x10 =>
valK (loadA tab h7 9 x10) fun x11 =>
valK (abin tab .eql 9 x9 x11) fun x12 =>
boolK x12 (
valK (afieldAddr tab 32 v5.1 1) fun x13 =>
valK (loadA tab h7 3 x13) fun x14 =>
valK (afieldAddr tab 32 v5.2.1 1) fun x15 =>
valK (loadA tab h7 3 x15) fun x16 =>
valK (abin tab .eql 3 x14 x16) fun x17 =>
boolK x17 (
valK (afieldAddr tab 32 v5.1 2) fun x18 =>
valK (loadA tab h7 4 x18) fun x19 =>
valK (afieldAddr tab 32 v5.2.1 2) fun x20 =>
valK (loadA tab h7 4 x20) fun x21 =>
valK (abin tab .eql 4 x19 x21) fun x22 =>
boolK x22 (
valK (afieldAddr tab 32 v5.1 3) fun x23 =>
valK (loadA tab h7 9 x23) fun x24 =>
valK (afieldAddr tab 32 v5.2.1 3) fun x25 =>
valK (loadA tab h7 9 x25) fun x26 =>
valK (abin tab .eql 9 x24 x26) fun x27 =>
boolK x27 (
valK (afieldAddr tab 32 v5.1 4) fun x28 =>
valK (loadA tab h7 30 x28) fun x29 =>
valK (afieldAddr tab 32 v5.2.1 4) fun x30 =>
valK (loadA tab h7 30 x30) fun x31 =>
bothK (E (.fn 56) [x29, x31, (.func 11 [] [])] h7) fun x32 h33 =>
hpK (unmark h33 ms6) fun h34 =>
some (x32, h34)) (
hpK (unmark h7 ms6) fun h35 =>
some ((.bool false), h35))) (
hpK (unmark h7 ms6) fun h36 =>
some ((.bool false), h36))) (
hpK (unmark h7 ms6) fun h37 =>
some ((.bool false), h37))) (
hpK (unmark h7 ms6) fun h38 =>
some ((.bool false), h38))) fun j4_ =>
valK (loadA tab h3 32 x0) fun x39 =>
bothK (E (.fn 55) [x39] h3) fun x40 h41 =>
boolK x40 (
some ((.bool false), h41)) (
valK (loadA tab h41 32 x2) fun x42 =>
bothK (E (.fn 55) [x42] h41) fun x43 h44 =>
boolK x43 (
some ((.bool false), h44)) (
j4_ (x0, x2, ()) [] h44))
theorem F11_eq (E : Env) (n : Nat) (a0 a1 : AV) (h : AHeap) : fnK E tab a11 11 n [a0, a1] h = F11 E n a0 a1 h := by kernel_rfl

/-- whisk/whisklaw10.file (name, data, exec) -/
noncomputable def F12 (E : Env) (n : Nat) (a0 a1 a2 : AV) (h : AHeap) : Option (AV × AHeap) :=
bothK (newCells h [.str [], .int .i64 0, .bool false, .str [], .nilslice] fun o => .ptr o 0) fun x0 h1 =>
valK (abuild tab 32 [(0, a0), (1, (.int .i64 1)), (3, a1), (2, a2)]) fun x2 =>
hpK (storeA tab h1 32 x0 x2) fun h3 =>
valK (loadA tab h3 32 x0) fun x4 =>
some (x4, h3)
theorem F12_eq (E : Env) (n : Nat) (a0 a1 a2 : AV) (h : AHeap) : fnK E tab a12 12 n [a0, a1, a2] h = F12 E n a0 a1 a2 h := by kernel_rfl

/-- whisk/whisklaw10.link (name, to) -/
noncomputable def F13 (E : Env) (n : Nat) (a0 a1 : AV) (h : AHeap) : Option (AV × AHeap) :=
bothK (newCells h [.str [], .int .i64 0, .bool false, .str [], .nilslice] fun o => .ptr o 0) fun x0 h1 =>
valK (abuild tab 32 [(0, a0), (1, (.int .i64 3)), (3, a1)]) fun x2 =>
hpK (storeA tab h1 32 x0 x2) fun h3 =>
valK (loadA tab h3 32 x0) fun x4 =>
some (x4, h3)
theorem F13_eq (E : Env) (n : Nat) (a0 a1 : AV) (h : AHeap) : fnK E tab a13 13 n [a0, a1] h = F13 E n a0 a1 h := by kernel_rfl

/-- whisk/whisklaw10.works () -/
noncomputable def F15 (E : Env) (n : Nat) (h : AHeap) : Option (AV × AHeap) :=
valK (abuild tab 25 [(0, (.int .i64 20)), (1, (.int .i64 200))]) fun x0 =>
bothK (E (.fn 6) [x0] h) fun x1 h2 =>
jn (fun (v4 : AV × Unit) (ms5 : List Nat) (h6 : AHeap) =>
bothK (E (.fn 10) [v4.1, (.str [47, 111])] h6) fun x7 h8 =>
valK (extractA x7 0) fun x9 =>
valK (extractA x7 1) fun x10 =>
bothK (newCells h8 [.str [], .int .i64 0, .bool false, .str [], .nilslice] fun o => .ptr o 0) fun x11 h12 =>
hpK (storeA tab h12 32 x11 x9) fun h13 =>
bothK (E (.fn 10) [v4.1, (.str [47, 112])] h13) fun x14 h15 =>
valK (extractA x14 0) fun x16 =>
valK (extractA x14 1) fun x17 =>
bothK (newCells h15 [.str [], .int .i64 0, .bool false, .str [], .nilslice] fun o => .ptr o 0) fun x18 h19 =>
hpK (storeA tab h19 32 x18 x16) fun h20 =>
valK (abin tab .eql 26 x10 (.int .i64 0)) fun x21 =>
boolK x21 (
valK (abin tab .eql 26 x17 (.int .i64 5)) fun x22 =>
boolK x22 (
valK (loadA tab h20 32 x11) fun x23 =>
bothK (E (.fn 12) [(.str [104]), (.str [49]), (.bool true)] h20) fun x24 h25 =>
valK (loadA tab h25 32 x11) fun x26 =>
sameK x26 x23 (
bothK (E (.fn 13) [(.str [108]), (.str [120])] h25) fun x27 h28 =>
valK (loadA tab h28 32 x11) fun x29 =>
sameK x29 x23 (
bothK (E (.fn 12) [(.str [120]), (.str [49]), (.bool true)] h28) fun x30 h31 =>
valK (loadA tab h31 32 x11) fun x32 =>
sameK x32 x23 (
bothK (abuildSlice tab h31 30 3 [(0, x24), (1, x27), (2, x30)]) fun x33 h34 =>
valK (abuild tab 32 [(1, (.int .i64 2)), (4, x33)]) fun x35 =>
bothK (E (.fn 11) [x23, x35] h34) fun x36 h37 =>
hpK (unmark h37 ms5) fun h38 =>
some (x36, h38))))) (
hpK (unmark h20 ms5) fun h39 =>
some ((.bool false), h39))) (
hpK (unmark h20 ms5) fun h40 =>
some ((.bool false), h40))) fun j3_ =>
valK (abin tab .eql 22 x1 (.nilptr)) fun x41 =>
boolK x41 (
some ((.bool false), h2)) (
bothK (E (.fn 9) [x1, (.str [47]), (.str [111])] h2) fun x42 h43 =>
valK (abin tab .neq 26 x42 (.int .i64 0)) fun x44 =>
boolK x44 (
some ((.bool false), h43)) (
bothK (E (.fn 7) [x1, (.str [47, 111]), (.str [120]), (.str [49]), (.bool false)] h43) fun x45 h46 =>
valK (abin tab .neq 26 x45 (.int .i64 0)) fun x47 =>
boolK x47 (
some ((.bool false), h46)) (
bothK (E (.fn 25) [x1, (.str [47, 111]), (.str [120]), (.int .i64 448)] h46) fun x48 h49 =>
valK (abin tab .neq 26 x48 (.int .i64 0)) fun x50 =>
boolK x50 (
some ((.bool false), h49)) (
bothK (E (.fn 8) [x1, (.str [47, 111]), (.str [120]), (.str [108])] h49) fun x51 h52 =>
valK (abin tab .neq 26 x51 (.int .i64 0)) fun x53 =>
boolK x53 (
some ((.bool false), h52)) (
bothK (E (.fn 18) [x1, (.str [47, 111]), (.str [120]), (.str [104])] h52) fun x54 h55 =>
valK (abin tab .neq 26 x54 (.int .i64 0)) fun x56 =>
boolK x56 (
some ((.bool false), h55)) (
j3_ (x1, ()) [] h55))))))
theorem F15_eq (E : Env) (n : Nat) (h : AHeap) : fnK E tab a15 15 n [] h = F15 E n h := by kernel_rfl

/-- whisk/whisklaw08.small () -/
noncomputable def F16 (E : Env) (n : Nat) (h : AHeap) : Option (AV × AHeap) :=
bothK (E (.fn 63) [] h) fun x0 h1 =>
bothK (E (.fn 6) [x0] h1) fun x2 h3 =>
valK (abin tab .eql 22 x2 (.nilptr)) fun x4 =>
boolK x4 (
some ((.nilptr), h3)) (
bothK (E (.fn 9) [x2, (.str [47]), (.str [97])] h3) fun x5 h6 =>
valK (abin tab .neq 26 x5 (.int .i64 0)) fun x7 =>
boolK x7 (
some ((.nilptr), h6)) (
bothK (E (.fn 7) [x2, (.str [47, 97]), (.str [102]), (.str [104, 105]), (.bool false)] h6) fun x8 h9 =>
valK (abin tab .neq 26 x8 (.int .i64 0)) fun x10 =>
boolK x10 (
some ((.nilptr), h9)) (
bothK (E (.fn 8) [x2, (.str [47]), (.str [97, 47, 102]), (.str [108])] h9) fun x11 h12 =>
valK (abin tab .neq 26 x11 (.int .i64 0)) fun x13 =>
boolK x13 (
some ((.nilptr), h12)) (
bothK (E (.fn 8) [x2, (.str [47]), (.str [109]), (.str [109])] h12) fun x14 h15 =>
valK (abin tab .neq 26 x14 (.int .i64 0)) fun x16 =>
boolK x16 (
some ((.nilptr), h15)) (
some (x2, h15))))))
theorem F16_eq (E : Env) (n : Nat) (h : AHeap) : fnK E tab a16 16 n [] h = F16 E n h := by kernel_rfl

/-- whisk/whisklaw08.reads (f, cwd, path, want, e) -/
noncomputable def F17 (E : Env) (n : Nat) (a0 a1 a2 a3 a4 : AV) (h : AHeap) : Option (AV × AHeap) :=
bothK (E (.fn 27) [a0, a1, a2] h) fun x0 h1 =>
valK (extractA x0 0) fun x2 =>
valK (extractA x0 1) fun x3 =>
valK (abin tab .eql 9 x2 a3) fun x4 =>
boolK x4 (
valK (abin tab .eql 26 x3 a4) fun x5 =>
some (x5, h1)) (
some ((.bool false), h1))
theorem F17_eq (E : Env) (n : Nat) (a0 a1 a2 a3 a4 : AV) (h : AHeap) : fnK E tab a17 17 n [a0, a1, a2, a3, a4] h = F17 E n a0 a1 a2 a3 a4 h := by kernel_rfl

/-- (*whisk/fs.Fs).Hard (f, cwd, from, to) -/
noncomputable def F18 (E : Env) (n : Nat) (a0 a1 a2 a3 : AV) (h : AHeap) : Option (AV × AHeap) :=
bothK (E (.fn 64) [a0, a1, a2, a3] h) fun x0 h1 =>
valK (extractA x0 0) fun x2 =>
valK (extractA x0 1) fun x3 =>
valK (extractA x0 2) fun x4 =>
bothK (newCells h1 [.int .i64 0, .str [], .int .i64 0, .bool false] fun o => .ptr o 0) fun x5 h6 =>
bothK (newCells h6 [.int .i64 0, .str [], .int .i64 0, .bool false] fun o => .ptr o 0) fun x7 h8 =>
hpK (storeA tab h8 77 x5 x2) fun h9 =>
hpK (storeA tab h9 77 x7 x3) fun h10 =>
valK (abin tab .neq 26 x4 (.int .i64 0)) fun x11 =>
boolK x11 (
some (x4, h10)) (
valK (afieldAddr tab 77 x5 3) fun x12 =>
valK (loadA tab h10 4 x12) fun x13 =>
valK (aun .not x13) fun x14 =>
boolK x14 (
some ((.int .i64 5), h10)) (
valK (afieldAddr tab 77 x5 2) fun x15 =>
valK (loadA tab h10 3 x15) fun x16 =>
bothK (E (.fn 65) [a0, x16] h10) fun x17 h18 =>
valK (abin tab .eql 3 x17 (.int .i64 2)) fun x19 =>
boolK x19 (
some ((.int .i64 7), h18)) (
valK (afieldAddr tab 77 x5 2) fun x20 =>
valK (loadA tab h18 3 x20) fun x21 =>
bothK (E (.fn 65) [a0, x21] h18) fun x22 h23 =>
valK (abin tab .eql 3 x22 (.int .i64 3)) fun x24 =>
boolK x24 (
some ((.int .i64 2), h23)) (
valK (afieldAddr tab 77 x7 3) fun x25 =>
valK (loadA tab h23 4 x25) fun x26 =>
boolK x26 (
some ((.int .i64 6), h23)) (
valK (nilA a0) fun x27 =>
valK (afieldAddr tab 75 x27 0) fun x28 =>
valK (loadA tab h23 72 x28) fun x29 =>
valK (afieldAddr tab 77 x7 0) fun x30 =>
valK (loadA tab h23 3 x30) fun x31 =>
valK (afieldAddr tab 77 x7 1) fun x32 =>
valK (loadA tab h23 9 x32) fun x33 =>
valK (afieldAddr tab 77 x5 2) fun x34 =>
valK (loadA tab h23 3 x34) fun x35 =>
bothK (E (.fn 66) [x29, x31, x33, x35] h23) fun x36 h37 =>
some (x36, h37))))))
theorem F18_eq (E : Env) (n : Nat) (a0 a1 a2 a3 : AV) (h : AHeap) : fnK E tab a18 18 n [a0, a1, a2, a3] h = F18 E n a0 a1 a2 a3 h := by kernel_rfl

/-- (*whisk/fs.Fs).Stat (f, cwd, path, follow) -/
noncomputable def F19 (E : Env) (n : Nat) (a0 a1 a2 a3 : AV) (h : AHeap) : Option (AV × AHeap) :=
bothK (newCells h [.int .i64 0, .int .i64 0, .str [], .int .i64 0] fun o => .ptr o 0) fun x0 h1 =>
bothK (E (.fn 67) [a0, a1, a2, a3, (.func 68 [] [x0])] h1) fun x2 h3 =>
valK (loadA tab h3 43 x0) fun x4 =>
hpK (storeA tab h3 43 x0 x4) fun h5 =>
valK (loadA tab h5 43 x0) fun x6 =>
some (.tuple [x6, x2], h5)
theorem F19_eq (E : Env) (n : Nat) (a0 a1 a2 a3 : AV) (h : AHeap) : fnK E tab a19 19 n [a0, a1, a2, a3] h = F19 E n a0 a1 a2 a3 h := by kernel_rfl

/-- (*whisk/fs.Fs).Used (f) -/
noncomputable def F20 (E : Env) (n : Nat) (a0 : AV) (h : AHeap) : Option (AV × AHeap) :=
bothK (newCells h [.int .i64 0, .int .i64 0] fun o => .ptr o 0) fun x0 h1 =>
bothK (E (.fn 47) [a0] h1) fun x2 h3 =>
boolK x2 (
valK (abuild tab 25 []) fun x4 =>
hpK (storeA tab h3 25 x0 x4) fun h5 =>
valK (loadA tab h5 25 x0) fun x6 =>
some (x6, h5)) (
valK (nilA a0) fun x7 =>
valK (afieldAddr tab 75 x7 0) fun x8 =>
valK (loadA tab h3 72 x8) fun x9 =>
bothK (E (.fn 69) [x9] h3) fun x10 h11 =>
hpK (storeA tab h11 25 x0 x10) fun h12 =>
valK (loadA tab h12 25 x0) fun x13 =>
some (x13, h12))
theorem F20_eq (E : Env) (n : Nat) (a0 : AV) (h : AHeap) : fnK E tab a20 20 n [a0] h = F20 E n a0 h := by kernel_rfl

/-- (*whisk/fs.Fs).Remove (f, cwd, path) -/
noncomputable def F21 (E : Env) (n : Nat) (a0 a1 a2 : AV) (h : AHeap) : Option (AV × AHeap) :=
bothK (E (.fn 43) [a0, a1, a2, (.bool false)] h) fun x0 h1 =>
valK (extractA x0 0) fun x2 =>
valK (extractA x0 1) fun x3 =>
bothK (newCells h1 [.int .i64 0, .str [], .int .i64 0, .bool false] fun o => .ptr o 0) fun x4 h5 =>
hpK (storeA tab h5 77 x4 x2) fun h6 =>
valK (abin tab .neq 26 x3 (.int .i64 0)) fun x7 =>
boolK x7 (
some (x3, h6)) (
valK (afieldAddr tab 77 x4 3) fun x8 =>
valK (loadA tab h6 4 x8) fun x9 =>
valK (aun .not x9) fun x10 =>
boolK x10 (
some ((.int .i64 5), h6)) (
valK (afieldAddr tab 77 x4 1) fun x11 =>
valK (loadA tab h6 9 x11) fun x12 =>
valK (abin tab .eql 9 x12 (.str [])) fun x13 =>
boolK x13 (
some ((.int .i64 2), h6)) (
valK (nilA a0) fun x14 =>
valK (afieldAddr tab 75 x14 0) fun x15 =>
valK (loadA tab h6 72 x15) fun x16 =>
valK (afieldAddr tab 77 x4 2) fun x17 =>
valK (loadA tab h6 3 x17) fun x18 =>
bothK (E (.fn 70) [x16, x18] h6) fun x19 h20 =>
valK (alen tab h20 47 x19) fun x21 =>
valK (abin tab .gtr 3 x21 (.int .i64 0)) fun x22 =>
boolK x22 (
some ((.int .i64 20), h20)) (
valK (nilA a0) fun x23 =>
valK (afieldAddr tab 75 x23 0) fun x24 =>
valK (loadA tab h20 72 x24) fun x25 =>
valK (afieldAddr tab 77 x4 0) fun x26 =>
valK (loadA tab h20 3 x26) fun x27 =>
valK (afieldAddr tab 77 x4 1) fun x28 =>
valK (loadA tab h20 9 x28) fun x29 =>
bothK (E (.fn 71) [x25, x27, x29] h20) fun x30 h31 =>
some (x30, h31)))))
theorem F21_eq (E : Env) (n : Nat) (a0 a1 a2 : AV) (h : AHeap) : fnK E tab a21 21 n [a0, a1, a2] h = F21 E n a0 a1 a2 h := by kernel_rfl

/-- (*whisk/fs.Fs).Rename (f, cwd, from, to) -/
noncomputable def F22 (E : Env) (n : Nat) (a0 a1 a2 a3 : AV) (h : AHeap) : Option (AV × AHeap) :=
bothK (E (.fn 64) [a0, a1, a2, a3] h) fun x0 h1 =>
valK (extractA x0 0) fun x2 =>
valK (extractA x0 1) fun x3 =>
valK (extractA x0 2) fun x4 =>
bothK (newCells h1 [.int .i64 0, .str [], .int .i64 0, .bool false] fun o => .ptr o 0) fun x5 h6 =>
bothK (newCells h6 [.int .i64 0, .str [], .int .i64 0, .bool false] fun o => .ptr o 0) fun x7 h8 =>
hpK (storeA tab h8 77 x5 x2) fun h9 =>
hpK (storeA tab h9 77 x7 x3) fun h10 =>
jn (fun (v12 : AV × AV × AV × Unit) (ms13 : List Nat) (h14 : AHeap) =>
valK (loadA tab h14 77 v12.2.1) fun x15 =>
valK (loadA tab h14 77 v12.2.2.1) fun x16 =>
bothK (E (.fn 72) [v12.1, x15, x16] h14) fun x17 h18 =>
valK (abin tab .neq 26 x17 (.int .i64 0)) fun x19 =>
boolK x19 (
hpK (unmark h18 ms13) fun h20 =>
some (x17, h20)) (
jn (fun (v22 : AV × AV × AV × Unit) (ms23 : List Nat) (h24 : AHeap) =>
valK (nilA v22.1) fun x25 =>
valK (afieldAddr tab 75 x25 0) fun x26 =>
valK (loadA tab h24 72 x26) fun x27 =>
valK (afieldAddr tab 77 v22.2.1 0) fun x28 =>
valK (loadA tab h24 3 x28) fun x29 =>
valK (afieldAddr tab 77 v22.2.1 1) fun x30 =>
valK (loadA tab h24 9 x30) fun x31 =>
valK (afieldAddr tab 77 v22.2.2.1 0) fun x32 =>
valK (loadA tab h24 3 x32) fun x33 =>
valK (afieldAddr tab 77 v22.2.2.1 1) fun x34 =>
valK (loadA tab h24 9 x34) fun x35 =>
bothK (E (.fn 73) [x27, x29, x31, x33, x35] h24) fun x36 h37 =>
hpK (unmark h37 ms23) fun h38 =>
some (x36, h38)) fun j21_ =>
valK (afieldAddr tab 77 v12.2.2.1 3) fun x39 =>
valK (loadA tab h18 4 x39) fun x40 =>
boolK x40 (
valK (nilA v12.1) fun x41 =>
valK (afieldAddr tab 75 x41 0) fun x42 =>
valK (loadA tab h18 72 x42) fun x43 =>
valK (afieldAddr tab 77 v12.2.2.1 0) fun x44 =>
valK (loadA tab h18 3 x44) fun x45 =>
valK (afieldAddr tab 77 v12.2.2.1 1) fun x46 =>
valK (loadA tab h18 9 x46) fun x47 =>
bothK (E (.fn 71) [x43, x45, x47] h18) fun x48 h49 =>
valK (abin tab .neq 26 x48 (.int .i64 0)) fun x50 =>
boolK x50 (
hpK (unmark h49 ms13) fun h51 =>
some (x48, h51)) (
j21_ (v12.1, v12.2.1, v12.2.2.1, ()) ms13 h49)) (
j21_ (v12.1, v12.2.1, v12.2.2.1, ()) ms13 h18))) fun j11_ =>
valK (abin tab .neq 26 x4 (.int .i64 0)) fun x52 =>
boolK x52 (
some (x4, h10)) (
jn (fun (v54 : AV × AV × AV × AV × Unit) (ms55 : List Nat) (h56 : AHeap) =>
boolK v54.2.2.2.1 (
hpK (unmark h56 ms55) fun h57 =>
some ((.int .i64 2), h57)) (
valK (afieldAddr tab 77 v54.2.1 3) fun x58 =>
valK (loadA tab h56 4 x58) fun x59 =>
valK (aun .not x59) fun x60 =>
boolK x60 (
hpK (unmark h56 ms55) fun h61 =>
some ((.int .i64 5), h61)) (
valK (afieldAddr tab 77 v54.2.2.1 3) fun x62 =>
valK (loadA tab h56 4 x62) fun x63 =>
boolK x63 (
valK (afieldAddr tab 77 v54.2.1 2) fun x64 =>
valK (loadA tab h56 3 x64) fun x65 =>
valK (afieldAddr tab 77 v54.2.2.1 2) fun x66 =>
valK (loadA tab h56 3 x66) fun x67 =>
valK (abin tab .eql 3 x65 x67) fun x68 =>
boolK x68 (
hpK (unmark h56 ms55) fun h69 =>
some ((.int .i64 0), h69)) (
j11_ (v54.1, v54.2.1, v54.2.2.1, ()) ms55 h56)) (
j11_ (v54.1, v54.2.1, v54.2.2.1, ()) ms55 h56)))) fun j53_ =>
valK (afieldAddr tab 77 x5 1) fun x70 =>
valK (loadA tab h10 9 x70) fun x71 =>
valK (abin tab .eql 9 x71 (.str [])) fun x72 =>
boolK x72 (
j53_ (a0, x5, x7, (.bool true), ()) [] h10) (
valK (afieldAddr tab 77 x7 1) fun x73 =>
valK (loadA tab h10 9 x73) fun x74 =>
valK (abin tab .eql 9 x74 (.str [])) fun x75 =>
j53_ (a0, x5, x7, x75, ()) [] h10))
theorem F22_eq (E : Env) (n : Nat) (a0 a1 a2 a3 : AV) (h : AHeap) : fnK E tab a22 22 n [a0, a1, a2, a3] h = F22 E n a0 a1 a2 a3 h := by kernel_rfl

/-- (*whisk/fs.Fs).List (f, cwd, path) -/
noncomputable def F23 (E : Env) (n : Nat) (a0 a1 a2 : AV) (h : AHeap) : Option (AV × AHeap) :=
bothK (boxA h a0) fun x0 h1 =>
bothK (newCells h1 [.nilslice] fun o => .ptr o 0) fun x2 h3 =>
valK (loadA tab h3 22 x0) fun x4 =>
bothK (E (.fn 67) [x4, a1, a2, (.bool true), (.func 74 [] [x0, x2])] h3) fun x5 h6 =>
valK (loadA tab h6 47 x2) fun x7 =>
hpK (storeA tab h6 47 x2 x7) fun h8 =>
valK (loadA tab h8 47 x2) fun x9 =>
some (.tuple [x9, x5], h8)
theorem F23_eq (E : Env) (n : Nat) (a0 a1 a2 : AV) (h : AHeap) : fnK E tab a23 23 n [a0, a1, a2] h = F23 E n a0 a1 a2 h := by kernel_rfl

/-- v: 0 a, 1 b, 5 i -/
noncomputable def F24_b4 (E : Env) (n : Nat) (v : AV × AV × AV × Unit) (ms : List Nat) (h : AHeap) (next3_ : AV × AV × AV × Unit → List Nat → AHeap → Option (AV × AHeap)) : Option (AV × AHeap) :=
valK (alen tab h 47 v.1) fun x4 =>
valK (abin tab .lss 3 v.2.2.1 x4) fun x5 =>
boolK x5 (
valK (aindexAddr tab 47 v.1 v.2.2.1) fun x6 =>
valK (loadA tab h 9 x6) fun x7 =>
valK (aindexAddr tab 47 v.2.1 v.2.2.1) fun x8 =>
valK (loadA tab h 9 x8) fun x9 =>
valK (abin tab .neq 9 x7 x9) fun x10 =>
boolK x10 (
hpK (unmark h ms) fun h11 =>
some ((.bool false), h11)) (
valK (abin tab .add 3 v.2.2.1 (.int .i64 1)) fun x12 =>
next3_ (v.1, v.2.1, x12, ()) ms h)) (
hpK (unmark h ms) fun h13 =>
some ((.bool true), h13))
/-- whisk/whiskref06.Texts (a, b) -/
noncomputable def F24 (E : Env) (n : Nat) (a0 a1 : AV) (h : AHeap) : Option (AV × AHeap) :=
valK (alen tab h 47 a0) fun x0 =>
valK (alen tab h 47 a1) fun x1 =>
valK (abin tab .neq 3 x0 x1) fun x2 =>
boolK x2 (
some ((.bool false), h)) (
loopN (F24_b4 E n) n (a0, a1, (.int .i64 0), ()) [] h)
theorem F24_eq (E : Env) (n : Nat) (a0 a1 : AV) (h : AHeap) : fnK E tab a24 24 n [a0, a1] h = F24 E n a0 a1 h := by kernel_rfl

/-- (*whisk/fs.Fs).Chmod (f, cwd, path, mode) -/
noncomputable def F25 (E : Env) (n : Nat) (a0 a1 a2 a3 : AV) (h : AHeap) : Option (AV × AHeap) :=
bothK (boxA h a0) fun x0 h1 =>
bothK (boxA h1 a3) fun x2 h3 =>
valK (loadA tab h3 22 x0) fun x4 =>
bothK (E (.fn 47) [x4] h3) fun x5 h6 =>
boolK x5 (
some ((.int .i64 1), h6)) (
valK (loadA tab h6 3 x2) fun x7 =>
valK (abin tab .lss 3 x7 (.int .i64 0)) fun x8 =>
boolK x8 (
some ((.int .i64 2), h6)) (
valK (loadA tab h6 3 x2) fun x9 =>
valK (abin tab .gtr 3 x9 (.int .i64 511)) fun x10 =>
boolK x10 (
some ((.int .i64 2), h6)) (
valK (loadA tab h6 22 x0) fun x11 =>
bothK (E (.fn 67) [x11, a1, a2, (.bool true), (.func 75 [] [x0, x2])] h6) fun x12 h13 =>
some (x12, h13))))
theorem F25_eq (E : Env) (n : Nat) (a0 a1 a2 a3 : AV) (h : AHeap) : fnK E tab a25 25 n [a0, a1, a2, a3] h = F25 E n a0 a1 a2 a3 h := by kernel_rfl

/-- (*whisk/fs.Fs).Lay (f, path, n) -/
noncomputable def F26 (E : Env) (n : Nat) (a0 a1 a2 : AV) (h : AHeap) : Option (AV × AHeap) :=
bothK (boxA h a0) fun x0 h1 =>
bothK (boxA h1 a2) fun x2 h3 =>
valK (loadA tab h3 22 x0) fun x4 =>
bothK (E (.fn 47) [x4] h3) fun x5 h6 =>
boolK x5 (
some ((.int .i64 1), h6)) (
valK (loadA tab h6 32 x2) fun x7 =>
bothK (E (.fn 54) [x7] h6) fun x8 h9 =>
valK (abin tab .neq 26 x8 (.int .i64 0)) fun x10 =>
boolK x10 (
some (x8, h9)) (
valK (loadA tab h9 22 x0) fun x11 =>
bothK (E (.fn 49) [x11, (.str [47]), a1, (.func 77 [] [x2, x0])] h9) fun x12 h13 =>
some (x12, h13)))
theorem F26_eq (E : Env) (n : Nat) (a0 a1 a2 : AV) (h : AHeap) : fnK E tab a26 26 n [a0, a1, a2] h = F26 E n a0 a1 a2 h := by kernel_rfl

/-- (*whisk/fs.Fs).Read (f, cwd, path) -/
noncomputable def F27 (E : Env) (n : Nat) (a0 a1 a2 : AV) (h : AHeap) : Option (AV × AHeap) :=
bothK (newCells h [.str []] fun o => .ptr o 0) fun x0 h1 =>
bothK (E (.fn 67) [a0, a1, a2, (.bool true), (.func 82 [] [x0])] h1) fun x2 h3 =>
valK (loadA tab h3 9 x0) fun x4 =>
hpK (storeA tab h3 9 x0 x4) fun h5 =>
valK (loadA tab h5 9 x0) fun x6 =>
some (.tuple [x6, x2], h5)
theorem F27_eq (E : Env) (n : Nat) (a0 a1 a2 : AV) (h : AHeap) : fnK E tab a27 27 n [a0, a1, a2] h = F27 E n a0 a1 a2 h := by kernel_rfl

/-- v: 0 f, 10 out, 11 dir, 12 up, 62, 63, 64 -/
noncomputable def F28_b12 (E : Env) (n : Nat) (next17_ : AV × AV × AV × Unit → List Nat → AHeap → Option (AV × AHeap)) (v : AV × AV × AV × AV × AV × AV × AV × Unit) (ms : List Nat) (h : AHeap) (next35_ : AV × AV × AV × AV × AV × AV × AV × Unit → List Nat → AHeap → Option (AV × AHeap)) : Option (AV × AHeap) :=
valK (abin tab .lss 3 v.2.2.2.2.2.2.1 v.2.2.2.2.2.1) fun x36 =>
boolK x36 (
valK (aindexAddr tab 47 v.2.2.2.2.1 v.2.2.2.2.2.2.1) fun x37 =>
valK (loadA tab h 9 x37) fun x38 =>
valK (nilA v.1) fun x39 =>
valK (afieldAddr tab 75 x39 0) fun x40 =>
valK (loadA tab h 72 x40) fun x41 =>
bothK (E (.fn 85) [x41, v.2.2.2.1, x38] h) fun x42 h43 =>
valK (extractA x42 0) fun x44 =>
valK (extractA x42 1) fun x45 =>
valK (abin tab .eql 3 x44 v.2.2.1) fun x46 =>
boolK x46 (
valK (abin tab .add 9 (.str [47]) x38) fun x47 =>
valK (abin tab .add 9 x47 v.2.1) fun x48 =>
valK (abin tab .add 3 v.2.2.2.2.2.2.1 (.int .i64 1)) fun x49 =>
next35_ (v.1, x48, v.2.2.1, v.2.2.2.1, v.2.2.2.2.1, v.2.2.2.2.2.1, x49, ()) ms h43) (
valK (abin tab .add 3 v.2.2.2.2.2.2.1 (.int .i64 1)) fun x50 =>
next35_ (v.1, v.2.1, v.2.2.1, v.2.2.2.1, v.2.2.2.2.1, v.2.2.2.2.2.1, x50, ()) ms h43)) (
next17_ (v.1, v.2.1, v.2.2.2.1, ()) ms h)
/-- v: 0 f, 10 out, 11 dir -/
noncomputable def F28_b9 (E : Env) (n : Nat) (v : AV × AV × AV × Unit) (ms : List Nat) (h : AHeap) (next17_ : AV × AV × AV × Unit → List Nat → AHeap → Option (AV × AHeap)) : Option (AV × AHeap) :=
valK (nilA v.1) fun x18 =>
valK (afieldAddr tab 75 x18 0) fun x19 =>
valK (loadA tab h 72 x19) fun x20 =>
bothK (E (.fn 83) [x20] h) fun x21 h22 =>
valK (abin tab .neq 3 v.2.2.1 x21) fun x23 =>
boolK x23 (
valK (nilA v.1) fun x24 =>
valK (afieldAddr tab 75 x24 0) fun x25 =>
valK (loadA tab h22 72 x25) fun x26 =>
bothK (E (.fn 84) [x26, v.2.2.1] h22) fun x27 h28 =>
valK (nilA v.1) fun x29 =>
valK (afieldAddr tab 75 x29 0) fun x30 =>
valK (loadA tab h28 72 x30) fun x31 =>
bothK (E (.fn 70) [x31, x27] h28) fun x32 h33 =>
valK (alen tab h33 47 x32) fun x34 =>
loopN (F28_b12 E n next17_) n (v.1, v.2.1, v.2.2.1, x27, x32, x34, (.int .i64 0), ()) ms h33) (
valK (abin tab .eql 9 v.2.1 (.str [])) fun x51 =>
boolK x51 (
hpK (unmark h22 ms) fun h52 =>
some (.tuple [(.str [47]), (.int .i64 0)], h52)) (
hpK (unmark h22 ms) fun h53 =>
some (.tuple [v.2.1, (.int .i64 0)], h53)))
/-- (*whisk/fs.Fs).Real (f, cwd, path) -/
noncomputable def F28 (E : Env) (n : Nat) (a0 a1 a2 : AV) (h : AHeap) : Option (AV × AHeap) :=
bothK (E (.fn 43) [a0, a1, a2, (.bool true)] h) fun x0 h1 =>
valK (extractA x0 0) fun x2 =>
valK (extractA x0 1) fun x3 =>
bothK (newCells h1 [.int .i64 0, .str [], .int .i64 0, .bool false] fun o => .ptr o 0) fun x4 h5 =>
hpK (storeA tab h5 77 x4 x2) fun h6 =>
valK (abin tab .neq 26 x3 (.int .i64 0)) fun x7 =>
boolK x7 (
some (.tuple [(.str []), x3], h6)) (
valK (afieldAddr tab 77 x4 3) fun x8 =>
valK (loadA tab h6 4 x8) fun x9 =>
valK (aun .not x9) fun x10 =>
boolK x10 (
some (.tuple [(.str []), (.int .i64 5)], h6)) (
valK (afieldAddr tab 77 x4 2) fun x11 =>
valK (loadA tab h6 3 x11) fun x12 =>
jn (fun (v14 : AV × AV × AV × Unit) (ms15 : List Nat) (h16 : AHeap) =>
loopN (F28_b9 E n) n (v14.1, v14.2.1, v14.2.2.1, ()) ms15 h16) fun j13_ =>
valK (afieldAddr tab 77 x4 2) fun x54 =>
valK (loadA tab h6 3 x54) fun x55 =>
bothK (E (.fn 65) [a0, x55] h6) fun x56 h57 =>
valK (abin tab .neq 3 x56 (.int .i64 2)) fun x58 =>
boolK x58 (
valK (afieldAddr tab 77 x4 1) fun x59 =>
valK (loadA tab h57 9 x59) fun x60 =>
valK (abin tab .add 9 (.str [47]) x60) fun x61 =>
valK (afieldAddr tab 77 x4 0) fun x62 =>
valK (loadA tab h57 3 x62) fun x63 =>
j13_ (a0, x61, x63, ()) [] h57) (
j13_ (a0, (.str []), x12, ()) [] h57)))
theorem F28_eq (E : Env) (n : Nat) (a0 a1 a2 : AV) (h : AHeap) : fnK E tab a28 28 n [a0, a1, a2] h = F28 E n a0 a1 a2 h := by kernel_rfl

/-- whisk/whisklaw08.works () -/
noncomputable def F29 (E : Env) (n : Nat) (h : AHeap) : Option (AV × AHeap) :=
bothK (E (.fn 16) [] h) fun x0 h1 =>
jn (fun (v3 : AV × Unit) (ms4 : List Nat) (h5 : AHeap) =>
bothK (E (.fn 19) [v3.1, (.str [47]), (.str [108]), (.bool false)] h5) fun x6 h7 =>
valK (extractA x6 0) fun x8 =>
valK (extractA x6 1) fun x9 =>
bothK (newCells h7 [.int .i64 0, .int .i64 0, .str [], .int .i64 0] fun o => .ptr o 0) fun x10 h11 =>
hpK (storeA tab h11 43 x10 x8) fun h12 =>
bothK (E (.fn 28) [v3.1, (.str [47, 97]), (.str [46, 46, 47, 108])] h12) fun x13 h14 =>
valK (extractA x13 0) fun x15 =>
valK (extractA x13 1) fun x16 =>
bothK (E (.fn 28) [v3.1, (.str [47]), (.str [46, 46])] h14) fun x17 h18 =>
valK (extractA x17 0) fun x19 =>
valK (extractA x17 1) fun x20 =>
valK (abin tab .eql 26 x9 (.int .i64 0)) fun x21 =>
boolK x21 (
valK (afieldAddr tab 43 x10 0) fun x22 =>
valK (loadA tab h18 3 x22) fun x23 =>
valK (abin tab .eql 3 x23 (.int .i64 3)) fun x24 =>
boolK x24 (
valK (abin tab .eql 26 x16 (.int .i64 0)) fun x25 =>
boolK x25 (
valK (abin tab .eql 9 x15 (.str [47, 97, 47, 102])) fun x26 =>
boolK x26 (
valK (abin tab .eql 26 x20 (.int .i64 0)) fun x27 =>
boolK x27 (
valK (abin tab .eql 9 x19 (.str [47])) fun x28 =>
boolK x28 (
bothK (E (.fn 9) [v3.1, (.str [47]), (.str [97, 47, 102, 47, 120])] h18) fun x29 h30 =>
valK (abin tab .eql 26 x29 (.int .i64 8)) fun x31 =>
boolK x31 (
bothK (E (.fn 21) [v3.1, (.str [47]), (.str [97])] h30) fun x32 h33 =>
valK (abin tab .eql 26 x32 (.int .i64 20)) fun x34 =>
hpK (unmark h33 ms4) fun h35 =>
some (x34, h35)) (
hpK (unmark h30 ms4) fun h36 =>
some ((.bool false), h36))) (
hpK (unmark h18 ms4) fun h37 =>
some ((.bool false), h37))) (
hpK (unmark h18 ms4) fun h38 =>
some ((.bool false), h38))) (
hpK (unmark h18 ms4) fun h39 =>
some ((.bool false), h39))) (
hpK (unmark h18 ms4) fun h40 =>
some ((.bool false), h40))) (
hpK (unmark h18 ms4) fun h41 =>
some ((.bool false), h41))) (
hpK (unmark h18 ms4) fun h42 =>
some ((.bool false), h42))) fun j2_ =>
valK (abin tab .eql 22 x0 (.nilptr)) fun x43 =>
boolK x43 (
some ((.bool false), h1)) (
bothK (E (.fn 17) [x0, (.str [47]), (.str [108]), (.str [104, 105]), (.int .i64 0)] h1) fun x44 h45 =>
valK (aun .not x44) fun x46 =>
boolK x46 (
some ((.bool false), h45)) (
bothK (E (.fn 17) [x0, (.str [47, 97]), (.str [46, 46, 47, 46, 46, 47, 97, 47, 46, 47, 102]), (.str [104, 105]), (.int .i64 0)] h45) fun x47 h48 =>
valK (aun .not x47) fun x49 =>
boolK x49 (
some ((.bool false), h48)) (
bothK (E (.fn 17) [x0, (.str [47]), (.str [109]), (.str []), (.int .i64 9)] h48) fun x50 h51 =>
valK (aun .not x50) fun x52 =>
boolK x52 (
some ((.bool false), h51)) (
bothK (E (.fn 17) [x0, (.str [47]), (.str [97]), (.str []), (.int .i64 7)] h51) fun x53 h54 =>
valK (aun .not x53) fun x55 =>
boolK x55 (
some ((.bool false), h54)) (
bothK (E (.fn 7) [x0, (.str [47]), (.str [108]), (.str [33]), (.bool true)] h54) fun x56 h57 =>
valK (abin tab .neq 26 x56 (.int .i64 0)) fun x58 =>
boolK x58 (
some ((.bool false), h57)) (
bothK (E (.fn 17) [x0, (.str [47, 97]), (.str [102]), (.str [104, 105, 33]), (.int .i64 0)] h57) fun x59 h60 =>
valK (aun .not x59) fun x61 =>
boolK x61 (
some ((.bool false), h60)) (
j2_ (x0, ()) [] h60)))))))
theorem F29_eq (E : Env) (n : Nat) (h : AHeap) : fnK E tab a29 29 n [] h = F29 E n h := by kernel_rfl

/-- whisk/inode.New (q) -/
noncomputable def F42 (E : Env) (n : Nat) (a0 : AV) (h : AHeap) : Option (AV × AHeap) :=
bothK (boxA h a0) fun x0 h1 =>
jn (fun (v3 : AV × Unit) (ms4 : List Nat) (h5 : AHeap) =>
valK (abuild tab 43 [(0, (.int .i64 2)), (1, (.int .i64 493)), (3, (.int .i64 1))]) fun x6 =>
bothK (newMapA h5) fun x7 h8 =>
valK (abuild tab 143 [(0, x6), (1, (.int .i64 1)), (2, x7)]) fun x9 =>
bothK (boxA h8 x9) fun x10 h11 =>
valK (loadA tab h11 25 v3.1) fun x12 =>
valK (abuild tab 25 [(0, (.int .i64 1))]) fun x13 =>
bothK (newMapA h11) fun x14 h15 =>
hpK (amapUpdate tab h15 144 x14 (.int .i64 1) x10) fun h16 =>
valK (abuild tab 146 [(0, x12), (1, x13), (2, x14), (3, (.int .i64 1))]) fun x17 =>
bothK (boxA h16 x17) fun x18 h19 =>
hpK (unmark h19 ms4) fun h20 =>
some (x18, h20)) fun j2_ =>
valK (afieldAddr tab 25 x0 0) fun x21 =>
valK (loadA tab h1 3 x21) fun x22 =>
valK (abin tab .lss 3 x22 (.int .i64 1)) fun x23 =>
boolK x23 (
some ((.nilptr), h1)) (
valK (afieldAddr tab 25 x0 0) fun x24 =>
valK (loadA tab h1 3 x24) fun x25 =>
valK (abin tab .gtr 3 x25 (.int .i64 1048576)) fun x26 =>
boolK x26 (
some ((.nilptr), h1)) (
valK (afieldAddr tab 25 x0 1) fun x27 =>
valK (loadA tab h1 3 x27) fun x28 =>
valK (abin tab .lss 3 x28 (.int .i64 0)) fun x29 =>
boolK x29 (
some ((.nilptr), h1)) (
valK (afieldAddr tab 25 x0 1) fun x30 =>
valK (loadA tab h1 3 x30) fun x31 =>
valK (abin tab .gtr 3 x31 (.int .i64 1073741824)) fun x32 =>
boolK x32 (
some ((.nilptr), h1)) (
j2_ (x0, ()) [] h1))))
theorem F42_eq (E : Env) (n : Nat) (a0 : AV) (h : AHeap) : fnK E tab a42 42 n [a0] h = F42 E n a0 h := by kernel_rfl

/-- (*whisk/fs.Fs).locate (f, cwd, path, follow) -/
noncomputable def F43 (E : Env) (n : Nat) (a0 a1 a2 a3 : AV) (h : AHeap) : Option (AV × AHeap) :=
bothK (newCells h [.int .i64 0, .str [], .int .i64 0, .bool false] fun o => .ptr o 0) fun x0 h1 =>
bothK (E (.fn 47) [a0] h1) fun x2 h3 =>
boolK x2 (
valK (abuild tab 77 []) fun x4 =>
hpK (storeA tab h3 77 x0 x4) fun h5 =>
valK (loadA tab h5 77 x0) fun x6 =>
some (.tuple [x6, (.int .i64 1)], h5)) (
valK (nilA a0) fun x7 =>
valK (afieldAddr tab 75 x7 0) fun x8 =>
valK (loadA tab h3 72 x8) fun x9 =>
bothK (E (.fn 83) [x9] h3) fun x10 h11 =>
bothK (newCells h11 [.int .i64 0] fun o => .ptr o 0) fun x12 h13 =>
hpK (storeA tab h13 3 x12 (.int .i64 8)) fun h14 =>
valK (abin tab .eql 9 a2 (.str [])) fun x15 =>
boolK x15 (
valK (abuild tab 77 []) fun x16 =>
hpK (storeA tab h14 77 x0 x16) fun h17 =>
valK (loadA tab h17 77 x0) fun x18 =>
some (.tuple [x18, (.int .i64 5)], h17)) (
valK (aindex tab 9 a2 (.int .i64 0)) fun x19 =>
valK (abin tab .neq 5 x19 (.int .u8 47)) fun x20 =>
boolK x20 (
bothK (E (.fn 58) [a1, (.str [47])] h14) fun x21 h22 =>
valK (aun .not x21) fun x23 =>
boolK x23 (
valK (abuild tab 77 []) fun x24 =>
hpK (storeA tab h22 77 x0 x24) fun h25 =>
valK (loadA tab h25 77 x0) fun x26 =>
some (.tuple [x26, (.int .i64 5)], h25)) (
bothK (E (.fn 97) [a0, x10, a1, (.bool true), x12] h22) fun x27 h28 =>
valK (extractA x27 0) fun x29 =>
valK (extractA x27 1) fun x30 =>
bothK (newCells h28 [.int .i64 0, .str [], .int .i64 0, .bool false] fun o => .ptr o 0) fun x31 h32 =>
hpK (storeA tab h32 77 x31 x29) fun h33 =>
valK (abin tab .neq 26 x30 (.int .i64 0)) fun x34 =>
boolK x34 (
valK (abuild tab 77 []) fun x35 =>
hpK (storeA tab h33 77 x0 x35) fun h36 =>
valK (loadA tab h36 77 x0) fun x37 =>
some (.tuple [x37, x30], h36)) (
valK (afieldAddr tab 77 x31 3) fun x38 =>
valK (loadA tab h33 4 x38) fun x39 =>
valK (aun .not x39) fun x40 =>
boolK x40 (
valK (abuild tab 77 []) fun x41 =>
hpK (storeA tab h33 77 x0 x41) fun h42 =>
valK (loadA tab h42 77 x0) fun x43 =>
some (.tuple [x43, (.int .i64 5)], h42)) (
valK (afieldAddr tab 77 x31 2) fun x44 =>
valK (loadA tab h33 3 x44) fun x45 =>
bothK (E (.fn 65) [a0, x45] h33) fun x46 h47 =>
valK (abin tab .neq 3 x46 (.int .i64 2)) fun x48 =>
boolK x48 (
valK (abuild tab 77 []) fun x49 =>
hpK (storeA tab h47 77 x0 x49) fun h50 =>
valK (loadA tab h50 77 x0) fun x51 =>
some (.tuple [x51, (.int .i64 8)], h50)) (
valK (afieldAddr tab 77 x31 2) fun x52 =>
valK (loadA tab h47 3 x52) fun x53 =>
hpK (storeA tab h47 3 x12 (.int .i64 8)) fun h54 =>
bothK (E (.fn 97) [a0, x53, a2, a3, x12] h54) fun x55 h56 =>
valK (extractA x55 0) fun x57 =>
valK (extractA x55 1) fun x58 =>
hpK (storeA tab h56 77 x0 x57) fun h59 =>
valK (loadA tab h59 77 x0) fun x60 =>
some (.tuple [x60, x58], h59)))))) (
bothK (E (.fn 97) [a0, x10, a2, a3, x12] h14) fun x61 h62 =>
valK (extractA x61 0) fun x63 =>
valK (extractA x61 1) fun x64 =>
hpK (storeA tab h62 77 x0 x63) fun h65 =>
valK (loadA tab h65 77 x0) fun x66 =>
some (.tuple [x66, x64], h65))))
theorem F43_eq (E : Env) (n : Nat) (a0 a1 a2 a3 : AV) (h : AHeap) : fnK E tab a43 43 n [a0, a1, a2, a3] h = F43 E n a0 a1 a2 a3 h := by kernel_rfl

/-- (*whisk/inode.Table).Make (t, dir, name, kind, mode, data) -/
noncomputable def F44 (E : Env) (n : Nat) (a0 a1 a2 a3 a4 a5 : AV) (h : AHeap) : Option (AV × AHeap) :=
bothK (boxA h a0) fun x0 h1 =>
bothK (boxA h1 a3) fun x2 h3 =>
bothK (boxA h3 a4) fun x4 h5 =>
bothK (boxA h5 a5) fun x6 h7 =>
valK (loadA tab h7 72 x0) fun x8 =>
valK (loadA tab h7 72 x0) fun x9 =>
valK (loadA tab h7 72 x0) fun x10 =>
bothK (E (.fn 102) [x9, a1] h7) fun x11 h12 =>
valK (loadA tab h12 72 x0) fun x13 =>
sameK x13 x10 (
valK (loadA tab h12 72 x0) fun x14 =>
sameK x14 x8 (
bothK (E (.fn 103) [a2] h12) fun x15 h16 =>
valK (loadA tab h16 72 x0) fun x17 =>
sameK x17 x10 (
valK (loadA tab h16 72 x0) fun x18 =>
sameK x18 x8 (
bothK (E (.fn 104) [x10, a1, a2] h16) fun x19 h20 =>
valK (loadA tab h20 72 x0) fun x21 =>
sameK x21 x8 (
bothK (abuildSlice tab h20 203 6 [(0, (.func 101 [x8] [])), (1, x11), (2, x15), (3, (.func 98 [] [x6, x2, x4])), (4, x19), (5, (.func 105 [] [x0, x6]))]) fun x22 h23 =>
bothK (E (.fn 100) [x22] h23) fun x24 h25 =>
valK (abin tab .neq 26 x24 (.int .i64 0)) fun x26 =>
boolK x26 (
some (.tuple [(.int .i64 0), x24], h25)) (
valK (loadA tab h25 72 x0) fun x27 =>
valK (nilA x27) fun x28 =>
valK (afieldAddr tab 146 x28 3) fun x29 =>
valK (loadA tab h25 3 x29) fun x30 =>
valK (abin tab .add 3 x30 (.int .i64 1)) fun x31 =>
valK (nilA x27) fun x32 =>
valK (afieldAddr tab 146 x32 3) fun x33 =>
hpK (storeA tab h25 3 x33 x31) fun h34 =>
valK (loadA tab h34 3 x2) fun x35 =>
valK (loadA tab h34 3 x4) fun x36 =>
valK (loadA tab h34 9 x6) fun x37 =>
valK (abuild tab 43 [(0, x35), (1, x36), (2, x37), (3, (.int .i64 1))]) fun x38 =>
valK (abuild tab 143 [(0, x38)]) fun x39 =>
bothK (boxA h34 x39) fun x40 h41 =>
jn (fun (v43 : AV × AV × AV × AV × AV × Unit) (ms44 : List Nat) (h45 : AHeap) =>
valK (loadA tab h45 72 v43.2.2.1) fun x46 =>
valK (nilA x46) fun x47 =>
valK (afieldAddr tab 146 x47 2) fun x48 =>
valK (loadA tab h45 144 x48) fun x49 =>
valK (loadA tab h45 72 v43.2.2.1) fun x50 =>
valK (nilA x50) fun x51 =>
valK (afieldAddr tab 146 x51 3) fun x52 =>
valK (loadA tab h45 3 x52) fun x53 =>
hpK (amapUpdate tab h45 144 x49 x53 v43.2.2.2.2.1) fun h54 =>
valK (loadA tab h54 72 v43.2.2.1) fun x55 =>
valK (nilA x55) fun x56 =>
valK (afieldAddr tab 146 x56 2) fun x57 =>
valK (loadA tab h54 144 x57) fun x58 =>
valK (alookup tab h54 144 x58 v43.1 false) fun x59 =>
valK (nilA x59) fun x60 =>
valK (afieldAddr tab 143 x60 2) fun x61 =>
valK (loadA tab h54 141 x61) fun x62 =>
valK (loadA tab h54 72 v43.2.2.1) fun x63 =>
valK (nilA x63) fun x64 =>
valK (afieldAddr tab 146 x64 3) fun x65 =>
valK (loadA tab h54 3 x65) fun x66 =>
hpK (amapUpdate tab h54 141 x62 v43.2.1 x66) fun h67 =>
valK (loadA tab h67 72 v43.2.2.1) fun x68 =>
valK (nilA x68) fun x69 =>
valK (afieldAddr tab 146 x69 1) fun x70 =>
valK (afieldAddr tab 25 x70 0) fun x71 =>
valK (loadA tab h67 3 x71) fun x72 =>
valK (abin tab .add 3 x72 (.int .i64 1)) fun x73 =>
valK (nilA x68) fun x74 =>
valK (afieldAddr tab 146 x74 1) fun x75 =>
valK (afieldAddr tab 25 x75 0) fun x76 =>
hpK (storeA tab h67 3 x76 x73) fun h77 =>
valK (loadA tab h77 72 v43.2.2.1) fun x78 =>
valK (nilA x78) fun x79 =>
valK (afieldAddr tab 146 x79 1) fun x80 =>
valK (afieldAddr tab 25 x80 1) fun x81 =>
valK (loadA tab h77 3 x81) fun x82 =>
valK (loadA tab h77 9 v43.2.2.2.1) fun x83 =>
valK (alen tab h77 9 x83) fun x84 =>
valK (abin tab .add 3 x82 x84) fun x85 =>
valK (nilA x78) fun x86 =>
valK (afieldAddr tab 146 x86 1) fun x87 =>
valK (afieldAddr tab 25 x87 1) fun x88 =>
hpK (storeA tab h77 3 x88 x85) fun h89 =>
valK (loadA tab h89 72 v43.2.2.1) fun x90 =>
valK (nilA x90) fun x91 =>
valK (afieldAddr tab 146 x91 3) fun x92 =>
valK (loadA tab h89 3 x92) fun x93 =>
hpK (unmark h89 ms44) fun h94 =>
some (.tuple [x93, (.int .i64 0)], h94)) fun j42_ =>
valK (loadA tab h41 3 x2) fun x95 =>
valK (abin tab .eql 3 x95 (.int .i64 2)) fun x96 =>
boolK x96 (
bothK (newMapA h41) fun x97 h98 =>
valK (nilA x40) fun x99 =>
valK (afieldAddr tab 143 x99 1) fun x100 =>
hpK (storeA tab h98 3 x100 a1) fun h101 =>
valK (nilA x40) fun x102 =>
valK (afieldAddr tab 143 x102 2) fun x103 =>
hpK (storeA tab h101 141 x103 x97) fun h104 =>
j42_ (a1, a2, x0, x6, x40, ()) [] h104) (
j42_ (a1, a2, x0, x6, x40, ()) [] h41)))))))
theorem F44_eq (E : Env) (n : Nat) (a0 a1 a2 a3 a4 a5 : AV) (h : AHeap) : fnK E tab a44 44 n [a0, a1, a2, a3, a4, a5] h = F44 E n a0 a1 a2 a3 a4 a5 h := by kernel_rfl

/-- (*whisk/inode.Table).Node (t, ino) -/
noncomputable def F45 (E : Env) (n : Nat) (a0 a1 : AV) (h : AHeap) : Option (AV × AHeap) :=
bothK (newCells h [.int .i64 0, .int .i64 0, .str [], .int .i64 0] fun o => .ptr o 0) fun x0 h1 =>
bothK (E (.fn 107) [a0, a1] h1) fun x2 h3 =>
valK (abin tab .eql 140 x2 (.nilptr)) fun x4 =>
boolK x4 (
valK (abuild tab 43 []) fun x5 =>
hpK (storeA tab h3 43 x0 x5) fun h6 =>
valK (loadA tab h6 43 x0) fun x7 =>
some (.tuple [x7, (.bool false)], h6)) (
valK (nilA x2) fun x8 =>
valK (afieldAddr tab 143 x8 0) fun x9 =>
valK (loadA tab h3 43 x9) fun x10 =>
hpK (storeA tab h3 43 x0 x10) fun h11 =>
valK (loadA tab h11 43 x0) fun x12 =>
some (.tuple [x12, (.bool true)], h11))
theorem F45_eq (E : Env) (n : Nat) (a0 a1 : AV) (h : AHeap) : fnK E tab a45 45 n [a0, a1] h = F45 E n a0 a1 h := by kernel_rfl

/-- (*whisk/inode.Table).Write (t, ino, data) -/
noncomputable def F46 (E : Env) (n : Nat) (a0 a1 a2 : AV) (h : AHeap) : Option (AV × AHeap) :=
bothK (boxA h a0) fun x0 h1 =>
bothK (boxA h1 a1) fun x2 h3 =>
bothK (boxA h3 a2) fun x4 h5 =>
valK (loadA tab h5 72 x0) fun x6 =>
valK (loadA tab h5 72 x0) fun x7 =>
valK (loadA tab h5 3 x2) fun x8 =>
bothK (E (.fn 109) [x7, x8] h5) fun x9 h10 =>
valK (loadA tab h10 72 x0) fun x11 =>
sameK x11 x6 (
bothK (abuildSlice tab h10 203 3 [(0, (.func 101 [x6] [])), (1, x9), (2, (.func 108 [] [x0, x4, x2]))]) fun x12 h13 =>
bothK (E (.fn 100) [x12] h13) fun x14 h15 =>
valK (abin tab .neq 26 x14 (.int .i64 0)) fun x16 =>
boolK x16 (
some (x14, h15)) (
valK (loadA tab h15 72 x0) fun x17 =>
valK (nilA x17) fun x18 =>
valK (afieldAddr tab 146 x18 2) fun x19 =>
valK (loadA tab h15 144 x19) fun x20 =>
valK (loadA tab h15 3 x2) fun x21 =>
valK (alookup tab h15 144 x20 x21 false) fun x22 =>
valK (loadA tab h15 72 x0) fun x23 =>
valK (nilA x23) fun x24 =>
valK (afieldAddr tab 146 x24 1) fun x25 =>
valK (afieldAddr tab 25 x25 1) fun x26 =>
valK (loadA tab h15 3 x26) fun x27 =>
valK (loadA tab h15 9 x4) fun x28 =>
valK (alen tab h15 9 x28) fun x29 =>
valK (nilA x22) fun x30 =>
valK (afieldAddr tab 143 x30 0) fun x31 =>
valK (afieldAddr tab 43 x31 2) fun x32 =>
valK (loadA tab h15 9 x32) fun x33 =>
valK (alen tab h15 9 x33) fun x34 =>
valK (abin tab .sub 3 x29 x34) fun x35 =>
valK (abin tab .add 3 x27 x35) fun x36 =>
valK (nilA x23) fun x37 =>
valK (afieldAddr tab 146 x37 1) fun x38 =>
valK (afieldAddr tab 25 x38 1) fun x39 =>
hpK (storeA tab h15 3 x39 x36) fun h40 =>
valK (loadA tab h40 9 x4) fun x41 =>
valK (nilA x22) fun x42 =>
valK (afieldAddr tab 143 x42 0) fun x43 =>
valK (afieldAddr tab 43 x43 2) fun x44 =>
hpK (storeA tab h40 9 x44 x41) fun h45 =>
some ((.int .i64 0), h45)))
theorem F46_eq (E : Env) (n : Nat) (a0 a1 a2 : AV) (h : AHeap) : fnK E tab a46 46 n [a0, a1, a2] h = F46 E n a0 a1 a2 h := by kernel_rfl

/-- (*whisk/fs.Fs).none (f) -/
noncomputable def F47 (E : Env) (n : Nat) (a0 : AV) (h : AHeap) : Option (AV × AHeap) :=
valK (abin tab .eql 22 a0 (.nilptr)) fun x0 =>
boolK x0 (
some ((.bool true), h)) (
valK (nilA a0) fun x1 =>
valK (afieldAddr tab 75 x1 0) fun x2 =>
valK (loadA tab h 72 x2) fun x3 =>
valK (abin tab .eql 72 x3 (.nilptr)) fun x4 =>
some (x4, h))
theorem F47_eq (E : Env) (n : Nat) (a0 : AV) (h : AHeap) : fnK E tab a47 47 n [a0] h = F47 E n a0 h := by kernel_rfl

/-- (*whisk/fs.Fs).fresh (f, cwd, path, do) -/
noncomputable def F49 (E : Env) (n : Nat) (a0 a1 a2 a3 : AV) (h : AHeap) : Option (AV × AHeap) :=
bothK (E (.fn 43) [a0, a1, a2, (.bool false)] h) fun x0 h1 =>
valK (extractA x0 0) fun x2 =>
valK (extractA x0 1) fun x3 =>
bothK (newCells h1 [.int .i64 0, .str [], .int .i64 0, .bool false] fun o => .ptr o 0) fun x4 h5 =>
hpK (storeA tab h5 77 x4 x2) fun h6 =>
valK (abin tab .neq 26 x3 (.int .i64 0)) fun x7 =>
boolK x7 (
some (x3, h6)) (
valK (afieldAddr tab 77 x4 3) fun x8 =>
valK (loadA tab h6 4 x8) fun x9 =>
boolK x9 (
some ((.int .i64 6), h6)) (
valK (loadA tab h6 77 x4) fun x10 =>
callA a3 [x10] fun f11 as12 =>
bothK (E f11 as12 h6) fun x13 h14 =>
some (x13, h14)))
theorem F49_eq (E : Env) (n : Nat) (a0 a1 a2 a3 : AV) (h : AHeap) : fnK E tab a49 49 n [a0, a1, a2, a3] h = F49 E n a0 a1 a2 a3 h := by kernel_rfl

/-- (*whisk/fs.Fs).Symlink$1 (p, , ) -/
noncomputable def F50 (E : Env) (n : Nat) (a0 a1 a2 : AV) (h : AHeap) : Option (AV × AHeap) :=
bothK (boxA h a0) fun x0 h1 =>
valK (loadA tab h1 22 a1) fun x2 =>
valK (nilA x2) fun x3 =>
valK (afieldAddr tab 75 x3 0) fun x4 =>
valK (loadA tab h1 72 x4) fun x5 =>
valK (afieldAddr tab 77 x0 0) fun x6 =>
valK (loadA tab h1 3 x6) fun x7 =>
valK (afieldAddr tab 77 x0 1) fun x8 =>
valK (loadA tab h1 9 x8) fun x9 =>
valK (loadA tab h1 9 a2) fun x10 =>
bothK (E (.fn 44) [x5, x7, x9, (.int .i64 3), (.int .i64 511), x10] h1) fun x11 h12 =>
valK (extractA x11 0) fun x13 =>
valK (extractA x11 1) fun x14 =>
some (x14, h12)
theorem F50_eq (E : Env) (n : Nat) (a0 a1 a2 : AV) (h : AHeap) : fnK E tab a50 50 n [a0, a1, a2] h = F50 E n a0 a1 a2 h := by kernel_rfl

/-- (*whisk/fs.Fs).Mkdir$1 (p, ) -/
noncomputable def F51 (E : Env) (n : Nat) (a0 a1 : AV) (h : AHeap) : Option (AV × AHeap) :=
bothK (boxA h a0) fun x0 h1 =>
valK (loadA tab h1 22 a1) fun x2 =>
valK (afieldAddr tab 77 x0 0) fun x3 =>
valK (loadA tab h1 3 x3) fun x4 =>
bothK (E (.fn 52) [x2, x4] h1) fun x5 h6 =>
valK (abin tab .geq 3 x5 (.int .i64 12)) fun x7 =>
boolK x7 (
some ((.int .i64 3), h6)) (
valK (loadA tab h6 22 a1) fun x8 =>
valK (nilA x8) fun x9 =>
valK (afieldAddr tab 75 x9 0) fun x10 =>
valK (loadA tab h6 72 x10) fun x11 =>
valK (afieldAddr tab 77 x0 0) fun x12 =>
valK (loadA tab h6 3 x12) fun x13 =>
valK (afieldAddr tab 77 x0 1) fun x14 =>
valK (loadA tab h6 9 x14) fun x15 =>
bothK (E (.fn 44) [x11, x13, x15, (.int .i64 2), (.int .i64 493), (.str [])] h6) fun x16 h17 =>
valK (extractA x16 0) fun x18 =>
valK (extractA x16 1) fun x19 =>
some (x19, h17))
theorem F51_eq (E : Env) (n : Nat) (a0 a1 : AV) (h : AHeap) : fnK E tab a51 51 n [a0, a1] h = F51 E n a0 a1 h := by kernel_rfl

/-- v: 0 f, 1 dir, 5 n -/
noncomputable def F52_b2 (E : Env) (n : Nat) (v : AV × AV × AV × Unit) (ms : List Nat) (h : AHeap) (next0_ : AV × AV × AV × Unit → List Nat → AHeap → Option (AV × AHeap)) : Option (AV × AHeap) :=
valK (nilA v.1) fun x1 =>
valK (afieldAddr tab 75 x1 0) fun x2 =>
valK (loadA tab h 72 x2) fun x3 =>
bothK (E (.fn 83) [x3] h) fun x4 h5 =>
valK (abin tab .neq 3 v.2.1 x4) fun x6 =>
boolK x6 (
valK (nilA v.1) fun x7 =>
valK (afieldAddr tab 75 x7 0) fun x8 =>
valK (loadA tab h5 72 x8) fun x9 =>
bothK (E (.fn 84) [x9, v.2.1] h5) fun x10 h11 =>
valK (abin tab .add 3 v.2.2.1 (.int .i64 1)) fun x12 =>
next0_ (v.1, x10, x12, ()) ms h11) (
hpK (unmark h5 ms) fun h13 =>
some (v.2.2.1, h13))
/-- (*whisk/fs.Fs).deep (f, dir) -/
noncomputable def F52 (E : Env) (n : Nat) (a0 a1 : AV) (h : AHeap) : Option (AV × AHeap) :=
loopN (F52_b2 E n) n (a0, a1, (.int .i64 1), ()) [] h
theorem F52_eq (E : Env) (n : Nat) (a0 a1 : AV) (h : AHeap) : fnK E tab a52 52 n [a0, a1] h = F52 E n a0 a1 h := by kernel_rfl

/-- (whisk/canon.taker).at (t, path) -/
noncomputable def F53 (E : Env) (n : Nat) (a0 a1 : AV) (h : AHeap) : Option (AV × AHeap) :=
bothK (boxA h a0) fun x0 h1 =>
bothK (boxA h1 a1) fun x2 h3 =>
bothK (newCells h3 [.str [], .int .i64 0, .bool false, .str [], .nilslice] fun o => .ptr o 0) fun x4 h5 =>
valK (afieldAddr tab 90 x0 0) fun x6 =>
valK (loadA tab h5 22 x6) fun x7 =>
valK (loadA tab h5 9 x2) fun x8 =>
bothK (E (.fn 19) [x7, (.str [47]), x8, (.bool false)] h5) fun x9 h10 =>
valK (extractA x9 0) fun x11 =>
valK (extractA x9 1) fun x12 =>
bothK (newCells h10 [.int .i64 0, .int .i64 0, .str [], .int .i64 0] fun o => .ptr o 0) fun x13 h14 =>
hpK (storeA tab h14 43 x13 x11) fun h15 =>
valK (abin tab .neq 26 x12 (.int .i64 0)) fun x16 =>
boolK x16 (
valK (abuild tab 32 []) fun x17 =>
hpK (storeA tab h15 32 x4 x17) fun h18 =>
valK (loadA tab h18 32 x4) fun x19 =>
some (.tuple [x19, x12], h18)) (
valK (afieldAddr tab 43 x13 0) fun x20 =>
valK (loadA tab h15 3 x20) fun x21 =>
valK (afieldAddr tab 43 x13 2) fun x22 =>
valK (loadA tab h15 9 x22) fun x23 =>
valK (abuild tab 32 [(1, x21), (3, x23)]) fun x24 =>
bothK (newCells h15 [.str [], .int .i64 0, .bool false, .str [], .nilslice] fun o => .ptr o 0) fun x25 h26 =>
hpK (storeA tab h26 32 x25 x24) fun h27 =>
bothK (newMapA h27) fun x28 h29 =>
hpK (amapUpdate tab h29 162 x28 (.int .i64 1) (.func 111 [] [x13, x25])) fun h30 =>
hpK (amapUpdate tab h30 162 x28 (.int .i64 2) (.func 112 [] [x0, x2, x25])) fun h31 =>
valK (afieldAddr tab 43 x13 0) fun x32 =>
valK (loadA tab h31 3 x32) fun x33 =>
valK (alookup tab h31 162 x28 x33 true) fun x34 =>
valK (extractA x34 0) fun x35 =>
valK (extractA x34 1) fun x36 =>
boolK x36 (
callA x35 [] fun f37 as38 =>
bothK (E f37 as38 h31) fun x39 h40 =>
valK (loadA tab h40 32 x25) fun x41 =>
hpK (storeA tab h40 32 x4 x41) fun h42 =>
valK (loadA tab h42 32 x4) fun x43 =>
some (.tuple [x43, x39], h42)) (
valK (loadA tab h31 32 x25) fun x44 =>
hpK (storeA tab h31 32 x4 x44) fun h45 =>
valK (loadA tab h45 32 x4) fun x46 =>
some (.tuple [x46, x12], h45)))
theorem F53_eq (E : Env) (n : Nat) (a0 a1 : AV) (h : AHeap) : fnK E tab a53 53 n [a0, a1] h = F53 E n a0 a1 h := by kernel_rfl

/-- whisk/tree.Check (n) -/
noncomputable def F54 (E : Env) (n : Nat) (a0 : AV) (h : AHeap) : Option (AV × AHeap) :=
bothK (boxA h a0) fun x0 h1 =>
valK (loadA tab h1 32 x0) fun x2 =>
bothK (E (.fn 55) [x2] h1) fun x3 h4 =>
boolK x3 (
some ((.int .i64 3), h4)) (
valK (afieldAddr tab 32 x0 0) fun x5 =>
valK (loadA tab h4 9 x5) fun x6 =>
valK (abin tab .neq 9 x6 (.str [])) fun x7 =>
boolK x7 (
some ((.int .i64 2), h4)) (
valK (loadA tab h4 32 x0) fun x8 =>
bothK (E (.fn 114) [x8] h4) fun x9 h10 =>
valK (aun .not x9) fun x11 =>
boolK x11 (
some ((.int .i64 2), h10)) (
valK (loadA tab h10 32 x0) fun x12 =>
bothK (E (.fn 78) [x12] h10) fun x13 h14 =>
valK (extractA x13 0) fun x15 =>
valK (extractA x13 1) fun x16 =>
valK (abin tab .gtr 3 x15 (.int .i64 2000)) fun x17 =>
boolK x17 (
some ((.int .i64 3), h14)) (
valK (abin tab .gtr 3 x16 (.int .i64 100000)) fun x18 =>
boolK x18 (
some ((.int .i64 3), h14)) (
some ((.int .i64 0), h14))))))
theorem F54_eq (E : Env) (n : Nat) (a0 : AV) (h : AHeap) : fnK E tab a54 54 n [a0] h = F54 E n a0 h := by kernel_rfl

/-- whisk/tree.tooDeep (n) -/
noncomputable def F55 (E : Env) (n : Nat) (a0 : AV) (h : AHeap) : Option (AV × AHeap) :=
bothK (boxA h a0) fun x0 h1 =>
valK (loadA tab h1 32 x0) fun x2 =>
bothK (E (.fn 115) [x2] h1) fun x3 h4 =>
valK (abin tab .gtr 3 x3 (.int .i64 12)) fun x5 =>
some (x5, h4)
theorem F55_eq (E : Env) (n : Nat) (a0 : AV) (h : AHeap) : fnK E tab a55 55 n [a0] h = F55 E n a0 h := by kernel_rfl

/-- v: 1 s2, 2 eq, 15, 16, 17 -/
noncomputable def F56_b4 (E : Env) (n : Nat) (v : AV × AV × AV × AV × AV × Unit) (ms : List Nat) (h : AHeap) (next4_ : AV × AV × AV × AV × AV × Unit → List Nat → AHeap → Option (AV × AHeap)) : Option (AV × AHeap) :=
valK (abin tab .lss 3 v.2.2.2.2.1 v.2.2.2.1) fun x5 =>
boolK x5 (
valK (aindexAddr tab 30 v.2.2.1 v.2.2.2.2.1) fun x6 =>
valK (loadA tab h 32 x6) fun x7 =>
bothK (newCells h [.str [], .int .i64 0, .bool false, .str [], .nilslice] fun o => .ptr o 0) fun x8 h9 =>
hpK (storeA tab h9 32 x8 x7) fun h10 =>
valK (aindexAddr tab 30 v.1 v.2.2.2.2.1) fun x11 =>
valK (loadA tab h10 32 x11) fun x12 =>
bothK (newCells h10 [.str [], .int .i64 0, .bool false, .str [], .nilslice] fun o => .ptr o 0) fun x13 h14 =>
hpK (storeA tab h14 32 x13 x12) fun h15 =>
valK (loadA tab h15 32 x8) fun x16 =>
valK (loadA tab h15 32 x13) fun x17 =>
callA v.2.1 [x16, x17] fun f18 as19 =>
bothK (E f18 as19 h15) fun x20 h21 =>
valK (aun .not x20) fun x22 =>
boolK x22 (
hpK (unmark h21 ms) fun h23 =>
some ((.bool false), h23)) (
valK (abin tab .add 3 v.2.2.2.2.1 (.int .i64 1)) fun x24 =>
next4_ (v.1, v.2.1, v.2.2.1, v.2.2.2.1, x24, ()) ms h21)) (
hpK (unmark h ms) fun h25 =>
some ((.bool true), h25))
/-- slices.EqualFunc[[]whisk/api.Node,[]whisk/api.Node,whisk/api.Node,whisk/api.Node] (s1, s2, eq) -/
noncomputable def F56 (E : Env) (n : Nat) (a0 a1 a2 : AV) (h : AHeap) : Option (AV × AHeap) :=
valK (alen tab h 30 a0) fun x0 =>
valK (alen tab h 30 a1) fun x1 =>
valK (abin tab .neq 3 x0 x1) fun x2 =>
boolK x2 (
some ((.bool false), h)) (
valK (alen tab h 30 a0) fun x3 =>
loopN (F56_b4 E n) n (a1, a2, a0, x3, (.int .i64 0), ()) [] h)
theorem F56_eq (E : Env) (n : Nat) (a0 a1 a2 : AV) (h : AHeap) : fnK E tab a56 56 n [a0, a1, a2] h = F56 E n a0 a1 a2 h := by kernel_rfl

/-- strings.HasPrefix (s, prefix) -/
noncomputable def F58 (E : Env) (n : Nat) (a0 a1 : AV) (h : AHeap) : Option (AV × AHeap) :=
bothK (E (.fn 118) [a0, a1] h) fun x0 h1 =>
some (x0, h1)
theorem F58_eq (E : Env) (n : Nat) (a0 a1 : AV) (h : AHeap) : fnK E tab a58 58 n [a0, a1] h = F58 E n a0 a1 h := by kernel_rfl

/-- whisk/whisklaw08.quota () -/
noncomputable def F63 (E : Env) (n : Nat) (h : AHeap) : Option (AV × AHeap) :=
bothK (newCells h [.int .i64 0, .int .i64 0] fun o => .ptr o 0) fun x0 h1 =>
valK (abuild tab 25 [(0, (.int .i64 60)), (1, (.int .i64 2000))]) fun x2 =>
hpK (storeA tab h1 25 x0 x2) fun h3 =>
valK (loadA tab h3 25 x0) fun x4 =>
some (x4, h3)
theorem F63_eq (E : Env) (n : Nat) (h : AHeap) : fnK E tab a63 63 n [] h = F63 E n h := by kernel_rfl

/-- (*whisk/fs.Fs).both (f, cwd, from, to) -/
noncomputable def F64 (E : Env) (n : Nat) (a0 a1 a2 a3 : AV) (h : AHeap) : Option (AV × AHeap) :=
bothK (newCells h [.int .i64 0, .str [], .int .i64 0, .bool false] fun o => .ptr o 0) fun x0 h1 =>
bothK (newCells h1 [.int .i64 0, .str [], .int .i64 0, .bool false] fun o => .ptr o 0) fun x2 h3 =>
bothK (E (.fn 43) [a0, a1, a2, (.bool false)] h3) fun x4 h5 =>
valK (extractA x4 0) fun x6 =>
valK (extractA x4 1) fun x7 =>
hpK (storeA tab h5 77 x0 x6) fun h8 =>
valK (abin tab .eql 26 x7 (.int .i64 0)) fun x9 =>
boolK x9 (
bothK (E (.fn 43) [a0, a1, a3, (.bool false)] h8) fun x10 h11 =>
valK (extractA x10 0) fun x12 =>
valK (extractA x10 1) fun x13 =>
hpK (storeA tab h11 77 x2 x12) fun h14 =>
valK (loadA tab h14 77 x0) fun x15 =>
valK (loadA tab h14 77 x2) fun x16 =>
hpK (storeA tab h14 77 x0 x15) fun h17 =>
valK (loadA tab h17 77 x2) fun x18 =>
sameK x18 x16 (
hpK (storeA tab h17 77 x2 x16) fun h19 =>
valK (loadA tab h19 77 x0) fun x20 =>
valK (loadA tab h19 77 x2) fun x21 =>
some (.tuple [x20, x21, x13], h19))) (
valK (loadA tab h8 77 x0) fun x22 =>
valK (loadA tab h8 77 x2) fun x23 =>
hpK (storeA tab h8 77 x0 x22) fun h24 =>
valK (loadA tab h24 77 x2) fun x25 =>
sameK x25 x23 (
hpK (storeA tab h24 77 x2 x23) fun h26 =>
valK (loadA tab h26 77 x0) fun x27 =>
valK (loadA tab h26 77 x2) fun x28 =>
some (.tuple [x27, x28, x7], h26)))
theorem F64_eq (E : Env) (n : Nat) (a0 a1 a2 a3 : AV) (h : AHeap) : fnK E tab a64 64 n [a0, a1, a2, a3] h = F64 E n a0 a1 a2 a3 h := by kernel_rfl

/-- (*whisk/fs.Fs).kind (f, ino) -/
noncomputable def F65 (E : Env) (n : Nat) (a0 a1 : AV) (h : AHeap) : Option (AV × AHeap) :=
valK (nilA a0) fun x0 =>
valK (afieldAddr tab 75 x0 0) fun x1 =>
valK (loadA tab h 72 x1) fun x2 =>
bothK (E (.fn 45) [x2, a1] h) fun x3 h4 =>
valK (extractA x3 0) fun x5 =>
valK (extractA x3 1) fun x6 =>
bothK (newCells h4 [.int .i64 0, .int .i64 0, .str [], .int .i64 0] fun o => .ptr o 0) fun x7 h8 =>
hpK (storeA tab h8 43 x7 x5) fun h9 =>
valK (afieldAddr tab 43 x7 0) fun x10 =>
valK (loadA tab h9 3 x10) fun x11 =>
some (x11, h9)
theorem F65_eq (E : Env) (n : Nat) (a0 a1 : AV) (h : AHeap) : fnK E tab a65 65 n [a0, a1] h = F65 E n a0 a1 h := by kernel_rfl

/-- (*whisk/inode.Table).Link (t, dir, name, ino) -/
noncomputable def F66 (E : Env) (n : Nat) (a0 a1 a2 a3 : AV) (h : AHeap) : Option (AV × AHeap) :=
bothK (E (.fn 102) [a0, a1] h) fun x0 h1 =>
bothK (E (.fn 103) [a2] h1) fun x2 h3 =>
bothK (E (.fn 109) [a0, a3] h3) fun x4 h5 =>
bothK (E (.fn 104) [a0, a1, a2] h5) fun x6 h7 =>
bothK (abuildSlice tab h7 203 5 [(0, (.func 101 [a0] [])), (1, x0), (2, x2), (3, x4), (4, x6)]) fun x8 h9 =>
bothK (E (.fn 100) [x8] h9) fun x10 h11 =>
valK (abin tab .neq 26 x10 (.int .i64 0)) fun x12 =>
boolK x12 (
some (x10, h11)) (
valK (nilA a0) fun x13 =>
valK (afieldAddr tab 146 x13 2) fun x14 =>
valK (loadA tab h11 144 x14) fun x15 =>
valK (alookup tab h11 144 x15 a1 false) fun x16 =>
valK (nilA x16) fun x17 =>
valK (afieldAddr tab 143 x17 2) fun x18 =>
valK (loadA tab h11 141 x18) fun x19 =>
hpK (amapUpdate tab h11 141 x19 a2 a3) fun h20 =>
valK (nilA a0) fun x21 =>
valK (afieldAddr tab 146 x21 2) fun x22 =>
valK (loadA tab h20 144 x22) fun x23 =>
valK (alookup tab h20 144 x23 a3 false) fun x24 =>
valK (nilA x24) fun x25 =>
valK (afieldAddr tab 143 x25 0) fun x26 =>
valK (afieldAddr tab 43 x26 3) fun x27 =>
valK (loadA tab h20 3 x27) fun x28 =>
valK (abin tab .add 3 x28 (.int .i64 1)) fun x29 =>
valK (nilA x24) fun x30 =>
valK (afieldAddr tab 143 x30 0) fun x31 =>
valK (afieldAddr tab 43 x31 3) fun x32 =>
hpK (storeA tab h20 3 x32 x29) fun h33 =>
some ((.int .i64 0), h33))
theorem F66_eq (E : Env) (n : Nat) (a0 a1 a2 a3 : AV) (h : AHeap) : fnK E tab a66 66 n [a0, a1, a2, a3] h = F66 E n a0 a1 a2 a3 h := by kernel_rfl

/-- (*whisk/fs.Fs).with (f, cwd, path, follow, do) -/
noncomputable def F67 (E : Env) (n : Nat) (a0 a1 a2 a3 a4 : AV) (h : AHeap) : Option (AV × AHeap) :=
bothK (E (.fn 43) [a0, a1, a2, a3] h) fun x0 h1 =>
valK (extractA x0 0) fun x2 =>
valK (extractA x0 1) fun x3 =>
bothK (newCells h1 [.int .i64 0, .str [], .int .i64 0, .bool false] fun o => .ptr o 0) fun x4 h5 =>
hpK (storeA tab h5 77 x4 x2) fun h6 =>
valK (abin tab .neq 26 x3 (.int .i64 0)) fun x7 =>
boolK x7 (
some (x3, h6)) (
valK (nilA a0) fun x8 =>
valK (afieldAddr tab 75 x8 0) fun x9 =>
valK (loadA tab h6 72 x9) fun x10 =>
valK (afieldAddr tab 77 x4 2) fun x11 =>
valK (loadA tab h6 3 x11) fun x12 =>
bothK (newCells h6 [.int .i64 0, .int .i64 0, .str [], .int .i64 0] fun o => .ptr o 0) fun x13 h14 =>
bothK (E (.fn 45) [x10, x12] h14) fun x15 h16 =>
valK (extractA x15 0) fun x17 =>
valK (extractA x15 1) fun x18 =>
hpK (storeA tab h16 43 x13 x17) fun h19 =>
valK (afieldAddr tab 77 x4 3) fun x20 =>
valK (loadA tab h19 4 x20) fun x21 =>
valK (aun .not x21) fun x22 =>
boolK x22 (
some ((.int .i64 5), h19)) (
valK (aun .not x18) fun x23 =>
boolK x23 (
some ((.int .i64 5), h19)) (
valK (afieldAddr tab 77 x4 2) fun x24 =>
valK (loadA tab h19 3 x24) fun x25 =>
valK (loadA tab h19 43 x13) fun x26 =>
callA a4 [x25, x26] fun f27 as28 =>
bothK (E f27 as28 h19) fun x29 h30 =>
some (x29, h30))))
theorem F67_eq (E : Env) (n : Nat) (a0 a1 a2 a3 a4 : AV) (h : AHeap) : fnK E tab a67 67 n [a0, a1, a2, a3, a4] h = F67 E n a0 a1 a2 a3 a4 h := by kernel_rfl

/-- (*whisk/fs.Fs).Stat$1 (_, n, ) -/
noncomputable def F68 (E : Env) (n : Nat) (a0 a1 a2 : AV) (h : AHeap) : Option (AV × AHeap) :=
bothK (boxA h a1) fun x0 h1 =>
valK (loadA tab h1 43 x0) fun x2 =>
hpK (storeA tab h1 43 a2 x2) fun h3 =>
some ((.int .i64 0), h3)
theorem F68_eq (E : Env) (n : Nat) (a0 a1 a2 : AV) (h : AHeap) : fnK E tab a68 68 n [a0, a1, a2] h = F68 E n a0 a1 a2 h := by kernel_rfl

/-- (*whisk/inode.Table).Used (t) -/
noncomputable def F69 (E : Env) (n : Nat) (a0 : AV) (h : AHeap) : Option (AV × AHeap) :=
bothK (newCells h [.int .i64 0, .int .i64 0] fun o => .ptr o 0) fun x0 h1 =>
valK (abin tab .eql 72 a0 (.nilptr)) fun x2 =>
boolK x2 (
valK (abuild tab 25 []) fun x3 =>
hpK (storeA tab h1 25 x0 x3) fun h4 =>
valK (loadA tab h4 25 x0) fun x5 =>
some (x5, h4)) (
valK (nilA a0) fun x6 =>
valK (afieldAddr tab 146 x6 1) fun x7 =>
valK (loadA tab h1 25 x7) fun x8 =>
hpK (storeA tab h1 25 x0 x8) fun h9 =>
valK (loadA tab h9 25 x0) fun x10 =>
some (x10, h9))
theorem F69_eq (E : Env) (n : Nat) (a0 : AV) (h : AHeap) : fnK E tab a69 69 n [a0] h = F69 E n a0 h := by kernel_rfl

/-- (*whisk/inode.Table).Names (t, dir) -/
noncomputable def F70 (E : Env) (n : Nat) (a0 a1 : AV) (h : AHeap) : Option (AV × AHeap) :=
bothK (E (.fn 107) [a0, a1] h) fun x0 h1 =>
valK (abin tab .eql 140 x0 (.nilptr)) fun x2 =>
boolK x2 (
some ((.nilslice), h1)) (
valK (nilA x0) fun x3 =>
valK (afieldAddr tab 143 x3 2) fun x4 =>
valK (loadA tab h1 141 x4) fun x5 =>
bothK (E (.fn 121) [x5] h1) fun x6 h7 =>
bothK (E (.fn 93) [x6] h7) fun x8 h9 =>
some (x8, h9))
theorem F70_eq (E : Env) (n : Nat) (a0 a1 : AV) (h : AHeap) : fnK E tab a70 70 n [a0, a1] h = F70 E n a0 a1 h := by kernel_rfl

/-- (*whisk/inode.Table).Unlink (t, dir, name) -/
noncomputable def F71 (E : Env) (n : Nat) (a0 a1 a2 : AV) (h : AHeap) : Option (AV × AHeap) :=
bothK (boxA h a0) fun x0 h1 =>
bothK (boxA h1 a1) fun x2 h3 =>
bothK (boxA h3 a2) fun x4 h5 =>
valK (loadA tab h5 72 x0) fun x6 =>
valK (loadA tab h5 72 x0) fun x7 =>
valK (loadA tab h5 3 x2) fun x8 =>
valK (loadA tab h5 72 x0) fun x9 =>
valK (loadA tab h5 3 x2) fun x10 =>
valK (loadA tab h5 9 x4) fun x11 =>
bothK (E (.fn 102) [x7, x8] h5) fun x12 h13 =>
valK (loadA tab h13 9 x4) fun x14 =>
sameK x14 x11 (
valK (loadA tab h13 3 x2) fun x15 =>
sameK x15 x10 (
valK (loadA tab h13 72 x0) fun x16 =>
sameK x16 x9 (
valK (loadA tab h13 72 x0) fun x17 =>
sameK x17 x6 (
bothK (E (.fn 123) [x9, x10, x11] h13) fun x18 h19 =>
valK (loadA tab h19 72 x0) fun x20 =>
sameK x20 x6 (
bothK (abuildSlice tab h19 203 4 [(0, (.func 101 [x6] [])), (1, x12), (2, x18), (3, (.func 122 [] [x0, x2, x4]))]) fun x21 h22 =>
bothK (E (.fn 100) [x21] h22) fun x23 h24 =>
valK (abin tab .neq 26 x23 (.int .i64 0)) fun x25 =>
boolK x25 (
some (x23, h24)) (
valK (loadA tab h24 72 x0) fun x26 =>
valK (loadA tab h24 3 x2) fun x27 =>
valK (loadA tab h24 9 x4) fun x28 =>
bothK (E (.fn 85) [x26, x27, x28] h24) fun x29 h30 =>
valK (extractA x29 0) fun x31 =>
valK (extractA x29 1) fun x32 =>
valK (loadA tab h30 72 x0) fun x33 =>
valK (nilA x33) fun x34 =>
valK (afieldAddr tab 146 x34 2) fun x35 =>
valK (loadA tab h30 144 x35) fun x36 =>
valK (loadA tab h30 3 x2) fun x37 =>
valK (alookup tab h30 144 x36 x37 false) fun x38 =>
valK (nilA x38) fun x39 =>
valK (afieldAddr tab 143 x39 2) fun x40 =>
valK (loadA tab h30 141 x40) fun x41 =>
valK (loadA tab h30 9 x4) fun x42 =>
hpK (adelete tab h30 141 x41 x42) fun h43 =>
valK (loadA tab h43 72 x0) fun x44 =>
valK (nilA x44) fun x45 =>
valK (afieldAddr tab 146 x45 2) fun x46 =>
valK (loadA tab h43 144 x46) fun x47 =>
valK (alookup tab h43 144 x47 x31 false) fun x48 =>
valK (nilA x48) fun x49 =>
valK (afieldAddr tab 143 x49 0) fun x50 =>
valK (afieldAddr tab 43 x50 3) fun x51 =>
valK (loadA tab h43 3 x51) fun x52 =>
valK (abin tab .sub 3 x52 (.int .i64 1)) fun x53 =>
valK (nilA x48) fun x54 =>
valK (afieldAddr tab 143 x54 0) fun x55 =>
valK (afieldAddr tab 43 x55 3) fun x56 =>
hpK (storeA tab h43 3 x56 x53) fun h57 =>
valK (nilA x48) fun x58 =>
valK (afieldAddr tab 143 x58 0) fun x59 =>
valK (afieldAddr tab 43 x59 3) fun x60 =>
valK (loadA tab h57 3 x60) fun x61 =>
valK (abin tab .eql 3 x61 (.int .i64 0)) fun x62 =>
boolK x62 (
valK (loadA tab h57 72 x0) fun x63 =>
valK (nilA x63) fun x64 =>
valK (afieldAddr tab 146 x64 2) fun x65 =>
valK (loadA tab h57 144 x65) fun x66 =>
hpK (adelete tab h57 144 x66 x31) fun h67 =>
valK (loadA tab h67 72 x0) fun x68 =>
valK (nilA x68) fun x69 =>
valK (afieldAddr tab 146 x69 1) fun x70 =>
valK (afieldAddr tab 25 x70 0) fun x71 =>
valK (loadA tab h67 3 x71) fun x72 =>
valK (abin tab .sub 3 x72 (.int .i64 1)) fun x73 =>
valK (nilA x68) fun x74 =>
valK (afieldAddr tab 146 x74 1) fun x75 =>
valK (afieldAddr tab 25 x75 0) fun x76 =>
hpK (storeA tab h67 3 x76 x73) fun h77 =>
valK (loadA tab h77 72 x0) fun x78 =>
valK (nilA x78) fun x79 =>
valK (afieldAddr tab 146 x79 1) fun x80 =>
valK (afieldAddr tab 25 x80 1) fun x81 =>
valK (loadA tab h77 3 x81) fun x82 =>
valK (nilA x48) fun x83 =>
valK (afieldAddr tab 143 x83 0) fun x84 =>
valK (afieldAddr tab 43 x84 2) fun x85 =>
valK (loadA tab h77 9 x85) fun x86 =>
valK (alen tab h77 9 x86) fun x87 =>
valK (abin tab .sub 3 x82 x87) fun x88 =>
valK (nilA x78) fun x89 =>
valK (afieldAddr tab 146 x89 1) fun x90 =>
valK (afieldAddr tab 25 x90 1) fun x91 =>
hpK (storeA tab h77 3 x91 x88) fun h92 =>
some ((.int .i64 0), h92)) (
some ((.int .i64 0), h57))))))))
theorem F71_eq (E : Env) (n : Nat) (a0 a1 a2 : AV) (h : AHeap) : fnK E tab a71 71 n [a0, a1, a2] h = F71 E n a0 a1 a2 h := by kernel_rfl

/-- (*whisk/fs.Fs).over (f, p, q) -/
noncomputable def F72 (E : Env) (n : Nat) (a0 a1 a2 : AV) (h : AHeap) : Option (AV × AHeap) :=
bothK (boxA h a1) fun x0 h1 =>
bothK (boxA h1 a2) fun x2 h3 =>
valK (afieldAddr tab 77 x0 2) fun x4 =>
valK (loadA tab h3 3 x4) fun x5 =>
valK (afieldAddr tab 77 x2 2) fun x6 =>
valK (loadA tab h3 3 x6) fun x7 =>
bothK (E (.fn 65) [a0, x5] h3) fun x8 h9 =>
valK (loadA tab h9 3 x6) fun x10 =>
sameK x10 x7 (
valK (abin tab .eql 3 x8 (.int .i64 2)) fun x11 =>
bothK (E (.fn 65) [a0, x7] h9) fun x12 h13 =>
valK (abin tab .eql 3 x12 (.int .i64 2)) fun x14 =>
jn (fun (v16 : AV × AV × AV × AV × Unit) (ms17 : List Nat) (h18 : AHeap) =>
jn (fun (v20 : AV × AV × AV × Unit) (ms21 : List Nat) (h22 : AHeap) =>
valK (afieldAddr tab 77 v20.2.2.1 0) fun x23 =>
valK (loadA tab h22 3 x23) fun x24 =>
valK (afieldAddr tab 77 v20.2.1 2) fun x25 =>
valK (loadA tab h22 3 x25) fun x26 =>
bothK (E (.fn 52) [v20.1, x24] h22) fun x27 h28 =>
valK (loadA tab h28 3 x25) fun x29 =>
sameK x29 x26 (
bothK (E (.fn 125) [v20.1, x26] h28) fun x30 h31 =>
valK (abin tab .add 3 x27 x30) fun x32 =>
valK (abin tab .gtr 3 x32 (.int .i64 12)) fun x33 =>
boolK x33 (
hpK (unmark h31 ms21) fun h34 =>
some ((.int .i64 3), h34)) (
hpK (unmark h31 ms21) fun h35 =>
some ((.int .i64 0), h35)))) fun j19_ =>
boolK v16.2.2.2.1 (
valK (afieldAddr tab 77 v16.2.2.1 0) fun x36 =>
valK (loadA tab h18 3 x36) fun x37 =>
valK (afieldAddr tab 77 v16.2.1 2) fun x38 =>
valK (loadA tab h18 3 x38) fun x39 =>
bothK (E (.fn 124) [v16.1, x37, x39] h18) fun x40 h41 =>
boolK x40 (
hpK (unmark h41 ms17) fun h42 =>
some ((.int .i64 2), h42)) (
j19_ (v16.1, v16.2.1, v16.2.2.1, ()) ms17 h41)) (
j19_ (v16.1, v16.2.1, v16.2.2.1, ()) ms17 h18)) fun j15_ =>
valK (afieldAddr tab 77 x2 3) fun x43 =>
valK (loadA tab h13 4 x43) fun x44 =>
valK (aun .not x44) fun x45 =>
boolK x45 (
j15_ (a0, x0, x2, x11, ()) [] h13) (
jn (fun (v47 : AV × AV × AV × AV × AV × AV × Unit) (ms48 : List Nat) (h49 : AHeap) =>
boolK v47.2.2.2.2.2.1 (
hpK (unmark h49 ms48) fun h50 =>
some ((.int .i64 7), h50)) (
jn (fun (v52 : AV × AV × AV × AV × AV × Unit) (ms53 : List Nat) (h54 : AHeap) =>
boolK v52.2.2.2.2.1 (
hpK (unmark h54 ms53) fun h55 =>
some ((.int .i64 8), h55)) (
valK (nilA v52.1) fun x56 =>
valK (afieldAddr tab 75 x56 0) fun x57 =>
valK (loadA tab h54 72 x57) fun x58 =>
valK (afieldAddr tab 77 v52.2.2.1 2) fun x59 =>
valK (loadA tab h54 3 x59) fun x60 =>
bothK (E (.fn 70) [x58, x60] h54) fun x61 h62 =>
valK (alen tab h62 47 x61) fun x63 =>
valK (abin tab .gtr 3 x63 (.int .i64 0)) fun x64 =>
boolK x64 (
hpK (unmark h62 ms53) fun h65 =>
some ((.int .i64 20), h65)) (
j15_ (v52.1, v52.2.1, v52.2.2.1, v52.2.2.2.1, ()) ms53 h62))) fun j51_ =>
boolK v47.2.2.2.1 (
valK (aun .not v47.2.2.2.2.1) fun x66 =>
j51_ (v47.1, v47.2.1, v47.2.2.1, v47.2.2.2.1, x66, ()) ms48 h49) (
j51_ (v47.1, v47.2.1, v47.2.2.1, v47.2.2.2.1, (.bool false), ()) ms48 h49))) fun j46_ =>
boolK x14 (
valK (aun .not x11) fun x67 =>
j46_ (a0, x0, x2, x11, x14, x67, ()) [] h13) (
j46_ (a0, x0, x2, x11, x14, (.bool false), ()) [] h13)))
theorem F72_eq (E : Env) (n : Nat) (a0 a1 a2 : AV) (h : AHeap) : fnK E tab a72 72 n [a0, a1, a2] h = F72 E n a0 a1 a2 h := by kernel_rfl

/-- (*whisk/inode.Table).Move (t, from, name, to, as) -/
noncomputable def F73 (E : Env) (n : Nat) (a0 a1 a2 a3 a4 : AV) (h : AHeap) : Option (AV × AHeap) :=
bothK (boxA h a0) fun x0 h1 =>
bothK (boxA h1 a3) fun x2 h3 =>
valK (loadA tab h3 72 x0) fun x4 =>
valK (loadA tab h3 72 x0) fun x5 =>
valK (loadA tab h3 72 x0) fun x6 =>
valK (loadA tab h3 3 x2) fun x7 =>
valK (loadA tab h3 72 x0) fun x8 =>
bothK (E (.fn 102) [x5, a1] h3) fun x9 h10 =>
valK (loadA tab h10 72 x0) fun x11 =>
sameK x11 x8 (
valK (loadA tab h10 3 x2) fun x12 =>
sameK x12 x7 (
valK (loadA tab h10 72 x0) fun x13 =>
sameK x13 x6 (
valK (loadA tab h10 72 x0) fun x14 =>
sameK x14 x4 (
bothK (E (.fn 102) [x6, x7] h10) fun x15 h16 =>
valK (loadA tab h16 72 x0) fun x17 =>
sameK x17 x8 (
valK (loadA tab h16 72 x0) fun x18 =>
sameK x18 x4 (
bothK (E (.fn 103) [a4] h16) fun x19 h20 =>
valK (loadA tab h20 72 x0) fun x21 =>
sameK x21 x8 (
valK (loadA tab h20 72 x0) fun x22 =>
sameK x22 x4 (
bothK (E (.fn 123) [x8, a1, a2] h20) fun x23 h24 =>
valK (loadA tab h24 72 x0) fun x25 =>
sameK x25 x4 (
bothK (abuildSlice tab h24 203 5 [(0, (.func 101 [x4] [])), (1, x9), (2, x15), (3, x19), (4, x23)]) fun x26 h27 =>
bothK (E (.fn 100) [x26] h27) fun x28 h29 =>
jn (fun (v31 : AV × AV × AV × AV × AV × Unit) (ms32 : List Nat) (h33 : AHeap) =>
valK (loadA tab h33 72 v31.2.2.2.1) fun x34 =>
bothK (E (.fn 85) [x34, v31.1, v31.2.1] h33) fun x35 h36 =>
valK (extractA x35 0) fun x37 =>
valK (extractA x35 1) fun x38 =>
bothK (newCells h36 [.int .i64 0] fun o => .ptr o 0) fun x39 h40 =>
hpK (storeA tab h40 3 x39 x37) fun h41 =>
valK (loadA tab h41 72 v31.2.2.2.1) fun x42 =>
valK (loadA tab h41 3 v31.2.2.2.2.1) fun x43 =>
bothK (E (.fn 104) [x42, x43, v31.2.2.1] h41) fun x44 h45 =>
bothK (abuildSlice tab h45 203 2 [(0, x44), (1, (.func 126 [] [v31.2.2.2.2.1, v31.2.2.2.1, x39]))]) fun x46 h47 =>
bothK (E (.fn 100) [x46] h47) fun x48 h49 =>
valK (abin tab .neq 26 x48 (.int .i64 0)) fun x50 =>
boolK x50 (
hpK (unmark h49 ms32) fun h51 =>
some (x48, h51)) (
valK (loadA tab h49 72 v31.2.2.2.1) fun x52 =>
valK (nilA x52) fun x53 =>
valK (afieldAddr tab 146 x53 2) fun x54 =>
valK (loadA tab h49 144 x54) fun x55 =>
valK (alookup tab h49 144 x55 v31.1 false) fun x56 =>
valK (nilA x56) fun x57 =>
valK (afieldAddr tab 143 x57 2) fun x58 =>
valK (loadA tab h49 141 x58) fun x59 =>
hpK (adelete tab h49 141 x59 v31.2.1) fun h60 =>
valK (loadA tab h60 72 v31.2.2.2.1) fun x61 =>
valK (nilA x61) fun x62 =>
valK (afieldAddr tab 146 x62 2) fun x63 =>
valK (loadA tab h60 144 x63) fun x64 =>
valK (loadA tab h60 3 v31.2.2.2.2.1) fun x65 =>
valK (alookup tab h60 144 x64 x65 false) fun x66 =>
valK (nilA x66) fun x67 =>
valK (afieldAddr tab 143 x67 2) fun x68 =>
valK (loadA tab h60 141 x68) fun x69 =>
valK (loadA tab h60 3 x39) fun x70 =>
hpK (amapUpdate tab h60 141 x69 v31.2.2.1 x70) fun h71 =>
valK (loadA tab h71 72 v31.2.2.2.1) fun x72 =>
valK (nilA x72) fun x73 =>
valK (afieldAddr tab 146 x73 2) fun x74 =>
valK (loadA tab h71 144 x74) fun x75 =>
valK (loadA tab h71 3 x39) fun x76 =>
valK (alookup tab h71 144 x75 x76 false) fun x77 =>
valK (nilA x77) fun x78 =>
valK (afieldAddr tab 143 x78 0) fun x79 =>
valK (afieldAddr tab 43 x79 0) fun x80 =>
valK (loadA tab h71 3 x80) fun x81 =>
valK (abin tab .eql 3 x81 (.int .i64 2)) fun x82 =>
boolK x82 (
valK (loadA tab h71 3 v31.2.2.2.2.1) fun x83 =>
valK (nilA x77) fun x84 =>
valK (afieldAddr tab 143 x84 1) fun x85 =>
hpK (storeA tab h71 3 x85 x83) fun h86 =>
hpK (unmark h86 ms32) fun h87 =>
some ((.int .i64 0), h87)) (
hpK (unmark h71 ms32) fun h88 =>
some ((.int .i64 0), h88)))) fun j30_ =>
valK (abin tab .neq 26 x28 (.int .i64 0)) fun x89 =>
boolK x89 (
some (x28, h29)) (
valK (loadA tab h29 3 x2) fun x90 =>
valK (abin tab .eql 3 a1 x90) fun x91 =>
skipK x91 (
boolK (.tuple []) (
boolK (.tuple []) (
some (x28, h29)) (
j30_ (a1, a2, a4, x0, x2, ()) [] h29)) (
j30_ (a1, a2, a4, x0, x2, ()) [] h29)) (
boolK x91 (
valK (abin tab .eql 9 a2 a4) fun x92 =>
boolK x92 (
some (x28, h29)) (
j30_ (a1, a2, a4, x0, x2, ()) [] h29)) (
j30_ (a1, a2, a4, x0, x2, ()) [] h29))))))))))))
theorem F73_eq (E : Env) (n : Nat) (a0 a1 a2 a3 a4 : AV) (h : AHeap) : fnK E tab a73 73 n [a0, a1, a2, a3, a4] h = F73 E n a0 a1 a2 a3 a4 h := by kernel_rfl

/-- (*whisk/fs.Fs).List$1 (ino, n, , ) -/
noncomputable def F74 (E : Env) (n : Nat) (a0 a1 a2 a3 : AV) (h : AHeap) : Option (AV × AHeap) :=
bothK (boxA h a1) fun x0 h1 =>
valK (afieldAddr tab 43 x0 0) fun x2 =>
valK (loadA tab h1 3 x2) fun x3 =>
valK (abin tab .neq 3 x3 (.int .i64 2)) fun x4 =>
boolK x4 (
some ((.int .i64 8), h1)) (
valK (loadA tab h1 22 a2) fun x5 =>
valK (nilA x5) fun x6 =>
valK (afieldAddr tab 75 x6 0) fun x7 =>
valK (loadA tab h1 72 x7) fun x8 =>
bothK (E (.fn 70) [x8, a0] h1) fun x9 h10 =>
hpK (storeA tab h10 47 a3 x9) fun h11 =>
some ((.int .i64 0), h11))
theorem F74_eq (E : Env) (n : Nat) (a0 a1 a2 a3 : AV) (h : AHeap) : fnK E tab a74 74 n [a0, a1, a2, a3] h = F74 E n a0 a1 a2 a3 h := by kernel_rfl

/-- (*whisk/fs.Fs).Chmod$1 (ino, _, , ) -/
noncomputable def F75 (E : Env) (n : Nat) (a0 a1 a2 a3 : AV) (h : AHeap) : Option (AV × AHeap) :=
bothK (boxA h a1) fun x0 h1 =>
valK (loadA tab h1 22 a2) fun x2 =>
valK (nilA x2) fun x3 =>
valK (afieldAddr tab 75 x3 0) fun x4 =>
valK (loadA tab h1 72 x4) fun x5 =>
valK (loadA tab h1 3 a3) fun x6 =>
bothK (E (.fn 76) [x5, a0, x6] h1) fun x7 h8 =>
some (x7, h8)
theorem F75_eq (E : Env) (n : Nat) (a0 a1 a2 a3 : AV) (h : AHeap) : fnK E tab a75 75 n [a0, a1, a2, a3] h = F75 E n a0 a1 a2 a3 h := by kernel_rfl

/-- (*whisk/inode.Table).Chmod (t, ino, mode) -/
noncomputable def F76 (E : Env) (n : Nat) (a0 a1 a2 : AV) (h : AHeap) : Option (AV × AHeap) :=
bothK (boxA h a0) fun x0 h1 =>
bothK (boxA h1 a1) fun x2 h3 =>
bothK (boxA h3 a2) fun x4 h5 =>
valK (loadA tab h5 72 x0) fun x6 =>
bothK (abuildSlice tab h5 203 3 [(0, (.func 101 [x6] [])), (1, (.func 127 [] [x4])), (2, (.func 128 [] [x0, x2]))]) fun x7 h8 =>
bothK (E (.fn 100) [x7] h8) fun x9 h10 =>
valK (abin tab .neq 26 x9 (.int .i64 0)) fun x11 =>
boolK x11 (
some (x9, h10)) (
valK (loadA tab h10 72 x0) fun x12 =>
valK (nilA x12) fun x13 =>
valK (afieldAddr tab 146 x13 2) fun x14 =>
valK (loadA tab h10 144 x14) fun x15 =>
valK (loadA tab h10 3 x2) fun x16 =>
valK (alookup tab h10 144 x15 x16 false) fun x17 =>
valK (loadA tab h10 3 x4) fun x18 =>
valK (nilA x17) fun x19 =>
valK (afieldAddr tab 143 x19 0) fun x20 =>
valK (afieldAddr tab 43 x20 1) fun x21 =>
hpK (storeA tab h10 3 x21 x18) fun h22 =>
some ((.int .i64 0), h22))
theorem F76_eq (E : Env) (n : Nat) (a0 a1 a2 : AV) (h : AHeap) : fnK E tab a76 76 n [a0, a1, a2] h = F76 E n a0 a1 a2 h := by kernel_rfl

/-- (*whisk/fs.Fs).Lay$1 (p, , ) -/
noncomputable def F77 (E : Env) (n : Nat) (a0 a1 a2 : AV) (h : AHeap) : Option (AV × AHeap) :=
bothK (boxA h a0) fun x0 h1 =>
valK (loadA tab h1 32 a1) fun x2 =>
bothK (E (.fn 78) [x2] h1) fun x3 h4 =>
valK (extractA x3 0) fun x5 =>
valK (extractA x3 1) fun x6 =>
valK (loadA tab h4 22 a2) fun x7 =>
valK (loadA tab h4 22 a2) fun x8 =>
valK (nilA x8) fun x9 =>
valK (afieldAddr tab 75 x9 0) fun x10 =>
valK (loadA tab h4 72 x10) fun x11 =>
bothK (newCells h4 [.int .i64 0, .int .i64 0] fun o => .ptr o 0) fun x12 h13 =>
bothK (newCells h13 [.int .i64 0, .int .i64 0] fun o => .ptr o 0) fun x14 h15 =>
bothK (E (.fn 20) [x7] h15) fun x16 h17 =>
valK (loadA tab h17 72 x10) fun x18 =>
sameK x18 x11 (
valK (loadA tab h17 22 a2) fun x19 =>
sameK x19 x8 (
bothK (E (.fn 79) [x11] h17) fun x20 h21 =>
hpK (storeA tab h21 25 x12 x16) fun h22 =>
hpK (storeA tab h22 25 x14 x20) fun h23 =>
valK (loadA tab h23 22 a2) fun x24 =>
valK (afieldAddr tab 77 x0 0) fun x25 =>
valK (loadA tab h23 3 x25) fun x26 =>
valK (loadA tab h23 32 a1) fun x27 =>
bothK (E (.fn 52) [x24, x26] h23) fun x28 h29 =>
valK (loadA tab h29 32 a1) fun x30 =>
sameK x30 x27 (
bothK (E (.fn 80) [x27] h29) fun x31 h32 =>
valK (abin tab .add 3 x28 x31) fun x33 =>
valK (abin tab .gtr 3 x33 (.int .i64 12)) fun x34 =>
boolK x34 (
some ((.int .i64 3), h32)) (
valK (afieldAddr tab 25 x12 0) fun x35 =>
valK (loadA tab h32 3 x35) fun x36 =>
valK (abin tab .add 3 x36 x5) fun x37 =>
valK (afieldAddr tab 25 x14 0) fun x38 =>
valK (loadA tab h32 3 x38) fun x39 =>
valK (abin tab .gtr 3 x37 x39) fun x40 =>
boolK x40 (
some ((.int .i64 10), h32)) (
valK (afieldAddr tab 25 x12 1) fun x41 =>
valK (loadA tab h32 3 x41) fun x42 =>
valK (abin tab .add 3 x42 x6) fun x43 =>
valK (afieldAddr tab 25 x14 1) fun x44 =>
valK (loadA tab h32 3 x44) fun x45 =>
valK (abin tab .gtr 3 x43 x45) fun x46 =>
boolK x46 (
some ((.int .i64 10), h32)) (
valK (loadA tab h32 22 a2) fun x47 =>
valK (afieldAddr tab 77 x0 0) fun x48 =>
valK (loadA tab h32 3 x48) fun x49 =>
valK (afieldAddr tab 77 x0 1) fun x50 =>
valK (loadA tab h32 9 x50) fun x51 =>
valK (loadA tab h32 32 a1) fun x52 =>
bothK (E (.fn 81) [x47, x49, x51, x52] h32) fun x53 h54 =>
some (x53, h54)))))))
theorem F77_eq (E : Env) (n : Nat) (a0 a1 a2 : AV) (h : AHeap) : fnK E tab a77 77 n [a0, a1, a2] h = F77 E n a0 a1 a2 h := by kernel_rfl

/-- whisk/tree.Size (n) -/
noncomputable def F78 (E : Env) (n : Nat) (a0 : AV) (h : AHeap) : Option (AV × AHeap) :=
bothK (boxA h a0) fun x0 h1 =>
valK (loadA tab h1 32 x0) fun x2 =>
bothK (E (.fn 55) [x2] h1) fun x3 h4 =>
boolK x3 (
some (.tuple [(.int .i64 0), (.int .i64 0)], h4)) (
valK (loadA tab h4 32 x0) fun x5 =>
bothK (E (.fn 129) [x5] h4) fun x6 h7 =>
valK (extractA x6 0) fun x8 =>
valK (extractA x6 1) fun x9 =>
some (.tuple [x8, x9], h7))
theorem F78_eq (E : Env) (n : Nat) (a0 : AV) (h : AHeap) : fnK E tab a78 78 n [a0] h = F78 E n a0 h := by kernel_rfl

/-- (*whisk/inode.Table).Quota (t) -/
noncomputable def F79 (E : Env) (n : Nat) (a0 : AV) (h : AHeap) : Option (AV × AHeap) :=
bothK (newCells h [.int .i64 0, .int .i64 0] fun o => .ptr o 0) fun x0 h1 =>
valK (abin tab .eql 72 a0 (.nilptr)) fun x2 =>
boolK x2 (
valK (abuild tab 25 []) fun x3 =>
hpK (storeA tab h1 25 x0 x3) fun h4 =>
valK (loadA tab h4 25 x0) fun x5 =>
some (x5, h4)) (
valK (nilA a0) fun x6 =>
valK (afieldAddr tab 146 x6 0) fun x7 =>
valK (loadA tab h1 25 x7) fun x8 =>
hpK (storeA tab h1 25 x0 x8) fun h9 =>
valK (loadA tab h9 25 x0) fun x10 =>
some (x10, h9))
theorem F79_eq (E : Env) (n : Nat) (a0 : AV) (h : AHeap) : fnK E tab a79 79 n [a0] h = F79 E n a0 h := by kernel_rfl

/-- v: 3 most, 10, 11, 12 -/
noncomputable def F80_b5 (E : Env) (n : Nat) (v : AV × AV × AV × AV × Unit) (ms : List Nat) (h : AHeap) (next8_ : AV × AV × AV × AV × Unit → List Nat → AHeap → Option (AV × AHeap)) : Option (AV × AHeap) :=
valK (abin tab .lss 3 v.2.2.2.1 v.2.2.1) fun x9 =>
boolK x9 (
valK (aindexAddr tab 30 v.2.1 v.2.2.2.1) fun x10 =>
valK (loadA tab h 32 x10) fun x11 =>
bothK (newCells h [.str [], .int .i64 0, .bool false, .str [], .nilslice] fun o => .ptr o 0) fun x12 h13 =>
hpK (storeA tab h13 32 x12 x11) fun h14 =>
valK (loadA tab h14 32 x12) fun x15 =>
bothK (E (.fn 80) [x15] h14) fun x16 h17 =>
valK (amax v.1 x16) fun x18 =>
valK (abin tab .add 3 v.2.2.2.1 (.int .i64 1)) fun x19 =>
next8_ (x18, v.2.1, v.2.2.1, x19, ()) ms h17) (
valK (abin tab .add 3 v.1 (.int .i64 1)) fun x20 =>
hpK (unmark h ms) fun h21 =>
some (x20, h21))
/-- whisk/fs.levels (n) -/
noncomputable def F80 (E : Env) (n : Nat) (a0 : AV) (h : AHeap) : Option (AV × AHeap) :=
bothK (boxA h a0) fun x0 h1 =>
valK (afieldAddr tab 32 x0 1) fun x2 =>
valK (loadA tab h1 3 x2) fun x3 =>
valK (abin tab .neq 3 x3 (.int .i64 2)) fun x4 =>
boolK x4 (
some ((.int .i64 0), h1)) (
valK (afieldAddr tab 32 x0 4) fun x5 =>
valK (loadA tab h1 30 x5) fun x6 =>
valK (alen tab h1 30 x6) fun x7 =>
loopN (F80_b5 E n) n ((.int .i64 0), x6, x7, (.int .i64 0), ()) [] h1)
theorem F80_eq (E : Env) (n : Nat) (a0 : AV) (h : AHeap) : fnK E tab a80 80 n [a0] h = F80 E n a0 h := by kernel_rfl

/-- v: 0 f, 10 ino, 11 e, 37, 38, 39 -/
noncomputable def F81_b6 (E : Env) (n : Nat) (v : AV × AV × AV × AV × AV × AV × Unit) (ms : List Nat) (h : AHeap) (next28_ : AV × AV × AV × AV × AV × AV × Unit → List Nat → AHeap → Option (AV × AHeap)) : Option (AV × AHeap) :=
valK (abin tab .lss 3 v.2.2.2.2.2.1 v.2.2.2.2.1) fun x29 =>
boolK x29 (
valK (aindexAddr tab 30 v.2.2.2.1 v.2.2.2.2.2.1) fun x30 =>
valK (loadA tab h 32 x30) fun x31 =>
bothK (newCells h [.str [], .int .i64 0, .bool false, .str [], .nilslice] fun o => .ptr o 0) fun x32 h33 =>
hpK (storeA tab h33 32 x32 x31) fun h34 =>
valK (abin tab .eql 26 v.2.2.1 (.int .i64 0)) fun x35 =>
boolK x35 (
valK (afieldAddr tab 32 x32 0) fun x36 =>
valK (loadA tab h34 9 x36) fun x37 =>
valK (loadA tab h34 32 x32) fun x38 =>
bothK (E (.fn 81) [v.1, v.2.1, x37, x38] h34) fun x39 h40 =>
valK (abin tab .add 3 v.2.2.2.2.2.1 (.int .i64 1)) fun x41 =>
next28_ (v.1, v.2.1, x39, v.2.2.2.1, v.2.2.2.2.1, x41, ()) ms h40) (
valK (abin tab .add 3 v.2.2.2.2.2.1 (.int .i64 1)) fun x42 =>
next28_ (v.1, v.2.1, v.2.2.1, v.2.2.2.1, v.2.2.2.2.1, x42, ()) ms h34)) (
hpK (unmark h ms) fun h43 =>
some (v.2.2.1, h43))
/-- (*whisk/fs.Fs).lay (f, dir, name, n) -/
noncomputable def F81 (E : Env) (n : Nat) (a0 a1 a2 a3 : AV) (h : AHeap) : Option (AV × AHeap) :=
bothK (boxA h a3) fun x0 h1 =>
bothK (newMapA h1) fun x2 h3 =>
hpK (amapUpdate tab h3 172 x2 (.int .i64 1) (.int .i64 420)) fun h4 =>
hpK (amapUpdate tab h4 172 x2 (.int .i64 2) (.int .i64 493)) fun h5 =>
hpK (amapUpdate tab h5 172 x2 (.int .i64 3) (.int .i64 511)) fun h6 =>
valK (afieldAddr tab 32 x0 1) fun x7 =>
valK (loadA tab h6 3 x7) fun x8 =>
valK (alookup tab h6 172 x2 x8 false) fun x9 =>
jn (fun (v11 : AV × AV × AV × AV × AV × Unit) (ms12 : List Nat) (h13 : AHeap) =>
valK (nilA v11.1) fun x14 =>
valK (afieldAddr tab 75 x14 0) fun x15 =>
valK (loadA tab h13 72 x15) fun x16 =>
valK (afieldAddr tab 32 v11.2.2.2.1 1) fun x17 =>
valK (loadA tab h13 3 x17) fun x18 =>
valK (afieldAddr tab 32 v11.2.2.2.1 3) fun x19 =>
valK (loadA tab h13 9 x19) fun x20 =>
bothK (E (.fn 44) [x16, v11.2.1, v11.2.2.1, x18, v11.2.2.2.2.1, x20] h13) fun x21 h22 =>
valK (extractA x21 0) fun x23 =>
valK (extractA x21 1) fun x24 =>
valK (afieldAddr tab 32 v11.2.2.2.1 4) fun x25 =>
valK (loadA tab h22 30 x25) fun x26 =>
valK (alen tab h22 30 x26) fun x27 =>
loopN (F81_b6 E n) n (v11.1, x23, x24, x26, x27, (.int .i64 0), ()) ms12 h22) fun j10_ =>
valK (afieldAddr tab 32 x0 2) fun x44 =>
valK (loadA tab h6 4 x44) fun x45 =>
boolK x45 (
j10_ (a0, a1, a2, x0, (.int .i64 493), ()) [] h6) (
j10_ (a0, a1, a2, x0, x9, ()) [] h6)
theorem F81_eq (E : Env) (n : Nat) (a0 a1 a2 a3 : AV) (h : AHeap) : fnK E tab a81 81 n [a0, a1, a2, a3] h = F81 E n a0 a1 a2 a3 h := by kernel_rfl

/-- (*whisk/fs.Fs).Read$1 (_, n, ) -/
noncomputable def F82 (E : Env) (n : Nat) (a0 a1 a2 : AV) (h : AHeap) : Option (AV × AHeap) :=
bothK (boxA h a1) fun x0 h1 =>
valK (afieldAddr tab 43 x0 0) fun x2 =>
valK (loadA tab h1 3 x2) fun x3 =>
valK (abin tab .eql 3 x3 (.int .i64 2)) fun x4 =>
boolK x4 (
some ((.int .i64 7), h1)) (
valK (afieldAddr tab 43 x0 2) fun x5 =>
valK (loadA tab h1 9 x5) fun x6 =>
hpK (storeA tab h1 9 a2 x6) fun h7 =>
some ((.int .i64 0), h7))
theorem F82_eq (E : Env) (n : Nat) (a0 a1 a2 : AV) (h : AHeap) : fnK E tab a82 82 n [a0, a1, a2] h = F82 E n a0 a1 a2 h := by kernel_rfl

/-- (*whisk/inode.Table).Root (t) -/
noncomputable def F83 (E : Env) (n : Nat) (a0 : AV) (h : AHeap) : Option (AV × AHeap) :=
valK (abin tab .eql 72 a0 (.nilptr)) fun x0 =>
boolK x0 (
some ((.int .i64 0), h)) (
some ((.int .i64 1), h))
theorem F83_eq (E : Env) (n : Nat) (a0 : AV) (h : AHeap) : fnK E tab a83 83 n [a0] h = F83 E n a0 h := by kernel_rfl

/-- (*whisk/inode.Table).Up (t, dir) -/
noncomputable def F84 (E : Env) (n : Nat) (a0 a1 : AV) (h : AHeap) : Option (AV × AHeap) :=
bothK (E (.fn 107) [a0, a1] h) fun x0 h1 =>
valK (abin tab .eql 140 x0 (.nilptr)) fun x2 =>
boolK x2 (
some ((.int .i64 0), h1)) (
valK (nilA x0) fun x3 =>
valK (afieldAddr tab 143 x3 1) fun x4 =>
valK (loadA tab h1 3 x4) fun x5 =>
some (x5, h1))
theorem F84_eq (E : Env) (n : Nat) (a0 a1 : AV) (h : AHeap) : fnK E tab a84 84 n [a0, a1] h = F84 E n a0 a1 h := by kernel_rfl

/-- (*whisk/inode.Table).Find (t, dir, name) -/
noncomputable def F85 (E : Env) (n : Nat) (a0 a1 a2 : AV) (h : AHeap) : Option (AV × AHeap) :=
bothK (E (.fn 107) [a0, a1] h) fun x0 h1 =>
valK (abin tab .eql 140 x0 (.nilptr)) fun x2 =>
boolK x2 (
some (.tuple [(.int .i64 0), (.bool false)], h1)) (
valK (nilA x0) fun x3 =>
valK (afieldAddr tab 143 x3 2) fun x4 =>
valK (loadA tab h1 141 x4) fun x5 =>
valK (alookup tab h1 141 x5 a2 true) fun x6 =>
valK (extractA x6 0) fun x7 =>
valK (extractA x6 1) fun x8 =>
some (.tuple [x7, x8], h1))
theorem F85_eq (E : Env) (n : Nat) (a0 a1 a2 : AV) (h : AHeap) : fnK E tab a85 85 n [a0, a1, a2] h = F85 E n a0 a1 a2 h := by kernel_rfl

noncomputable def F97_r10_as : Code := subCode [1, 1, 1, 1, 0, 1, 0, 0] ((Go.Proofs.Tryz.f97.body).getD .skip)
noncomputable def F97_r10_bd : Code := subCode [1, 1, 1, 1, 0, 1, 0, 1] ((Go.Proofs.Tryz.f97.body).getD .skip)
/-- a round; v: 5 f, 8 follow, 9 hops, 10, 11, 13 p -/
noncomputable def F97_r10 (E : Env) (n l : Nat) (v : AV × AV × AV × AV × AV × AV × Unit) (x47 : AV) (x48 : AV) (h : AHeap) : Option (AV × AHeap) :=
loopAtK h l fun L49 => readyK L49 (
valK (afieldAddr tab 77 v.2.2.2.2.2.1 3) fun x51 =>
valK (loadA tab (h.put l (.loop { L49 with state := .busy })) 4 x51) fun x52 =>
valK (aun .not x52) fun x53 =>
boolK x53 (
valK (abuild tab 77 []) fun x54 =>
hpK (storeA tab (h.put l (.loop { L49 with state := .busy })) 77 v.2.2.2.1 x54) fun h55 =>
hpK (storeA tab h55 26 v.2.2.2.2.1 (.int .i64 5)) fun h56 =>
loopAtK h56 l fun L50 =>
some (.bool false, h56.put l (.loop { L50 with state := .done, pending := .ret }))) (
valK (loadA tab (h.put l (.loop { L49 with state := .busy })) 22 v.1) fun x57 =>
valK (afieldAddr tab 77 v.2.2.2.2.2.1 2) fun x58 =>
valK (loadA tab (h.put l (.loop { L49 with state := .busy })) 3 x58) fun x59 =>
bothK (E (.fn 65) [x57, x59] (h.put l (.loop { L49 with state := .busy }))) fun x60 h61 =>
valK (abin tab .neq 3 x60 (.int .i64 2)) fun x62 =>
boolK x62 (
valK (abuild tab 77 []) fun x63 =>
hpK (storeA tab h61 77 v.2.2.2.1 x63) fun h64 =>
hpK (storeA tab h64 26 v.2.2.2.2.1 (.int .i64 8)) fun h65 =>
loopAtK h65 l fun L50 =>
some (.bool false, h65.put l (.loop { L50 with state := .done, pending := .ret }))) (
valK (abin tab .eql 9 x47 (.str [46, 46])) fun x66 =>
boolK x66 (
valK (loadA tab h61 22 v.1) fun x67 =>
valK (nilA x67) fun x68 =>
valK (afieldAddr tab 75 x68 0) fun x69 =>
valK (loadA tab h61 72 x69) fun x70 =>
valK (afieldAddr tab 77 v.2.2.2.2.2.1 2) fun x71 =>
valK (loadA tab h61 3 x71) fun x72 =>
bothK (E (.fn 84) [x70, x72] h61) fun x73 h74 =>
valK (abuild tab 77 [(0, x73), (2, x73), (3, (.bool true))]) fun x75 =>
hpK (storeA tab h74 77 v.2.2.2.2.2.1 x75) fun h76 =>
loopAtK h76 l fun L50 =>
some (.bool true, h76.put l (.loop { L50 with state := .ready, pending := .normal }))) (
valK (alen tab h61 9 x47) fun x77 =>
valK (abin tab .gtr 3 x77 (.int .i64 56)) fun x78 =>
boolK x78 (
valK (abuild tab 77 []) fun x79 =>
hpK (storeA tab h61 77 v.2.2.2.1 x79) fun h80 =>
hpK (storeA tab h80 26 v.2.2.2.2.1 (.int .i64 3)) fun h81 =>
loopAtK h81 l fun L50 =>
some (.bool false, h81.put l (.loop { L50 with state := .done, pending := .ret }))) (
valK (afieldAddr tab 77 v.2.2.2.2.2.1 2) fun x82 =>
valK (loadA tab h61 3 x82) fun x83 =>
valK (abuild tab 77 [(0, x83), (1, x47)]) fun x84 =>
hpK (storeA tab h61 77 v.2.2.2.2.2.1 x84) fun h85 =>
valK (loadA tab h85 22 v.1) fun x86 =>
valK (nilA x86) fun x87 =>
valK (afieldAddr tab 75 x87 0) fun x88 =>
valK (loadA tab h85 72 x88) fun x89 =>
valK (afieldAddr tab 77 v.2.2.2.2.2.1 0) fun x90 =>
valK (loadA tab h85 3 x90) fun x91 =>
bothK (E (.fn 85) [x89, x91, x47] h85) fun x92 h93 =>
valK (extractA x92 0) fun x94 =>
valK (extractA x92 1) fun x95 =>
valK (afieldAddr tab 77 v.2.2.2.2.2.1 2) fun x96 =>
hpK (storeA tab h93 3 x96 x94) fun h97 =>
valK (afieldAddr tab 77 v.2.2.2.2.2.1 3) fun x98 =>
hpK (storeA tab h97 4 x98 x95) fun h99 =>
jn (fun (v101 : AV × AV × AV × AV × AV × Unit) (ms102 : List Nat) (h103 : AHeap) =>
valK (loadA tab h103 148 v101.2.1) fun x104 =>
valK (nilA x104) fun x105 =>
valK (loadA tab h103 3 x105) fun x106 =>
valK (abin tab .sub 3 x106 (.int .i64 1)) fun x107 =>
valK (nilA x104) fun x108 =>
hpK (storeA tab h103 3 x108 x107) fun h109 =>
valK (loadA tab h109 148 v101.2.1) fun x110 =>
valK (nilA x110) fun x111 =>
valK (loadA tab h109 3 x111) fun x112 =>
valK (abin tab .lss 3 x112 (.int .i64 0)) fun x113 =>
boolK x113 (
valK (abuild tab 77 []) fun x114 =>
hpK (storeA tab h109 77 v101.2.2.1 x114) fun h115 =>
hpK (storeA tab h115 26 v101.2.2.2.1 (.int .i64 9)) fun h116 =>
loopAtK h116 l fun L50 =>
some (.bool false, h116.put l (.loop { L50 with state := .done, pending := .ret }))) (
valK (loadA tab h109 22 v101.1) fun x117 =>
valK (nilA x117) fun x118 =>
valK (afieldAddr tab 75 x118 0) fun x119 =>
valK (loadA tab h109 72 x119) fun x120 =>
valK (afieldAddr tab 77 v101.2.2.2.2.1 2) fun x121 =>
valK (loadA tab h109 3 x121) fun x122 =>
bothK (newCells h109 [.int .i64 0, .int .i64 0, .str [], .int .i64 0] fun o => .ptr o 0) fun x123 h124 =>
bothK (E (.fn 45) [x120, x122] h124) fun x125 h126 =>
valK (extractA x125 0) fun x127 =>
valK (extractA x125 1) fun x128 =>
hpK (storeA tab h126 43 x123 x127) fun h129 =>
valK (loadA tab h129 22 v101.1) fun x130 =>
valK (afieldAddr tab 77 v101.2.2.2.2.1 0) fun x131 =>
valK (loadA tab h129 3 x131) fun x132 =>
valK (afieldAddr tab 43 x123 2) fun x133 =>
valK (loadA tab h129 9 x133) fun x134 =>
valK (loadA tab h129 148 v101.2.1) fun x135 =>
bothK (E (.fn 97) [x130, x132, x134, (.bool true), x135] h129) fun x136 h137 =>
valK (extractA x136 0) fun x138 =>
valK (extractA x136 1) fun x139 =>
bothK (newCells h137 [.int .i64 0, .str [], .int .i64 0, .bool false] fun o => .ptr o 0) fun x140 h141 =>
hpK (storeA tab h141 77 x140 x138) fun h142 =>
valK (abin tab .neq 26 x139 (.int .i64 0)) fun x143 =>
boolK x143 (
valK (abuild tab 77 []) fun x144 =>
hpK (storeA tab h142 77 v101.2.2.1 x144) fun h145 =>
hpK (storeA tab h145 26 v101.2.2.2.1 x139) fun h146 =>
loopAtK h146 l fun L50 =>
some (.bool false, h146.put l (.loop { L50 with state := .done, pending := .ret }))) (
valK (loadA tab h142 77 x140) fun x147 =>
hpK (storeA tab h142 77 v101.2.2.2.2.1 x147) fun h148 =>
loopAtK h148 l fun L50 =>
some (.bool true, h148.put l (.loop { L50 with state := .ready, pending := .normal }))))) fun j100_ =>
valK (afieldAddr tab 77 v.2.2.2.2.2.1 3) fun x149 =>
valK (loadA tab h99 4 x149) fun x150 =>
valK (aun .not x150) fun x151 =>
boolK x151 (
loopAtK h99 l fun L50 =>
some (.bool true, h99.put l (.loop { L50 with state := .ready, pending := .normal }))) (
skipK x48 (
boolK (.tuple []) (
boolK (.tuple []) (
loopAtK h99 l fun L50 =>
some (.bool true, h99.put l (.loop { L50 with state := .ready, pending := .normal }))) (
valK (loadA tab h99 22 v.1) fun x152 =>
valK (afieldAddr tab 77 v.2.2.2.2.2.1 2) fun x153 =>
valK (loadA tab h99 3 x153) fun x154 =>
bothK (E (.fn 65) [x152, x154] h99) fun x155 h156 =>
valK (abin tab .neq 3 x155 (.int .i64 3)) fun x157 =>
boolK x157 (
loopAtK h156 l fun L50 =>
some (.bool true, h156.put l (.loop { L50 with state := .ready, pending := .normal }))) (
j100_ (v.1, v.2.2.1, v.2.2.2.1, v.2.2.2.2.1, v.2.2.2.2.2.1, ()) [] h156))) (
valK (loadA tab h99 22 v.1) fun x158 =>
valK (afieldAddr tab 77 v.2.2.2.2.2.1 2) fun x159 =>
valK (loadA tab h99 3 x159) fun x160 =>
bothK (E (.fn 65) [x158, x160] h99) fun x161 h162 =>
valK (abin tab .neq 3 x161 (.int .i64 3)) fun x163 =>
boolK x163 (
loopAtK h162 l fun L50 =>
some (.bool true, h162.put l (.loop { L50 with state := .ready, pending := .normal }))) (
j100_ (v.1, v.2.2.1, v.2.2.2.1, v.2.2.2.2.1, v.2.2.2.2.2.1, ()) [] h162))) (
boolK x48 (
valK (loadA tab h99 4 v.2.1) fun x164 =>
valK (aun .not x164) fun x165 =>
boolK x165 (
loopAtK h99 l fun L50 =>
some (.bool true, h99.put l (.loop { L50 with state := .ready, pending := .normal }))) (
valK (loadA tab h99 22 v.1) fun x166 =>
valK (afieldAddr tab 77 v.2.2.2.2.2.1 2) fun x167 =>
valK (loadA tab h99 3 x167) fun x168 =>
bothK (E (.fn 65) [x166, x168] h99) fun x169 h170 =>
valK (abin tab .neq 3 x169 (.int .i64 3)) fun x171 =>
boolK x171 (
loopAtK h170 l fun L50 =>
some (.bool true, h170.put l (.loop { L50 with state := .ready, pending := .normal }))) (
j100_ (v.1, v.2.2.1, v.2.2.2.1, v.2.2.2.2.1, v.2.2.2.2.2.1, ()) [] h170))) (
valK (loadA tab h99 22 v.1) fun x172 =>
valK (afieldAddr tab 77 v.2.2.2.2.2.1 2) fun x173 =>
valK (loadA tab h99 3 x173) fun x174 =>
bothK (E (.fn 65) [x172, x174] h99) fun x175 h176 =>
valK (abin tab .neq 3 x175 (.int .i64 3)) fun x177 =>
boolK x177 (
loopAtK h176 l fun L50 =>
some (.bool true, h176.put l (.loop { L50 with state := .ready, pending := .normal }))) (
j100_ (v.1, v.2.2.1, v.2.2.2.1, v.2.2.2.2.1, v.2.2.2.2.2.1, ()) [] h176)))))))))
noncomputable def F97_r10_loop (st : ALoopState) (pd : AExit) (v : AV × AV × AV × AV × AV × AV × Unit) : ALoop := { state := st, pending := pd, fn := 97, fr := emb [5, 8, 9, 10, 11, 13] v, nt := 142, params := [40, 41], assign := F97_r10_as, body := F97_r10_bd }
theorem F97_r10_eq (E : Env) (n l : Nat) (st : ALoopState) (pd : AExit) (v : AV × AV × AV × AV × AV × AV × Unit) (x47 : AV) (x48 : AV) (h : AHeap) : roundK E tab a97 n l (F97_r10_loop st pd v) [x47, x48] h = F97_r10 E n l v x47 x48 h := by kernel_rfl
/-- (*whisk/fs.Fs).walk (f, at, path, follow, hops) -/
noncomputable def F97 (E : Env) (n : Nat) (a0 a1 a2 a3 a4 : AV) (h : AHeap) : Option (AV × AHeap) :=
bothK (boxA h a0) fun x0 h1 =>
bothK (boxA h1 a3) fun x2 h3 =>
bothK (boxA h3 a4) fun x4 h5 =>
bothK (newCells h5 [.int .i64 0, .str [], .int .i64 0, .bool false] fun o => .ptr o 0) fun x6 h7 =>
bothK (newCells h7 [.int .i64 0] fun o => .ptr o 0) fun x8 h9 =>
bothK (E (.fn 143) [a2] h9) fun x10 h11 =>
valK (abin tab .neq 26 x10 (.int .i64 0)) fun x12 =>
boolK x12 (
valK (abuild tab 77 []) fun x13 =>
hpK (storeA tab h11 77 x6 x13) fun h14 =>
hpK (storeA tab h14 26 x8 x10) fun h15 =>
valK (loadA tab h15 77 x6) fun x16 =>
valK (loadA tab h15 26 x8) fun x17 =>
some (.tuple [x16, x17], h15)) (
jn (fun (v19 : AV × AV × AV × AV × AV × AV × AV × Unit) (ms20 : List Nat) (h21 : AHeap) =>
valK (abuild tab 77 [(0, v19.1), (2, v19.1), (3, (.bool true))]) fun x22 =>
bothK (newCells h21 [.int .i64 0, .str [], .int .i64 0, .bool false] fun o => .ptr o 0) fun x23 h24 =>
hpK (storeA tab h24 77 x23 x22) fun h25 =>
bothK (E (.fn 144) [v19.2.1] h25) fun x26 h27 =>
rangeK E 97 142 x26 [40, 41] F97_r10_as F97_r10_bd (emb [5, 8, 9, 10, 11, 13] (v19.2.2.1, v19.2.2.2.1, v19.2.2.2.2.1, v19.2.2.2.2.2.1, v19.2.2.2.2.2.2.1, x23, ())) ms20 h27 fun e28 ms29 h30 => exitK e28 (
valK (loadA tab h30 77 x23) fun x32 =>
hpK (storeA tab h30 77 v19.2.2.2.2.2.1 x32) fun h33 =>
hpK (storeA tab h33 26 v19.2.2.2.2.2.2.1 (.int .i64 0)) fun h34 =>
hpK (unmark h34 ms29) fun h35 =>
valK (loadA tab h35 77 v19.2.2.2.2.2.1) fun x36 =>
valK (loadA tab h35 26 v19.2.2.2.2.2.2.1) fun x37 =>
some (.tuple [x36, x37], h35)) (fun id31 =>
bif Nat.beq id31 0 then (
valK (loadA tab h30 77 x23) fun x38 =>
hpK (storeA tab h30 77 v19.2.2.2.2.2.1 x38) fun h39 =>
hpK (storeA tab h39 26 v19.2.2.2.2.2.2.1 (.int .i64 0)) fun h40 =>
hpK (unmark h40 ms29) fun h41 =>
valK (loadA tab h41 77 v19.2.2.2.2.2.1) fun x42 =>
valK (loadA tab h41 26 v19.2.2.2.2.2.2.1) fun x43 =>
some (.tuple [x42, x43], h41)) else (
none)) (
hpK (unmark h30 ms29) fun h44 =>
valK (loadA tab h44 77 v19.2.2.2.2.2.1) fun x45 =>
valK (loadA tab h44 26 v19.2.2.2.2.2.2.1) fun x46 =>
some (.tuple [x45, x46], h44))) fun j18_ =>
valK (aindex tab 9 a2 (.int .i64 0)) fun x178 =>
valK (abin tab .eql 5 x178 (.int .u8 47)) fun x179 =>
boolK x179 (
valK (loadA tab h11 22 x0) fun x180 =>
valK (nilA x180) fun x181 =>
valK (afieldAddr tab 75 x181 0) fun x182 =>
valK (loadA tab h11 72 x182) fun x183 =>
bothK (E (.fn 83) [x183] h11) fun x184 h185 =>
j18_ (x184, a2, x0, x2, x4, x6, x8, ()) [] h185) (
j18_ (a1, a2, x0, x2, x4, x6, x8, ()) [] h11))

/-- (*whisk/inode.Table).Make$1 (, , ) -/
noncomputable def F98 (E : Env) (n : Nat) (a0 a1 a2 : AV) (h : AHeap) : Option (AV × AHeap) :=
jn (fun (v1 : AV × AV × AV × AV × Unit) (ms2 : List Nat) (h3 : AHeap) =>
bothK (newMapA h3) fun x4 h5 =>
hpK (amapUpdate tab h5 149 x4 (.int .i64 1) (.bool true)) fun h6 =>
valK (loadA tab h6 9 v1.1) fun x7 =>
valK (abin tab .eql 9 x7 (.str [])) fun x8 =>
hpK (amapUpdate tab h6 149 x4 (.int .i64 2) x8) fun h9 =>
hpK (amapUpdate tab h9 149 x4 (.int .i64 3) v1.2.2.2.1) fun h10 =>
valK (loadA tab h10 3 v1.2.1) fun x11 =>
valK (alookup tab h10 149 x4 x11 false) fun x12 =>
boolK x12 (
valK (loadA tab h10 3 v1.2.2.1) fun x13 =>
valK (abin tab .geq 3 x13 (.int .i64 0)) fun x14 =>
boolK x14 (
valK (loadA tab h10 3 v1.2.2.1) fun x15 =>
valK (abin tab .leq 3 x15 (.int .i64 511)) fun x16 =>
bothK (E (.fn 99) [x16, (.int .i64 2)] h10) fun x17 h18 =>
hpK (unmark h18 ms2) fun h19 =>
some (x17, h19)) (
bothK (E (.fn 99) [(.bool false), (.int .i64 2)] h10) fun x20 h21 =>
hpK (unmark h21 ms2) fun h22 =>
some (x20, h22))) (
bothK (E (.fn 99) [(.bool false), (.int .i64 2)] h10) fun x23 h24 =>
hpK (unmark h24 ms2) fun h25 =>
some (x23, h25))) fun j0_ =>
valK (loadA tab h 9 a0) fun x26 =>
valK (abin tab .neq 9 x26 (.str [])) fun x27 =>
boolK x27 (
valK (loadA tab h 9 a0) fun x28 =>
valK (alen tab h 9 x28) fun x29 =>
valK (abin tab .leq 3 x29 (.int .i64 255)) fun x30 =>
boolK x30 (
valK (loadA tab h 9 a0) fun x31 =>
bothK (E (.fn 48) [x31, (.int .u8 0)] h) fun x32 h33 =>
valK (abin tab .lss 3 x32 (.int .i64 0)) fun x34 =>
j0_ (a0, a1, a2, x34, ()) [] h33) (
j0_ (a0, a1, a2, (.bool false), ()) [] h)) (
j0_ (a0, a1, a2, (.bool false), ()) [] h)
theorem F98_eq (E : Env) (n : Nat) (a0 a1 a2 : AV) (h : AHeap) : fnK E tab a98 98 n [a0, a1, a2] h = F98 E n a0 a1 a2 h := by kernel_rfl

/-- whisk/inode.must (is, e) -/
noncomputable def F99 (E : Env) (n : Nat) (a0 a1 : AV) (h : AHeap) : Option (AV × AHeap) :=
valK (aun .not a0) fun x0 =>
boolK x0 (
some (a1, h)) (
some ((.int .i64 0), h))
theorem F99_eq (E : Env) (n : Nat) (a0 a1 : AV) (h : AHeap) : fnK E tab a99 99 n [a0, a1] h = F99 E n a0 a1 h := by kernel_rfl

/-- v: 6, 7, 8 -/
noncomputable def F100_b2 (E : Env) (n : Nat) (v : AV × AV × AV × Unit) (ms : List Nat) (h : AHeap) (next1_ : AV × AV × AV × Unit → List Nat → AHeap → Option (AV × AHeap)) : Option (AV × AHeap) :=
valK (abin tab .lss 3 v.2.2.1 v.2.1) fun x2 =>
boolK x2 (
valK (aindexAddr tab 203 v.1 v.2.2.1) fun x3 =>
valK (loadA tab h 151 x3) fun x4 =>
callA x4 [] fun f5 as6 =>
bothK (E f5 as6 h) fun x7 h8 =>
valK (abin tab .neq 26 x7 (.int .i64 0)) fun x9 =>
boolK x9 (
hpK (unmark h8 ms) fun h10 =>
some (x7, h10)) (
valK (abin tab .add 3 v.2.2.1 (.int .i64 1)) fun x11 =>
next1_ (v.1, v.2.1, x11, ()) ms h8)) (
hpK (unmark h ms) fun h12 =>
some ((.int .i64 0), h12))
/-- whisk/inode.first (asked) -/
noncomputable def F100 (E : Env) (n : Nat) (a0 : AV) (h : AHeap) : Option (AV × AHeap) :=
valK (alen tab h 203 a0) fun x0 =>
loopN (F100_b2 E n) n (a0, x0, (.int .i64 0), ()) [] h
theorem F100_eq (E : Env) (n : Nat) (a0 : AV) (h : AHeap) : fnK E tab a100 100 n [a0] h = F100 E n a0 h := by kernel_rfl

/-- (*whisk/inode.Table).there (t) -/
noncomputable def F101 (E : Env) (n : Nat) (a0 : AV) (h : AHeap) : Option (AV × AHeap) :=
valK (abin tab .neq 72 a0 (.nilptr)) fun x0 =>
bothK (E (.fn 99) [x0, (.int .i64 1)] h) fun x1 h2 =>
some (x1, h2)
theorem F101_eq (E : Env) (n : Nat) (a0 : AV) (h : AHeap) : fnK E tab a101 101 n [a0] h = F101 E n a0 h := by kernel_rfl

/-- (*whisk/inode.Table).dir (t, ino) -/
noncomputable def F102 (E : Env) (n : Nat) (a0 a1 : AV) (h : AHeap) : Option (AV × AHeap) :=
bothK (boxA h a0) fun x0 h1 =>
bothK (boxA h1 a1) fun x2 h3 =>
some ((.func 145 [] [x0, x2]), h3)
theorem F102_eq (E : Env) (n : Nat) (a0 a1 : AV) (h : AHeap) : fnK E tab a102 102 n [a0, a1] h = F102 E n a0 a1 h := by kernel_rfl

/-- whisk/inode.named (name) -/
noncomputable def F103 (E : Env) (n : Nat) (a0 : AV) (h : AHeap) : Option (AV × AHeap) :=
bothK (boxA h a0) fun x0 h1 =>
some ((.func 146 [] [x0]), h1)
theorem F103_eq (E : Env) (n : Nat) (a0 : AV) (h : AHeap) : fnK E tab a103 103 n [a0] h = F103 E n a0 h := by kernel_rfl

/-- (*whisk/inode.Table).free (t, dir, name) -/
noncomputable def F104 (E : Env) (n : Nat) (a0 a1 a2 : AV) (h : AHeap) : Option (AV × AHeap) :=
bothK (boxA h a0) fun x0 h1 =>
bothK (boxA h1 a1) fun x2 h3 =>
bothK (boxA h3 a2) fun x4 h5 =>
some ((.func 148 [] [x0, x2, x4]), h5)
theorem F104_eq (E : Env) (n : Nat) (a0 a1 a2 : AV) (h : AHeap) : fnK E tab a104 104 n [a0, a1, a2] h = F104 E n a0 a1 a2 h := by kernel_rfl

/-- (*whisk/inode.Table).Make$2 (, ) -/
noncomputable def F105 (E : Env) (n : Nat) (a0 a1 : AV) (h : AHeap) : Option (AV × AHeap) :=
valK (loadA tab h 72 a0) fun x0 =>
valK (loadA tab h 9 a1) fun x1 =>
valK (alen tab h 9 x1) fun x2 =>
bothK (E (.fn 106) [x0, (.int .i64 1), x2] h) fun x3 h4 =>
callA x3 [] fun f5 as6 =>
bothK (E f5 as6 h4) fun x7 h8 =>
some (x7, h8)
theorem F105_eq (E : Env) (n : Nat) (a0 a1 : AV) (h : AHeap) : fnK E tab a105 105 n [a0, a1] h = F105 E n a0 a1 h := by kernel_rfl

/-- (*whisk/inode.Table).room (t, inodes, bytes) -/
noncomputable def F106 (E : Env) (n : Nat) (a0 a1 a2 : AV) (h : AHeap) : Option (AV × AHeap) :=
bothK (boxA h a0) fun x0 h1 =>
bothK (boxA h1 a1) fun x2 h3 =>
bothK (boxA h3 a2) fun x4 h5 =>
some ((.func 149 [] [x0, x2, x4]), h5)
theorem F106_eq (E : Env) (n : Nat) (a0 a1 a2 : AV) (h : AHeap) : fnK E tab a106 106 n [a0, a1, a2] h = F106 E n a0 a1 a2 h := by kernel_rfl

/-- (*whisk/inode.Table).get (t, ino) -/
noncomputable def F107 (E : Env) (n : Nat) (a0 a1 : AV) (h : AHeap) : Option (AV × AHeap) :=
valK (abin tab .eql 72 a0 (.nilptr)) fun x0 =>
boolK x0 (
some ((.nilptr), h)) (
valK (nilA a0) fun x1 =>
valK (afieldAddr tab 146 x1 2) fun x2 =>
valK (loadA tab h 144 x2) fun x3 =>
valK (alookup tab h 144 x3 a1 false) fun x4 =>
some (x4, h))
theorem F107_eq (E : Env) (n : Nat) (a0 a1 : AV) (h : AHeap) : fnK E tab a107 107 n [a0, a1] h = F107 E n a0 a1 h := by kernel_rfl

/-- (*whisk/inode.Table).Write$1 (, , ) -/
noncomputable def F108 (E : Env) (n : Nat) (a0 a1 a2 : AV) (h : AHeap) : Option (AV × AHeap) :=
valK (loadA tab h 72 a0) fun x0 =>
valK (loadA tab h 9 a1) fun x1 =>
valK (alen tab h 9 x1) fun x2 =>
valK (loadA tab h 72 a0) fun x3 =>
valK (nilA x3) fun x4 =>
valK (afieldAddr tab 146 x4 2) fun x5 =>
valK (loadA tab h 144 x5) fun x6 =>
valK (loadA tab h 3 a2) fun x7 =>
valK (alookup tab h 144 x6 x7 false) fun x8 =>
valK (nilA x8) fun x9 =>
valK (afieldAddr tab 143 x9 0) fun x10 =>
valK (afieldAddr tab 43 x10 2) fun x11 =>
valK (loadA tab h 9 x11) fun x12 =>
valK (alen tab h 9 x12) fun x13 =>
valK (abin tab .sub 3 x2 x13) fun x14 =>
bothK (E (.fn 106) [x0, (.int .i64 0), x14] h) fun x15 h16 =>
callA x15 [] fun f17 as18 =>
bothK (E f17 as18 h16) fun x19 h20 =>
some (x19, h20)
theorem F108_eq (E : Env) (n : Nat) (a0 a1 a2 : AV) (h : AHeap) : fnK E tab a108 108 n [a0, a1, a2] h = F108 E n a0 a1 a2 h := by kernel_rfl

/-- (*whisk/inode.Table).file (t, ino) -/
noncomputable def F109 (E : Env) (n : Nat) (a0 a1 : AV) (h : AHeap) : Option (AV × AHeap) :=
bothK (boxA h a0) fun x0 h1 =>
bothK (boxA h1 a1) fun x2 h3 =>
some ((.func 150 [] [x0, x2]), h3)
theorem F109_eq (E : Env) (n : Nat) (a0 a1 : AV) (h : AHeap) : fnK E tab a109 109 n [a0, a1] h = F109 E n a0 a1 h := by kernel_rfl

/-- (whisk/canon.taker).at$1 (, ) -/
noncomputable def F111 (E : Env) (n : Nat) (a0 a1 : AV) (h : AHeap) : Option (AV × AHeap) :=
valK (afieldAddr tab 43 a0 1) fun x0 =>
valK (loadA tab h 3 x0) fun x1 =>
valK (abin tab .and 3 x1 (.int .i64 73)) fun x2 =>
valK (abin tab .neq 3 x2 (.int .i64 0)) fun x3 =>
valK (afieldAddr tab 32 a1 2) fun x4 =>
hpK (storeA tab h 4 x4 x3) fun h5 =>
some ((.int .i64 0), h5)
theorem F111_eq (E : Env) (n : Nat) (a0 a1 : AV) (h : AHeap) : fnK E tab a111 111 n [a0, a1] h = F111 E n a0 a1 h := by kernel_rfl

noncomputable def F112_r4_as : Code := subCode [1, 0, 1, 0, 0] ((Go.Proofs.Tryz.f112.body).getD .skip)
noncomputable def F112_r4_bd : Code := subCode [1, 0, 1, 0, 1] ((Go.Proofs.Tryz.f112.body).getD .skip)
/-- a round; v: 2, 3 -/
noncomputable def F112_r4 (E : Env) (n l : Nat) (v : AV × AV × Unit) (x18 : AV) (x19 : AV) (h : AHeap) : Option (AV × AHeap) :=
bothK (newCells h [.str [], .int .i64 0, .bool false, .str [], .nilslice] fun o => .ptr o 0) fun x22 h23 =>
hpK (storeA tab h23 32 x22 x18) fun h24 =>
loopAtK h24 l fun L20 => readyK L20 (
valK (abin tab .neq 26 x19 (.int .i64 0)) fun x25 =>
boolK x25 (
hpK (storeA tab (h24.put l (.loop { L20 with state := .busy })) 26 v.2.1 x19) fun h26 =>
loopAtK h26 l fun L21 =>
some (.bool false, h26.put l (.loop { L21 with state := .done, pending := .ret }))) (
none))
noncomputable def F112_r4_loop (st : ALoopState) (pd : AExit) (v : AV × AV × Unit) : ALoop := { state := st, pending := pd, fn := 112, fr := emb [2, 3] v, nt := 22, params := [9, 10], assign := F112_r4_as, body := F112_r4_bd }
theorem F112_r4_eq (E : Env) (n l : Nat) (st : ALoopState) (pd : AExit) (v : AV × AV × Unit) (x18 : AV) (x19 : AV) (h : AHeap) : roundK E tab a112 n l (F112_r4_loop st pd v) [x18, x19] h = F112_r4 E n l v x18 x19 h := by kernel_rfl
/-- (whisk/canon.taker).at$2 (, , ) -/
noncomputable def F112 (E : Env) (n : Nat) (a0 a1 a2 : AV) (h : AHeap) : Option (AV × AHeap) :=
bothK (newCells h [.int .i64 0] fun o => .ptr o 0) fun x0 h1 =>
valK (loadA tab h1 90 a0) fun x2 =>
valK (loadA tab h1 9 a1) fun x3 =>
bothK (E (.fn 113) [x2, x3] h1) fun x4 h5 =>
rangeK E 112 22 x4 [9, 10] F112_r4_as F112_r4_bd (emb [2, 3] (a2, x0, ())) [] h5 fun e6 ms7 h8 => exitK e6 (
hpK (storeA tab h8 26 x0 (.int .i64 0)) fun h10 =>
hpK (unmark h10 ms7) fun h11 =>
valK (loadA tab h11 26 x0) fun x12 =>
some (x12, h11)) (fun id9 =>
bif Nat.beq id9 0 then (
hpK (storeA tab h8 26 x0 (.int .i64 0)) fun h13 =>
hpK (unmark h13 ms7) fun h14 =>
valK (loadA tab h14 26 x0) fun x15 =>
some (x15, h14)) else (
none)) (
hpK (unmark h8 ms7) fun h16 =>
valK (loadA tab h16 26 x0) fun x17 =>
some (x17, h16))

/-- (whisk/canon.taker).kids (t, path) -/
noncomputable def F113 (E : Env) (n : Nat) (a0 a1 : AV) (h : AHeap) : Option (AV × AHeap) :=
bothK (boxA h a0) fun x0 h1 =>
bothK (boxA h1 a1) fun x2 h3 =>
some ((.func 152 [] [x0, x2]), h3)
theorem F113_eq (E : Env) (n : Nat) (a0 a1 : AV) (h : AHeap) : fnK E tab a113 113 n [a0, a1] h = F113 E n a0 a1 h := by kernel_rfl

/-- whisk/tree.may (n) -/
noncomputable def F114 (E : Env) (n : Nat) (a0 : AV) (h : AHeap) : Option (AV × AHeap) :=
bothK (boxA h a0) fun x0 h1 =>
valK (afieldAddr tab 32 x0 1) fun x2 =>
valK (loadA tab h1 3 x2) fun x3 =>
valK (abin tab .eql 3 x3 (.int .i64 1)) fun x4 =>
boolK x4 (
bothK (E (.fn 154) [x0] h1) fun x5 h6 =>
some (x5, h6)) (
valK (abin tab .eql 3 x3 (.int .i64 3)) fun x7 =>
boolK x7 (
bothK (abuildSlice tab h1 230 3 [(0, (.func 154 [] [x0])), (1, (.func 155 [] [x0])), (2, (.func 157 [] [x0]))]) fun x8 h9 =>
bothK (E (.fn 156) [x8] h9) fun x10 h11 =>
some (x10, h11)) (
valK (abin tab .eql 3 x3 (.int .i64 2)) fun x12 =>
boolK x12 (
bothK (abuildSlice tab h1 230 3 [(0, (.func 155 [] [x0])), (1, (.func 158 [] [x0])), (2, (.func 159 [] [x0]))]) fun x13 h14 =>
bothK (E (.fn 156) [x13] h14) fun x15 h16 =>
some (x15, h16)) (
some ((.bool false), h1))))
theorem F114_eq (E : Env) (n : Nat) (a0 : AV) (h : AHeap) : fnK E tab a114 114 n [a0] h = F114 E n a0 h := by kernel_rfl

/-- whisk/tree.Deep (n) -/
noncomputable def F115 (E : Env) (n : Nat) (a0 : AV) (h : AHeap) : Option (AV × AHeap) :=
bothK (boxA h a0) fun x0 h1 =>
valK (loadA tab h1 32 x0) fun x2 =>
bothK (E (.fn 161) [x2, (.int .i64 14)] h1) fun x3 h4 =>
some (x3, h4)
theorem F115_eq (E : Env) (n : Nat) (a0 : AV) (h : AHeap) : fnK E tab a115 115 n [a0] h = F115 E n a0 h := by kernel_rfl

/-- internal/stringslite.HasPrefix (s, prefix) -/
noncomputable def F118 (E : Env) (n : Nat) (a0 a1 : AV) (h : AHeap) : Option (AV × AHeap) :=
valK (alen tab h 9 a0) fun x0 =>
valK (alen tab h 9 a1) fun x1 =>
valK (abin tab .geq 3 x0 x1) fun x2 =>
boolK x2 (
valK (alen tab h 9 a1) fun x3 =>
valK (aslice tab 9 a0 none (some x3)) fun x4 =>
valK (abin tab .eql 9 x4 a1) fun x5 =>
some (x5, h)) (
some ((.bool false), h))
theorem F118_eq (E : Env) (n : Nat) (a0 a1 : AV) (h : AHeap) : fnK E tab a118 118 n [a0, a1] h = F118 E n a0 a1 h := by kernel_rfl

/-- (*whisk/inode.Table).Unlink$1 (, , ) -/
noncomputable def F122 (E : Env) (n : Nat) (a0 a1 a2 : AV) (h : AHeap) : Option (AV × AHeap) :=
valK (loadA tab h 72 a0) fun x0 =>
valK (loadA tab h 3 a1) fun x1 =>
valK (loadA tab h 9 a2) fun x2 =>
bothK (E (.fn 85) [x0, x1, x2] h) fun x3 h4 =>
valK (extractA x3 0) fun x5 =>
valK (extractA x3 1) fun x6 =>
valK (loadA tab h4 72 a0) fun x7 =>
valK (nilA x7) fun x8 =>
valK (afieldAddr tab 146 x8 2) fun x9 =>
valK (loadA tab h4 144 x9) fun x10 =>
valK (alookup tab h4 144 x10 x5 false) fun x11 =>
valK (nilA x11) fun x12 =>
valK (afieldAddr tab 143 x12 2) fun x13 =>
valK (loadA tab h4 141 x13) fun x14 =>
valK (alen tab h4 141 x14) fun x15 =>
valK (abin tab .eql 3 x15 (.int .i64 0)) fun x16 =>
bothK (E (.fn 99) [x16, (.int .i64 20)] h4) fun x17 h18 =>
some (x17, h18)
theorem F122_eq (E : Env) (n : Nat) (a0 a1 a2 : AV) (h : AHeap) : fnK E tab a122 122 n [a0, a1, a2] h = F122 E n a0 a1 a2 h := by kernel_rfl

/-- (*whisk/inode.Table).entry (t, dir, name) -/
noncomputable def F123 (E : Env) (n : Nat) (a0 a1 a2 : AV) (h : AHeap) : Option (AV × AHeap) :=
bothK (boxA h a0) fun x0 h1 =>
bothK (boxA h1 a1) fun x2 h3 =>
bothK (boxA h3 a2) fun x4 h5 =>
some ((.func 165 [] [x0, x2, x4]), h5)
theorem F123_eq (E : Env) (n : Nat) (a0 a1 a2 : AV) (h : AHeap) : fnK E tab a123 123 n [a0, a1, a2] h = F123 E n a0 a1 a2 h := by kernel_rfl

/-- v: 0 f, 1 dir, 2 ino -/
noncomputable def F124_b1 (E : Env) (n : Nat) (v : AV × AV × AV × Unit) (ms : List Nat) (h : AHeap) (next0_ : AV × AV × AV × Unit → List Nat → AHeap → Option (AV × AHeap)) : Option (AV × AHeap) :=
valK (abin tab .neq 3 v.2.1 v.2.2.1) fun x1 =>
boolK x1 (
valK (nilA v.1) fun x2 =>
valK (afieldAddr tab 75 x2 0) fun x3 =>
valK (loadA tab h 72 x3) fun x4 =>
bothK (E (.fn 83) [x4] h) fun x5 h6 =>
valK (abin tab .neq 3 v.2.1 x5) fun x7 =>
boolK x7 (
valK (nilA v.1) fun x8 =>
valK (afieldAddr tab 75 x8 0) fun x9 =>
valK (loadA tab h6 72 x9) fun x10 =>
bothK (E (.fn 84) [x10, v.2.1] h6) fun x11 h12 =>
next0_ (v.1, x11, v.2.2.1, ()) ms h12) (
valK (abin tab .eql 3 v.2.1 v.2.2.1) fun x13 =>
hpK (unmark h6 ms) fun h14 =>
some (x13, h14))) (
valK (abin tab .eql 3 v.2.1 v.2.2.1) fun x15 =>
hpK (unmark h ms) fun h16 =>
some (x15, h16))
/-- (*whisk/fs.Fs).within (f, dir, ino) -/
noncomputable def F124 (E : Env) (n : Nat) (a0 a1 a2 : AV) (h : AHeap) : Option (AV × AHeap) :=
loopN (F124_b1 E n) n (a0, a1, a2, ()) [] h
theorem F124_eq (E : Env) (n : Nat) (a0 a1 a2 : AV) (h : AHeap) : fnK E tab a124 124 n [a0, a1, a2] h = F124 E n a0 a1 a2 h := by kernel_rfl

/-- v: 0 f, 1 ino, 5 n, 19, 20, 21 -/
noncomputable def F125_b5 (E : Env) (n : Nat) (v : AV × AV × AV × AV × AV × AV × Unit) (ms : List Nat) (h : AHeap) (next9_ : AV × AV × AV × AV × AV × AV × Unit → List Nat → AHeap → Option (AV × AHeap)) : Option (AV × AHeap) :=
valK (abin tab .lss 3 v.2.2.2.2.2.1 v.2.2.2.2.1) fun x10 =>
boolK x10 (
valK (aindexAddr tab 47 v.2.2.2.1 v.2.2.2.2.2.1) fun x11 =>
valK (loadA tab h 9 x11) fun x12 =>
valK (nilA v.1) fun x13 =>
valK (afieldAddr tab 75 x13 0) fun x14 =>
valK (loadA tab h 72 x14) fun x15 =>
bothK (E (.fn 85) [x15, v.2.1, x12] h) fun x16 h17 =>
valK (extractA x16 0) fun x18 =>
valK (extractA x16 1) fun x19 =>
bothK (E (.fn 125) [v.1, x18] h17) fun x20 h21 =>
valK (amax v.2.2.1 x20) fun x22 =>
valK (abin tab .add 3 v.2.2.2.2.2.1 (.int .i64 1)) fun x23 =>
next9_ (v.1, v.2.1, x22, v.2.2.2.1, v.2.2.2.2.1, x23, ()) ms h21) (
valK (abin tab .add 3 v.2.2.1 (.int .i64 1)) fun x24 =>
hpK (unmark h ms) fun h25 =>
some (x24, h25))
/-- (*whisk/fs.Fs).levels (f, ino) -/
noncomputable def F125 (E : Env) (n : Nat) (a0 a1 : AV) (h : AHeap) : Option (AV × AHeap) :=
bothK (E (.fn 65) [a0, a1] h) fun x0 h1 =>
valK (abin tab .neq 3 x0 (.int .i64 2)) fun x2 =>
boolK x2 (
some ((.int .i64 0), h1)) (
valK (nilA a0) fun x3 =>
valK (afieldAddr tab 75 x3 0) fun x4 =>
valK (loadA tab h1 72 x4) fun x5 =>
bothK (E (.fn 70) [x5, a1] h1) fun x6 h7 =>
valK (alen tab h7 47 x6) fun x8 =>
loopN (F125_b5 E n) n (a0, a1, (.int .i64 0), x6, x8, (.int .i64 0), ()) [] h7)
theorem F125_eq (E : Env) (n : Nat) (a0 a1 : AV) (h : AHeap) : fnK E tab a125 125 n [a0, a1] h = F125 E n a0 a1 h := by kernel_rfl

/-- v: 1, 2, 4 at -/
noncomputable def F126_b2 (E : Env) (n : Nat) (v : AV × AV × AV × Unit) (ms : List Nat) (h : AHeap) (next1_ : AV × AV × AV × Unit → List Nat → AHeap → Option (AV × AHeap)) : Option (AV × AHeap) :=
valK (abin tab .neq 3 v.2.2.1 (.int .i64 1)) fun x2 =>
boolK x2 (
valK (loadA tab h 3 v.2.1) fun x3 =>
valK (abin tab .eql 3 v.2.2.1 x3) fun x4 =>
boolK x4 (
hpK (unmark h ms) fun h5 =>
some ((.int .i64 2), h5)) (
valK (loadA tab h 72 v.1) fun x6 =>
valK (nilA x6) fun x7 =>
valK (afieldAddr tab 146 x7 2) fun x8 =>
valK (loadA tab h 144 x8) fun x9 =>
valK (alookup tab h 144 x9 v.2.2.1 false) fun x10 =>
valK (nilA x10) fun x11 =>
valK (afieldAddr tab 143 x11 1) fun x12 =>
valK (loadA tab h 3 x12) fun x13 =>
next1_ (v.1, v.2.1, x13, ()) ms h)) (
hpK (unmark h ms) fun h14 =>
some ((.int .i64 0), h14))
/-- (*whisk/inode.Table).Move$1 (, , ) -/
noncomputable def F126 (E : Env) (n : Nat) (a0 a1 a2 : AV) (h : AHeap) : Option (AV × AHeap) :=
valK (loadA tab h 3 a0) fun x0 =>
loopN (F126_b2 E n) n (a1, a2, x0, ()) [] h
theorem F126_eq (E : Env) (n : Nat) (a0 a1 a2 : AV) (h : AHeap) : fnK E tab a126 126 n [a0, a1, a2] h = F126 E n a0 a1 a2 h := by kernel_rfl

/-- (*whisk/inode.Table).Chmod$1 () -/
noncomputable def F127 (E : Env) (n : Nat) (a0 : AV) (h : AHeap) : Option (AV × AHeap) :=
valK (loadA tab h 3 a0) fun x0 =>
valK (abin tab .geq 3 x0 (.int .i64 0)) fun x1 =>
boolK x1 (
valK (loadA tab h 3 a0) fun x2 =>
valK (abin tab .leq 3 x2 (.int .i64 511)) fun x3 =>
bothK (E (.fn 99) [x3, (.int .i64 2)] h) fun x4 h5 =>
some (x4, h5)) (
bothK (E (.fn 99) [(.bool false), (.int .i64 2)] h) fun x6 h7 =>
some (x6, h7))
theorem F127_eq (E : Env) (n : Nat) (a0 : AV) (h : AHeap) : fnK E tab a127 127 n [a0] h = F127 E n a0 h := by kernel_rfl

/-- (*whisk/inode.Table).Chmod$2 (, ) -/
noncomputable def F128 (E : Env) (n : Nat) (a0 a1 : AV) (h : AHeap) : Option (AV × AHeap) :=
valK (loadA tab h 72 a0) fun x0 =>
valK (loadA tab h 3 a1) fun x1 =>
bothK (E (.fn 107) [x0, x1] h) fun x2 h3 =>
valK (abin tab .neq 140 x2 (.nilptr)) fun x4 =>
bothK (E (.fn 99) [x4, (.int .i64 5)] h3) fun x5 h6 =>
some (x5, h6)
theorem F128_eq (E : Env) (n : Nat) (a0 a1 : AV) (h : AHeap) : fnK E tab a128 128 n [a0, a1] h = F128 E n a0 a1 h := by kernel_rfl

/-- v: 2 inodes, 3 bytes, 12, 13, 14 -/
noncomputable def F129_b3 (E : Env) (n : Nat) (v : AV × AV × AV × AV × AV × Unit) (ms : List Nat) (h : AHeap) (next8_ : AV × AV × AV × AV × AV × Unit → List Nat → AHeap → Option (AV × AHeap)) : Option (AV × AHeap) :=
valK (abin tab .lss 3 v.2.2.2.2.1 v.2.2.2.1) fun x9 =>
boolK x9 (
valK (aindexAddr tab 30 v.2.2.1 v.2.2.2.2.1) fun x10 =>
valK (loadA tab h 32 x10) fun x11 =>
bothK (newCells h [.str [], .int .i64 0, .bool false, .str [], .nilslice] fun o => .ptr o 0) fun x12 h13 =>
hpK (storeA tab h13 32 x12 x11) fun h14 =>
valK (loadA tab h14 32 x12) fun x15 =>
bothK (E (.fn 55) [x15] h14) fun x16 h17 =>
boolK x16 (
valK (abin tab .add 3 v.2.2.2.2.1 (.int .i64 1)) fun x18 =>
next8_ (v.1, v.2.1, v.2.2.1, v.2.2.2.1, x18, ()) ms h17) (
valK (loadA tab h17 32 x12) fun x19 =>
bothK (E (.fn 129) [x19] h17) fun x20 h21 =>
valK (extractA x20 0) fun x22 =>
valK (extractA x20 1) fun x23 =>
valK (abin tab .add 3 v.1 x22) fun x24 =>
valK (abin tab .add 3 v.2.1 x23) fun x25 =>
valK (abin tab .add 3 v.2.2.2.2.1 (.int .i64 1)) fun x26 =>
next8_ (x24, x25, v.2.2.1, v.2.2.2.1, x26, ()) ms h21)) (
hpK (unmark h ms) fun h27 =>
some (.tuple [v.1, v.2.1], h27))
/-- whisk/tree.size (n) -/
noncomputable def F129 (E : Env) (n : Nat) (a0 : AV) (h : AHeap) : Option (AV × AHeap) :=
bothK (boxA h a0) fun x0 h1 =>
valK (afieldAddr tab 32 x0 3) fun x2 =>
valK (loadA tab h1 9 x2) fun x3 =>
valK (alen tab h1 9 x3) fun x4 =>
valK (afieldAddr tab 32 x0 4) fun x5 =>
valK (loadA tab h1 30 x5) fun x6 =>
valK (alen tab h1 30 x6) fun x7 =>
loopN (F129_b3 E n) n ((.int .i64 1), x4, x6, x7, (.int .i64 0), ()) [] h1
theorem F129_eq (E : Env) (n : Nat) (a0 : AV) (h : AHeap) : fnK E tab a129 129 n [a0] h = F129 E n a0 h := by kernel_rfl


end Go.Am
