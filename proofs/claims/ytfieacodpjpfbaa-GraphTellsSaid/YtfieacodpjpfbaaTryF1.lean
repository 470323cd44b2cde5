/-
  The seat's functions, in plain text: printed by wip/tools/Pretty.lean.
-/
import Derived.Test.YtfieacodpjpfbaaK1
import Derived.Test.YtfieacodpjpfbaaTryD1
set_option maxRecDepth 100000
set_option linter.unusedVariables false
set_option linter.unusedSimpArgs false
namespace Go.Am
open Go

/-- v: 5 p, 6 r, 8 live, 9 dead, 10 rest, 11 i, 12 x, 15 k -/
noncomputable def F3_b24 (E : Env) (n : Nat) (next25_ : AV × AV × AV × AV × AV × AV × Unit → List Nat → AHeap → Option (AV × AHeap)) (v : AV × AV × AV × AV × AV × AV × AV × AV × Unit) (ms : List Nat) (h : AHeap) (next52_ : AV × AV × AV × AV × AV × AV × AV × AV × Unit → List Nat → AHeap → Option (AV × AHeap)) : Option (AV × AHeap) :=
jn (fun (v54 : AV × AV × AV × AV × AV × AV × AV × AV × Unit) ms55 h56 =>
valK (aindexAddr tab 24 v54.1 v54.2.2.2.2.2.1) fun x57 =>
valK (afieldAddr tab 28 x57 1) fun x58 =>
valK (loadA tab h56 26 x58) fun x59 =>
valK (aindexAddr tab 26 x59 v54.2.2.2.2.2.2.2.1) fun x60 =>
valK (loadA tab h56 9 x60) fun x61 =>
bothK (E (.fn 13) [v54.2.2.1, x61] h56) fun x62 h63 =>
valK (aun .not x62) fun x64 =>
boolK x64 (
hpK (unmark h63 ms55) fun h65 =>
some ((.bool false), h65)) (
valK (abin tab .add 3 v54.2.2.2.2.2.2.2.1 (.int .i64 1)) fun x66 =>
next52_ (v54.1, v54.2.1, v54.2.2.1, v54.2.2.2.1, v54.2.2.2.2.1, v54.2.2.2.2.2.1, v54.2.2.2.2.2.2.1, x66, ()) ms55 h63)) fun j53_ =>
boolK v.2.2.2.2.2.2.1 (
valK (aindexAddr tab 24 v.1 v.2.2.2.2.2.1) fun x67 =>
valK (afieldAddr tab 28 x67 1) fun x68 =>
valK (loadA tab h 26 x68) fun x69 =>
valK (alen tab h 26 x69) fun x70 =>
valK (abin tab .lss 3 v.2.2.2.2.2.2.2.1 x70) fun x71 =>
boolK x71 (
j53_ (v.1, v.2.1, v.2.2.1, v.2.2.2.1, v.2.2.2.2.1, v.2.2.2.2.2.1, v.2.2.2.2.2.2.1, v.2.2.2.2.2.2.2.1, ()) ms h) (
boolK v.2.2.2.2.2.2.1 (
valK (aindexAddr tab 24 v.1 v.2.2.2.2.2.1) fun x72 =>
valK (loadA tab h 28 x72) fun x73 =>
bothK (abuildSlice tab h 24 1 [(0, x73)]) fun x74 h75 =>
bothK (aappend tab h75 24 24 v.2.2.2.2.1 x74) fun x76 h77 =>
valK (abin tab .add 3 v.2.2.2.2.2.1 (.int .i64 1)) fun x78 =>
next25_ (v.1, v.2.1, v.2.2.1, v.2.2.2.1, x76, x78, ()) ms h77) (
valK (abin tab .add 3 v.2.2.2.2.2.1 (.int .i64 1)) fun x79 =>
next25_ (v.1, v.2.1, v.2.2.1, v.2.2.2.1, v.2.2.2.2.1, x79, ()) ms h))) (
boolK v.2.2.2.2.2.2.1 (
valK (aindexAddr tab 24 v.1 v.2.2.2.2.2.1) fun x80 =>
valK (loadA tab h 28 x80) fun x81 =>
bothK (abuildSlice tab h 24 1 [(0, x81)]) fun x82 h83 =>
bothK (aappend tab h83 24 24 v.2.2.2.2.1 x82) fun x84 h85 =>
valK (abin tab .add 3 v.2.2.2.2.2.1 (.int .i64 1)) fun x86 =>
next25_ (v.1, v.2.1, v.2.2.1, v.2.2.2.1, x84, x86, ()) ms h85) (
valK (abin tab .add 3 v.2.2.2.2.2.1 (.int .i64 1)) fun x87 =>
next25_ (v.1, v.2.1, v.2.2.1, v.2.2.2.1, v.2.2.2.2.1, x87, ()) ms h))
/-- v: 5 p, 6 r, 8 live, 9 dead, 10 rest, 11 i, 12 x, 13 reached, 14 k -/
noncomputable def F3_b18 (E : Env) (n : Nat) (next25_ : AV × AV × AV × AV × AV × AV × Unit → List Nat → AHeap → Option (AV × AHeap)) (v : AV × AV × AV × AV × AV × AV × AV × AV × AV × Unit) (ms : List Nat) (h : AHeap) (next33_ : AV × AV × AV × AV × AV × AV × AV × AV × AV × Unit → List Nat → AHeap → Option (AV × AHeap)) : Option (AV × AHeap) :=
valK (alen tab h 26 v.2.1) fun x34 =>
valK (abin tab .lss 3 v.2.2.2.2.2.2.2.2.1 x34) fun x35 =>
boolK x35 (
boolK v.2.2.2.2.2.2.2.1 (
valK (abin tab .add 3 v.2.2.2.2.2.2.2.2.1 (.int .i64 1)) fun x36 =>
next33_ (v.1, v.2.1, v.2.2.1, v.2.2.2.1, v.2.2.2.2.1, v.2.2.2.2.2.1, v.2.2.2.2.2.2.1, (.bool true), x36, ()) ms h) (
valK (abin tab .add 3 v.2.2.2.2.2.2.2.2.1 (.int .i64 1)) fun x37 =>
valK (aslice tab 26 v.2.1 (some v.2.2.2.2.2.2.2.2.1) (some x37)) fun x38 =>
valK (aindexAddr tab 24 v.1 v.2.2.2.2.2.1) fun x39 =>
valK (afieldAddr tab 28 x39 0) fun x40 =>
valK (loadA tab h 9 x40) fun x41 =>
bothK (E (.fn 9) [v.1, x38] h) fun x42 h43 =>
valK (loadA tab h43 9 x40) fun x44 =>
sameK x44 x41 (
bothK (E (.fn 13) [x42, x41] h43) fun x45 h46 =>
valK (abin tab .add 3 v.2.2.2.2.2.2.2.2.1 (.int .i64 1)) fun x47 =>
next33_ (v.1, v.2.1, v.2.2.1, v.2.2.2.1, v.2.2.2.2.1, v.2.2.2.2.2.1, v.2.2.2.2.2.2.1, x45, x47, ()) ms h46))) (
jn (fun (v49 : AV × AV × AV × AV × AV × AV × AV × Unit) ms50 h51 =>
loopN (F3_b24 E n next25_) n (v49.1, v49.2.1, v49.2.2.1, v49.2.2.2.1, v49.2.2.2.2.1, v49.2.2.2.2.2.1, v49.2.2.2.2.2.2.1, (.int .i64 0), ()) ms50 h51) fun j48_ =>
valK (aindexAddr tab 24 v.1 v.2.2.2.2.2.1) fun x88 =>
valK (afieldAddr tab 28 x88 0) fun x89 =>
valK (loadA tab h 9 x89) fun x90 =>
bothK (E (.fn 13) [v.2.2.2.1, x90] h) fun x91 h92 =>
valK (abin tab .eql 4 v.2.2.2.2.2.2.1 x91) fun x93 =>
boolK x93 (
hpK (unmark h92 ms) fun h94 =>
some ((.bool false), h94)) (
valK (abin tab .neq 4 v.2.2.2.2.2.2.1 v.2.2.2.2.2.2.2.1) fun x95 =>
boolK x95 (
hpK (unmark h92 ms) fun h96 =>
some ((.bool false), h96)) (
valK (aindexAddr tab 24 v.1 v.2.2.2.2.2.1) fun x97 =>
valK (afieldAddr tab 28 x97 0) fun x98 =>
valK (loadA tab h92 9 x98) fun x99 =>
bothK (E (.fn 13) [v.2.1, x99] h92) fun x100 h101 =>
skipK x100 (
boolK (.tuple []) (
boolK (.tuple []) (
hpK (unmark h101 ms) fun h102 =>
some ((.bool false), h102)) (
j48_ (v.1, v.2.1, v.2.2.1, v.2.2.2.1, v.2.2.2.2.1, v.2.2.2.2.2.1, v.2.2.2.2.2.2.1, ()) ms h101)) (
j48_ (v.1, v.2.1, v.2.2.1, v.2.2.2.1, v.2.2.2.2.1, v.2.2.2.2.2.1, v.2.2.2.2.2.2.1, ()) ms h101)) (
boolK x100 (
valK (aun .not v.2.2.2.2.2.2.1) fun x103 =>
boolK x103 (
hpK (unmark h101 ms) fun h104 =>
some ((.bool false), h104)) (
j48_ (v.1, v.2.1, v.2.2.1, v.2.2.2.1, v.2.2.2.2.1, v.2.2.2.2.2.1, v.2.2.2.2.2.2.1, ()) ms h101)) (
j48_ (v.1, v.2.1, v.2.2.1, v.2.2.2.1, v.2.2.2.2.1, v.2.2.2.2.2.1, v.2.2.2.2.2.2.1, ()) ms h101)))))
/-- v: 5 p, 6 r, 8 live, 9 dead, 10 rest, 11 i -/
noncomputable def F3_b13 (E : Env) (n : Nat) (v : AV × AV × AV × AV × AV × AV × Unit) (ms : List Nat) (h : AHeap) (next25_ : AV × AV × AV × AV × AV × AV × Unit → List Nat → AHeap → Option (AV × AHeap)) : Option (AV × AHeap) :=
valK (alen tab h 24 v.1) fun x26 =>
valK (abin tab .lss 3 v.2.2.2.2.2.1 x26) fun x27 =>
boolK x27 (
valK (aindexAddr tab 24 v.1 v.2.2.2.2.2.1) fun x28 =>
valK (afieldAddr tab 28 x28 0) fun x29 =>
valK (loadA tab h 9 x29) fun x30 =>
bothK (E (.fn 13) [v.2.2.1, x30] h) fun x31 h32 =>
loopN (F3_b18 E n next25_) n (v.1, v.2.1, v.2.2.1, v.2.2.2.1, v.2.2.2.2.1, v.2.2.2.2.2.1, x31, (.bool false), (.int .i64 0), ()) ms h32) (
bothK (E (.fn 12) [v.2.2.2.2.1] h) fun x105 h106 =>
boolK x105 (
bothK (E (.fn 10) [v.2.2.2.2.1, v.2.1] h106) fun x107 h108 =>
valK (alen tab h108 26 x107) fun x109 =>
valK (abin tab .eql 3 x109 (.int .i64 0)) fun x110 =>
boolK x110 (
bothK (E (.fn 14) [] h108) fun x111 h112 =>
hpK (unmark h112 ms) fun h113 =>
some (x111, h113)) (
hpK (unmark h108 ms) fun h114 =>
some ((.bool false), h114))) (
hpK (unmark h106 ms) fun h115 =>
some ((.bool false), h115)))
/-- v: 1 roots, 5 p, 6 r, 7 i -/
noncomputable def F3_b4 (E : Env) (n : Nat) (v : AV × AV × AV × AV × Unit) (ms : List Nat) (h : AHeap) (next2_ : AV × AV × AV × AV × Unit → List Nat → AHeap → Option (AV × AHeap)) : Option (AV × AHeap) :=
valK (alen tab h 24 v.2.1) fun x3 =>
valK (abin tab .lss 3 v.2.2.2.1 x3) fun x4 =>
boolK x4 (
valK (abin tab .shr 23 v.1 v.2.2.2.1) fun x5 =>
valK (abin tab .rem 23 x5 (.int .u16 2)) fun x6 =>
valK (abin tab .eql 23 x6 (.int .u16 1)) fun x7 =>
boolK x7 (
valK (aindexAddr tab 24 v.2.1 v.2.2.2.1) fun x8 =>
valK (afieldAddr tab 28 x8 0) fun x9 =>
valK (loadA tab h 9 x9) fun x10 =>
bothK (abuildSlice tab h 26 1 [(0, x10)]) fun x11 h12 =>
bothK (aappend tab h12 26 26 v.2.2.1 x11) fun x13 h14 =>
valK (abin tab .add 3 v.2.2.2.1 (.int .i64 1)) fun x15 =>
next2_ (v.1, v.2.1, x13, x15, ()) ms h14) (
valK (abin tab .add 3 v.2.2.2.1 (.int .i64 1)) fun x16 =>
next2_ (v.1, v.2.1, v.2.2.1, x16, ()) ms h)) (
bothK (E (.fn 9) [v.2.1, v.2.2.1] h) fun x17 h18 =>
bothK (E (.fn 10) [v.2.1, v.2.2.1] h18) fun x19 h20 =>
jn (fun (v22 : AV × AV × AV × AV × Unit) ms23 h24 =>
loopN (F3_b13 E n) n (v22.1, v22.2.1, v22.2.2.1, v22.2.2.2.1, (.nilslice), (.int .i64 0), ()) ms23 h24) fun j21_ =>
valK (alen tab h20 26 x17) fun x116 =>
valK (alen tab h20 26 x19) fun x117 =>
valK (abin tab .add 3 x116 x117) fun x118 =>
valK (alen tab h20 24 v.2.1) fun x119 =>
valK (abin tab .neq 3 x118 x119) fun x120 =>
boolK x120 (
hpK (unmark h20 ms) fun h121 =>
some ((.bool false), h121)) (
bothK (E (.fn 9) [v.2.1, x17] h20) fun x122 h123 =>
bothK (E (.fn 11) [x122] h123) fun x124 h125 =>
bothK (E (.fn 11) [x17] h125) fun x126 h127 =>
valK (abin tab .neq 9 x124 x126) fun x128 =>
boolK x128 (
hpK (unmark h127 ms) fun h129 =>
some ((.bool false), h129)) (
bothK (E (.fn 12) [v.2.1] h127) fun x130 h131 =>
valK (aun .not x130) fun x132 =>
boolK x132 (
hpK (unmark h131 ms) fun h133 =>
some ((.bool false), h133)) (
j21_ (v.2.1, v.2.2.1, x17, x19, ()) ms h131))))
/-- whisk/whisklaw25.GraphLive (l, roots) -/
noncomputable def F3 (E : Env) (n : Nat) (a0 a1 : AV) (h : AHeap) : Option (AV × AHeap) :=
bothK (E (.fn 8) [a0, (.bool false)] h) fun x0 h1 =>
loopN (F3_b4 E n) n (a1, x0, (.nilslice), (.int .i64 0), ()) [] h1
theorem F3_eq (E : Env) (n : Nat) (a0 a1 : AV) (h : AHeap) : fnK E tab a3 3 n [a0, a1] h = F3 E n a0 a1 h := by kernel_rfl

/-- v: 7 p, 8 x, 9 y, 11 one, 12 two, 13 both, 14 i -/
noncomputable def F4_b13 (E : Env) (n : Nat) (v : AV × AV × AV × AV × AV × AV × AV × Unit) (ms : List Nat) (h : AHeap) (next43_ : AV × AV × AV × AV × AV × AV × AV × Unit → List Nat → AHeap → Option (AV × AHeap)) : Option (AV × AHeap) :=
valK (alen tab h 24 v.1) fun x44 =>
valK (abin tab .lss 3 v.2.2.2.2.2.2.1 x44) fun x45 =>
boolK x45 (
valK (aindexAddr tab 24 v.1 v.2.2.2.2.2.2.1) fun x46 =>
valK (afieldAddr tab 28 x46 0) fun x47 =>
valK (loadA tab h 9 x47) fun x48 =>
valK (aindexAddr tab 24 v.1 v.2.2.2.2.2.2.1) fun x49 =>
valK (afieldAddr tab 28 x49 0) fun x50 =>
valK (loadA tab h 9 x50) fun x51 =>
bothK (E (.fn 13) [v.2.2.2.2.2.1, x48] h) fun x52 h53 =>
valK (loadA tab h53 9 x50) fun x54 =>
sameK x54 x51 (
bothK (E (.fn 13) [v.2.2.2.1, x51] h53) fun x55 h56 =>
boolK x55 (
valK (abin tab .neq 4 x52 (.bool true)) fun x57 =>
boolK x57 (
hpK (unmark h56 ms) fun h58 =>
some ((.bool false), h58)) (
valK (abin tab .add 3 v.2.2.2.2.2.2.1 (.int .i64 1)) fun x59 =>
next43_ (v.1, v.2.1, v.2.2.1, v.2.2.2.1, v.2.2.2.2.1, v.2.2.2.2.2.1, x59, ()) ms h56)) (
valK (aindexAddr tab 24 v.1 v.2.2.2.2.2.2.1) fun x60 =>
valK (afieldAddr tab 28 x60 0) fun x61 =>
valK (loadA tab h56 9 x61) fun x62 =>
bothK (E (.fn 13) [v.2.2.2.2.1, x62] h56) fun x63 h64 =>
valK (abin tab .neq 4 x52 x63) fun x65 =>
boolK x65 (
hpK (unmark h64 ms) fun h66 =>
some ((.bool false), h66)) (
valK (abin tab .add 3 v.2.2.2.2.2.2.1 (.int .i64 1)) fun x67 =>
next43_ (v.1, v.2.1, v.2.2.1, v.2.2.2.1, v.2.2.2.2.1, v.2.2.2.2.2.1, x67, ()) ms h64)))) (
bothK (abuildSlice tab h 24 0 []) fun x68 h69 =>
bothK (aappend tab h69 24 24 x68 v.1) fun x70 h71 =>
valK (abuild tab 28 [(0, (.str [122, 122])), (1, v.2.1)]) fun x72 =>
bothK (abuildSlice tab h71 24 1 [(0, x72)]) fun x73 h74 =>
bothK (aappend tab h74 24 24 x70 x73) fun x75 h76 =>
jn (fun (v78 : AV × AV × Unit) ms79 h80 =>
bothK (abuildSlice tab h80 26 1 [(0, (.str [122, 122]))]) fun x81 h82 =>
bothK (E (.fn 9) [v78.2.1, x81] h82) fun x83 h84 =>
bothK (E (.fn 11) [x83] h84) fun x85 h86 =>
bothK (E (.fn 11) [v78.1] h86) fun x87 h88 =>
valK (abin tab .add 9 x87 (.str [122, 122, 32])) fun x89 =>
valK (abin tab .eql 9 x85 x89) fun x90 =>
boolK x90 (
bothK (E (.fn 14) [] h88) fun x91 h92 =>
hpK (unmark h92 ms79) fun h93 =>
some (x91, h93)) (
hpK (unmark h88 ms79) fun h94 =>
some ((.bool false), h94))) fun j77_ =>
bothK (E (.fn 9) [x75, v.2.2.1] h76) fun x95 h96 =>
bothK (E (.fn 11) [x95] h96) fun x97 h98 =>
bothK (E (.fn 11) [v.2.2.2.2.1] h98) fun x99 h100 =>
valK (abin tab .neq 9 x97 x99) fun x101 =>
boolK x101 (
hpK (unmark h100 ms) fun h102 =>
some ((.bool false), h102)) (
bothK (E (.fn 10) [x75, v.2.2.1] h100) fun x103 h104 =>
valK (alen tab h104 26 x103) fun x105 =>
bothK (E (.fn 10) [v.1, v.2.2.1] h104) fun x106 h107 =>
valK (alen tab h107 26 x106) fun x108 =>
valK (abin tab .add 3 x108 (.int .i64 1)) fun x109 =>
valK (abin tab .neq 3 x105 x109) fun x110 =>
boolK x110 (
hpK (unmark h107 ms) fun h111 =>
some ((.bool false), h111)) (
j77_ (v.2.2.2.1, x75, ()) ms h107)))
/-- v: 1 a, 2 b, 7 p, 8 x, 9 y, 10 i -/
noncomputable def F4_b4 (E : Env) (n : Nat) (v : AV × AV × AV × AV × AV × AV × Unit) (ms : List Nat) (h : AHeap) (next2_ : AV × AV × AV × AV × AV × AV × Unit → List Nat → AHeap → Option (AV × AHeap)) : Option (AV × AHeap) :=
valK (alen tab h 24 v.2.2.1) fun x3 =>
valK (abin tab .lss 3 v.2.2.2.2.2.1 x3) fun x4 =>
boolK x4 (
jn (fun (v6 : AV × AV × AV × AV × AV × AV × Unit) ms7 h8 =>
valK (abin tab .shr 23 v6.2.1 v6.2.2.2.2.2.1) fun x9 =>
valK (abin tab .rem 23 x9 (.int .u16 2)) fun x10 =>
valK (abin tab .eql 23 x10 (.int .u16 1)) fun x11 =>
boolK x11 (
valK (aindexAddr tab 24 v6.2.2.1 v6.2.2.2.2.2.1) fun x12 =>
valK (afieldAddr tab 28 x12 0) fun x13 =>
valK (loadA tab h8 9 x13) fun x14 =>
bothK (abuildSlice tab h8 26 1 [(0, x14)]) fun x15 h16 =>
bothK (aappend tab h16 26 26 v6.2.2.2.2.1 x15) fun x17 h18 =>
valK (abin tab .add 3 v6.2.2.2.2.2.1 (.int .i64 1)) fun x19 =>
next2_ (v6.1, v6.2.1, v6.2.2.1, v6.2.2.2.1, x17, x19, ()) ms7 h18) (
valK (abin tab .add 3 v6.2.2.2.2.2.1 (.int .i64 1)) fun x20 =>
next2_ (v6.1, v6.2.1, v6.2.2.1, v6.2.2.2.1, v6.2.2.2.2.1, x20, ()) ms7 h8)) fun j5_ =>
valK (abin tab .shr 23 v.1 v.2.2.2.2.2.1) fun x21 =>
valK (abin tab .rem 23 x21 (.int .u16 2)) fun x22 =>
valK (abin tab .eql 23 x22 (.int .u16 1)) fun x23 =>
boolK x23 (
valK (aindexAddr tab 24 v.2.2.1 v.2.2.2.2.2.1) fun x24 =>
valK (afieldAddr tab 28 x24 0) fun x25 =>
valK (loadA tab h 9 x25) fun x26 =>
bothK (abuildSlice tab h 26 1 [(0, x26)]) fun x27 h28 =>
bothK (aappend tab h28 26 26 v.2.2.2.1 x27) fun x29 h30 =>
j5_ (v.1, v.2.1, v.2.2.1, x29, v.2.2.2.2.1, v.2.2.2.2.2.1, ()) ms h30) (
j5_ (v.1, v.2.1, v.2.2.1, v.2.2.2.1, v.2.2.2.2.1, v.2.2.2.2.2.1, ()) ms h)) (
bothK (E (.fn 9) [v.2.2.1, v.2.2.2.1] h) fun x31 h32 =>
bothK (E (.fn 9) [v.2.2.1, v.2.2.2.2.1] h32) fun x33 h34 =>
bothK (abuildSlice tab h34 26 0 []) fun x35 h36 =>
bothK (aappend tab h36 26 26 x35 v.2.2.2.1) fun x37 h38 =>
bothK (aappend tab h38 26 26 x37 v.2.2.2.2.1) fun x39 h40 =>
bothK (E (.fn 9) [v.2.2.1, x39] h40) fun x41 h42 =>
loopN (F4_b13 E n) n (v.2.2.1, v.2.2.2.1, v.2.2.2.2.1, x31, x33, x41, (.int .i64 0), ()) ms h42)
/-- whisk/whisklaw25.GraphMore (l, a, b) -/
noncomputable def F4 (E : Env) (n : Nat) (a0 a1 a2 : AV) (h : AHeap) : Option (AV × AHeap) :=
bothK (E (.fn 8) [a0, (.bool false)] h) fun x0 h1 =>
loopN (F4_b4 E n) n (a1, a2, x0, (.nilslice), (.nilslice), (.int .i64 0), ()) [] h1
theorem F4_eq (E : Env) (n : Nat) (a0 a1 a2 : AV) (h : AHeap) : fnK E tab a4 4 n [a0, a1, a2] h = F4 E n a0 a1 a2 h := by kernel_rfl

/-- v: 0 l, 5 i -/
noncomputable def F5_b6 (E : Env) (n : Nat) (v : AV × AV × Unit) (ms : List Nat) (h : AHeap) (next8_ : AV × AV × Unit → List Nat → AHeap → Option (AV × AHeap)) : Option (AV × AHeap) :=
valK (alen tab h 24 v.1) fun x9 =>
valK (abin tab .lss 3 v.2.1 x9) fun x10 =>
boolK x10 (
valK (aindexAddr tab 24 v.1 v.2.1) fun x11 =>
valK (afieldAddr tab 28 x11 0) fun x12 =>
valK (loadA tab h 9 x12) fun x13 =>
valK (aindexAddr tab 24 v.1 v.2.1) fun x14 =>
valK (afieldAddr tab 28 x14 0) fun x15 =>
valK (loadA tab h 9 x15) fun x16 =>
bothK (E (.fn 23) [v.1, x13] h) fun x17 h18 =>
valK (loadA tab h18 9 x15) fun x19 =>
sameK x19 x16 (
bothK (E (.fn 24) [v.1, x16] h18) fun x20 h21 =>
bothK (E (.fn 17) [x17, x20] h21) fun x22 h23 =>
valK (aun .not x22) fun x24 =>
boolK x24 (
hpK (unmark h23 ms) fun h25 =>
some ((.bool false), h25)) (
valK (abin tab .add 3 v.2.1 (.int .i64 1)) fun x26 =>
next8_ (v.1, x26, ()) ms h23))) (
bothK (E (.fn 23) [v.1, (.str [110, 111, 110, 101])] h) fun x27 h28 =>
bothK (E (.fn 24) [v.1, (.str [110, 111, 110, 101])] h28) fun x29 h30 =>
bothK (E (.fn 17) [x27, x29] h30) fun x31 h32 =>
boolK x31 (
bothK (E (.fn 14) [] h32) fun x33 h34 =>
hpK (unmark h34 ms) fun h35 =>
some (x33, h35)) (
hpK (unmark h32 ms) fun h36 =>
some ((.bool false), h36)))
/-- whisk/whisklaw25.GraphTells (l, from) -/
noncomputable def F5 (E : Env) (n : Nat) (a0 a1 : AV) (h : AHeap) : Option (AV × AHeap) :=
bothK (E (.fn 15) [a0] h) fun x0 h1 =>
bothK (E (.fn 16) [a1] h1) fun x2 h3 =>
jn (fun (v5 : AV × Unit) ms6 h7 =>
loopN (F5_b6 E n) n (v5.1, (.int .i64 0), ()) ms6 h7) fun j4_ =>
bothK (E (.fn 9) [x0, x2] h3) fun x37 h38 =>
bothK (E (.fn 18) [x0, x2] h38) fun x39 h40 =>
bothK (E (.fn 17) [x37, x39] h40) fun x41 h42 =>
valK (aun .not x41) fun x43 =>
boolK x43 (
some ((.bool false), h42)) (
bothK (E (.fn 10) [x0, x2] h42) fun x44 h45 =>
bothK (E (.fn 19) [x0, x2] h45) fun x46 h47 =>
bothK (E (.fn 17) [x44, x46] h47) fun x48 h49 =>
valK (aun .not x48) fun x50 =>
boolK x50 (
some ((.bool false), h49)) (
bothK (E (.fn 12) [x0] h49) fun x51 h52 =>
bothK (E (.fn 20) [x0] h52) fun x53 h54 =>
valK (abin tab .neq 4 x51 x53) fun x55 =>
boolK x55 (
some ((.bool false), h54)) (
bothK (E (.fn 21) [x0] h54) fun x56 h57 =>
bothK (E (.fn 22) [x0] h57) fun x58 h59 =>
bothK (E (.fn 17) [x56, x58] h59) fun x60 h61 =>
valK (aun .not x60) fun x62 =>
boolK x62 (
some ((.bool false), h61)) (
j4_ (x0, ()) [] h61))))
theorem F5_eq (E : Env) (n : Nat) (a0 a1 : AV) (h : AHeap) : fnK E tab a5 5 n [a0, a1] h = F5 E n a0 a1 h := by kernel_rfl

/-- v: 3 p, 6 order, 7 come, 8 i, 9 k, 10 j -/
noncomputable def F6_b18 (E : Env) (n : Nat) (next19_ : AV × AV × AV × AV × Unit → List Nat → AHeap → Option (AV × AHeap)) (v : AV × AV × AV × AV × AV × AV × Unit) (ms : List Nat) (h : AHeap) (next32_ : AV × AV × AV × AV × AV × AV × Unit → List Nat → AHeap → Option (AV × AHeap)) : Option (AV × AHeap) :=
valK (aindexAddr tab 24 v.1 v.2.2.2.2.1) fun x33 =>
valK (afieldAddr tab 28 x33 1) fun x34 =>
valK (loadA tab h 26 x34) fun x35 =>
valK (alen tab h 26 x35) fun x36 =>
valK (abin tab .lss 3 v.2.2.2.2.2.1 x36) fun x37 =>
boolK x37 (
valK (aindexAddr tab 24 v.1 v.2.2.2.2.1) fun x38 =>
valK (afieldAddr tab 28 x38 1) fun x39 =>
valK (loadA tab h 26 x39) fun x40 =>
valK (aindexAddr tab 26 x40 v.2.2.2.2.2.1) fun x41 =>
valK (loadA tab h 9 x41) fun x42 =>
valK (aindexAddr tab 26 v.2.1 v.2.2.2.1) fun x43 =>
valK (loadA tab h 9 x43) fun x44 =>
valK (abin tab .eql 9 x42 x44) fun x45 =>
boolK x45 (
valK (abin tab .add 3 v.2.2.2.2.2.1 (.int .i64 1)) fun x46 =>
next32_ (v.1, v.2.1, v.2.2.1, v.2.2.2.1, v.2.2.2.2.1, x46, ()) ms h) (
bothK (E (.fn 13) [v.2.2.1, x42] h) fun x47 h48 =>
valK (aun .not x47) fun x49 =>
boolK x49 (
hpK (unmark h48 ms) fun h50 =>
some ((.bool false), h50)) (
valK (aindexAddr tab 26 v.2.1 v.2.2.2.1) fun x51 =>
valK (loadA tab h48 9 x51) fun x52 =>
bothK (E (.fn 23) [v.1, x42] h48) fun x53 h54 =>
valK (loadA tab h54 9 x51) fun x55 =>
sameK x55 x52 (
bothK (E (.fn 13) [x53, x52] h54) fun x56 h57 =>
valK (aun .not x56) fun x58 =>
boolK x58 (
hpK (unmark h57 ms) fun h59 =>
some ((.bool false), h59)) (
valK (abin tab .add 3 v.2.2.2.2.2.1 (.int .i64 1)) fun x60 =>
next32_ (v.1, v.2.1, v.2.2.1, v.2.2.2.1, v.2.2.2.2.1, x60, ()) ms h57))))) (
valK (aindexAddr tab 26 v.2.1 v.2.2.2.1) fun x61 =>
valK (loadA tab h 9 x61) fun x62 =>
bothK (abuildSlice tab h 26 1 [(0, x62)]) fun x63 h64 =>
bothK (aappend tab h64 26 26 v.2.2.1 x63) fun x65 h66 =>
valK (abin tab .add 3 v.2.2.2.1 (.int .i64 1)) fun x67 =>
next19_ (v.1, v.2.1, x65, x67, ()) ms h66)
/-- v: 3 p, 12 n, 13 m, 14 i, 15 j -/
noncomputable def F6_b31 (E : Env) (n : Nat) (next83_ : AV × AV × AV × AV × Unit → List Nat → AHeap → Option (AV × AHeap)) (v : AV × AV × AV × AV × AV × Unit) (ms : List Nat) (h : AHeap) (next93_ : AV × AV × AV × AV × AV × Unit → List Nat → AHeap → Option (AV × AHeap)) : Option (AV × AHeap) :=
valK (aindexAddr tab 24 v.1 v.2.2.2.1) fun x94 =>
valK (afieldAddr tab 28 x94 1) fun x95 =>
valK (loadA tab h 26 x95) fun x96 =>
valK (alen tab h 26 x96) fun x97 =>
valK (abin tab .lss 3 v.2.2.2.2.1 x97) fun x98 =>
boolK x98 (
valK (aindexAddr tab 24 v.1 v.2.2.2.1) fun x99 =>
valK (afieldAddr tab 28 x99 1) fun x100 =>
valK (loadA tab h 26 x100) fun x101 =>
valK (aindexAddr tab 26 x101 v.2.2.2.2.1) fun x102 =>
valK (loadA tab h 9 x102) fun x103 =>
valK (aindexAddr tab 24 v.1 v.2.2.2.1) fun x104 =>
valK (afieldAddr tab 28 x104 0) fun x105 =>
valK (loadA tab h 9 x105) fun x106 =>
valK (abin tab .neq 9 x103 x106) fun x107 =>
boolK x107 (
valK (abin tab .add 3 v.2.2.1 (.int .i64 1)) fun x108 =>
valK (abin tab .add 3 v.2.2.2.2.1 (.int .i64 1)) fun x109 =>
next93_ (v.1, v.2.1, x108, v.2.2.2.1, x109, ()) ms h) (
valK (abin tab .add 3 v.2.2.2.2.1 (.int .i64 1)) fun x110 =>
next93_ (v.1, v.2.1, v.2.2.1, v.2.2.2.1, x110, ()) ms h)) (
valK (abin tab .add 3 v.2.2.2.1 (.int .i64 1)) fun x111 =>
next83_ (v.1, v.2.1, v.2.2.1, x111, ()) ms h)
/-- v: 3 p, 12 n, 13 m, 14 i -/
noncomputable def F6_b27 (E : Env) (n : Nat) (v : AV × AV × AV × AV × Unit) (ms : List Nat) (h : AHeap) (next83_ : AV × AV × AV × AV × Unit → List Nat → AHeap → Option (AV × AHeap)) : Option (AV × AHeap) :=
valK (alen tab h 24 v.1) fun x84 =>
valK (abin tab .lss 3 v.2.2.2.1 x84) fun x85 =>
boolK x85 (
valK (aindexAddr tab 24 v.1 v.2.2.2.1) fun x86 =>
valK (afieldAddr tab 28 x86 0) fun x87 =>
valK (loadA tab h 9 x87) fun x88 =>
bothK (E (.fn 23) [v.1, x88] h) fun x89 h90 =>
valK (alen tab h90 26 x89) fun x91 =>
valK (abin tab .add 3 v.2.1 x91) fun x92 =>
loopN (F6_b31 E n next83_) n (v.1, x92, v.2.2.1, v.2.2.2.1, (.int .i64 0), ()) ms h90) (
valK (abin tab .eql 3 v.2.1 v.2.2.1) fun x112 =>
boolK x112 (
bothK (E (.fn 14) [] h) fun x113 h114 =>
hpK (unmark h114 ms) fun h115 =>
some (x113, h115)) (
hpK (unmark h ms) fun h116 =>
some ((.bool false), h116)))
/-- v: 3 p, 6 order, 7 come, 8 i -/
noncomputable def F6_b12 (E : Env) (n : Nat) (v : AV × AV × AV × AV × Unit) (ms : List Nat) (h : AHeap) (next19_ : AV × AV × AV × AV × Unit → List Nat → AHeap → Option (AV × AHeap)) : Option (AV × AHeap) :=
valK (alen tab h 26 v.2.1) fun x20 =>
valK (abin tab .lss 3 v.2.2.2.1 x20) fun x21 =>
boolK x21 (
valK (aindexAddr tab 26 v.2.1 v.2.2.2.1) fun x22 =>
valK (loadA tab h 9 x22) fun x23 =>
valK (aindex tab 9 x23 (.int .i64 0)) fun x24 =>
bothK (aconvert tab h 5 3 x24) fun x25 h26 =>
valK (abin tab .sub 3 x25 (.int .i64 97)) fun x27 =>
jn (fun (v29 : AV × AV × AV × AV × AV × Unit) ms30 h31 =>
loopN (F6_b18 E n next19_) n (v29.1, v29.2.1, v29.2.2.1, v29.2.2.2.1, v29.2.2.2.2.1, (.int .i64 0), ()) ms30 h31) fun j28_ =>
valK (aindexAddr tab 26 v.2.1 v.2.2.2.1) fun x68 =>
valK (loadA tab h26 9 x68) fun x69 =>
valK (alen tab h26 9 x69) fun x70 =>
valK (abin tab .neq 3 x70 (.int .i64 1)) fun x71 =>
boolK x71 (
hpK (unmark h26 ms) fun h72 =>
some ((.bool false), h72)) (
valK (abin tab .lss 3 x27 (.int .i64 0)) fun x73 =>
boolK x73 (
hpK (unmark h26 ms) fun h74 =>
some ((.bool false), h74)) (
valK (alen tab h26 24 v.1) fun x75 =>
valK (abin tab .geq 3 x27 x75) fun x76 =>
boolK x76 (
hpK (unmark h26 ms) fun h77 =>
some ((.bool false), h77)) (
valK (aindexAddr tab 26 v.2.1 v.2.2.2.1) fun x78 =>
valK (loadA tab h26 9 x78) fun x79 =>
bothK (E (.fn 13) [v.2.2.1, x79] h26) fun x80 h81 =>
boolK x80 (
hpK (unmark h81 ms) fun h82 =>
some ((.bool false), h82)) (
j28_ (v.1, v.2.1, v.2.2.1, v.2.2.2.1, x27, ()) ms h81))))) (
loopN (F6_b27 E n) n (v.1, (.int .i64 0), (.int .i64 0), (.int .i64 0), ()) ms h)
/-- v: 3 p, 4 back, 5 i -/
noncomputable def F6_b4 (E : Env) (n : Nat) (v : AV × AV × AV × Unit) (ms : List Nat) (h : AHeap) (next4_ : AV × AV × AV × Unit → List Nat → AHeap → Option (AV × AHeap)) : Option (AV × AHeap) :=
valK (abin tab .geq 3 v.2.2.1 (.int .i64 0)) fun x5 =>
boolK x5 (
valK (aindexAddr tab 24 v.1 v.2.2.1) fun x6 =>
valK (loadA tab h 28 x6) fun x7 =>
bothK (abuildSlice tab h 24 1 [(0, x7)]) fun x8 h9 =>
bothK (aappend tab h9 24 24 v.2.1 x8) fun x10 h11 =>
valK (abin tab .sub 3 v.2.2.1 (.int .i64 1)) fun x12 =>
next4_ (v.1, x10, x12, ()) ms h11) (
bothK (E (.fn 21) [v.2.1] h) fun x13 h14 =>
valK (alen tab h14 26 x13) fun x15 =>
valK (alen tab h14 24 v.1) fun x16 =>
valK (abin tab .neq 3 x15 x16) fun x17 =>
boolK x17 (
hpK (unmark h14 ms) fun h18 =>
some ((.bool false), h18)) (
loopN (F6_b12 E n) n (v.1, x13, (.nilslice), (.int .i64 0), ()) ms h14))
/-- whisk/whisklaw25.GraphOrder (l) -/
noncomputable def F6 (E : Env) (n : Nat) (a0 : AV) (h : AHeap) : Option (AV × AHeap) :=
bothK (E (.fn 8) [a0, (.bool true)] h) fun x0 h1 =>
valK (alen tab h1 24 x0) fun x2 =>
valK (abin tab .sub 3 x2 (.int .i64 1)) fun x3 =>
loopN (F6_b4 E n) n (x0, (.nilslice), x3, ()) [] h1
theorem F6_eq (E : Env) (n : Nat) (a0 : AV) (h : AHeap) : fnK E tab a6 6 n [a0] h = F6 E n a0 h := by kernel_rfl

/-- whisk/whisklaw25.GraphKnown () -/
noncomputable def F7 (E : Env) (n : Nat) (h : AHeap) : Option (AV × AHeap) :=
bothK (E (.fn 25) [] h) fun x0 h1 =>
bothK (E (.fn 25) [] h1) fun x2 h3 =>
bothK (abuildSlice tab h3 26 1 [(0, (.str [120]))]) fun x4 h5 =>
valK (abuild tab 28 [(0, (.str [99])), (1, x4)]) fun x6 =>
bothK (abuildSlice tab h5 24 1 [(0, x6)]) fun x7 h8 =>
bothK (aappend tab h8 24 24 x2 x7) fun x9 h10 =>
bothK (abuildSlice tab h10 26 1 [(0, (.str [101]))]) fun x11 h12 =>
valK (abuild tab 28 [(0, (.str [102])), (1, x11)]) fun x13 =>
bothK (abuildSlice tab h12 26 1 [(0, (.str [102]))]) fun x14 h15 =>
valK (abuild tab 28 [(0, (.str [101])), (1, x14)]) fun x16 =>
bothK (abuildSlice tab h15 24 2 [(0, x13), (1, x16)]) fun x17 h18 =>
bothK (abuildSlice tab h18 26 1 [(0, (.str [120]))]) fun x19 h20 =>
bothK (E (.fn 9) [x0, x19] h20) fun x21 h22 =>
bothK (E (.fn 11) [x21] h22) fun x23 h24 =>
valK (abin tab .eql 9 x23 (.str [])) fun x25 =>
boolK x25 (
bothK (abuildSlice tab h24 26 3 [(0, (.str [100])), (1, (.str [100])), (2, (.str [120]))]) fun x26 h27 =>
bothK (E (.fn 9) [x0, x26] h27) fun x28 h29 =>
bothK (E (.fn 11) [x28] h29) fun x30 h31 =>
valK (abin tab .eql 9 x30 (.str [97, 32, 98, 32, 99, 32, 100, 32])) fun x32 =>
boolK x32 (
bothK (E (.fn 23) [x0, (.str [97])] h31) fun x33 h34 =>
bothK (E (.fn 11) [x33] h34) fun x35 h36 =>
valK (abin tab .eql 9 x35 (.str [100, 32])) fun x37 =>
boolK x37 (
bothK (E (.fn 23) [x0, (.str [99])] h36) fun x38 h39 =>
bothK (E (.fn 11) [x38] h39) fun x40 h41 =>
valK (abin tab .eql 9 x40 (.str [98, 32])) fun x42 =>
boolK x42 (
bothK (E (.fn 23) [x0, (.str [100])] h41) fun x43 h44 =>
bothK (E (.fn 11) [x43] h44) fun x45 h46 =>
valK (abin tab .eql 9 x45 (.str [])) fun x47 =>
boolK x47 (
bothK (E (.fn 21) [x0] h46) fun x48 h49 =>
bothK (E (.fn 11) [x48] h49) fun x50 h51 =>
valK (abin tab .eql 9 x50 (.str [99, 32, 98, 32, 97, 32, 100, 32])) fun x52 =>
boolK x52 (
bothK (E (.fn 21) [x17] h51) fun x53 h54 =>
bothK (E (.fn 11) [x53] h54) fun x55 h56 =>
valK (abin tab .eql 9 x55 (.str [101, 32, 102, 32])) fun x57 =>
boolK x57 (
bothK (E (.fn 12) [x9] h56) fun x58 h59 =>
boolK x58 (
bothK (E (.fn 21) [x9] h59) fun x60 h61 =>
bothK (E (.fn 11) [x60] h61) fun x62 h63 =>
valK (abin tab .eql 9 x62 (.str [99, 32, 98, 32, 97, 32, 100, 32])) fun x64 =>
boolK x64 (
bothK (abuildSlice tab h63 26 1 [(0, (.str [98]))]) fun x65 h66 =>
valK (abuild tab 28 [(0, (.str [97])), (1, x65)]) fun x67 =>
bothK (abuildSlice tab h66 24 1 [(0, x67)]) fun x68 h69 =>
bothK (E (.fn 12) [x68] h69) fun x70 h71 =>
valK (aun .not x70) fun x72 =>
boolK x72 (
bothK (E (.fn 12) [(.nilslice)] h71) fun x73 h74 =>
boolK x73 (
bothK (E (.fn 21) [(.nilslice)] h74) fun x75 h76 =>
valK (alen tab h76 26 x75) fun x77 =>
valK (abin tab .eql 3 x77 (.int .i64 0)) fun x78 =>
boolK x78 (
bothK (abuildSlice tab h76 26 1 [(0, (.str [97]))]) fun x79 h80 =>
bothK (E (.fn 10) [(.nilslice), x79] h80) fun x81 h82 =>
valK (alen tab h82 26 x81) fun x83 =>
valK (abin tab .eql 3 x83 (.int .i64 0)) fun x84 =>
boolK x84 (
bothK (E (.fn 10) [x0, (.nilslice)] h82) fun x85 h86 =>
bothK (E (.fn 11) [x85] h86) fun x87 h88 =>
valK (abin tab .eql 9 x87 (.str [97, 32, 98, 32, 99, 32, 100, 32])) fun x89 =>
boolK x89 (
bothK (E (.fn 14) [] h88) fun x90 h91 =>
some (x90, h91)) (
some ((.bool false), h88))) (
some ((.bool false), h82))) (
some ((.bool false), h76))) (
some ((.bool false), h74))) (
some ((.bool false), h71))) (
some ((.bool false), h63))) (
some ((.bool false), h59))) (
some ((.bool false), h56))) (
some ((.bool false), h51))) (
some ((.bool false), h46))) (
some ((.bool false), h41))) (
some ((.bool false), h36))) (
some ((.bool false), h31))) (
some ((.bool false), h24))
theorem F7_eq (E : Env) (n : Nat) (h : AHeap) : fnK E tab a7 7 n [] h = F7 E n h := by kernel_rfl

/-- v: 0 l, 1 straight, 5 out, 6 n, 7 i, 8 p, 9 k -/
noncomputable def F8_b8 (E : Env) (n : Nat) (next2_ : AV × AV × AV × AV × AV × Unit → List Nat → AHeap → Option (AV × AHeap)) (v : AV × AV × AV × AV × AV × AV × AV × Unit) (ms : List Nat) (h : AHeap) (next15_ : AV × AV × AV × AV × AV × AV × AV × Unit → List Nat → AHeap → Option (AV × AHeap)) : Option (AV × AHeap) :=
jn (fun (v17 : AV × AV × AV × AV × AV × AV × AV × Unit) ms18 h19 =>
valK (aindexAddr tab 22 v17.1 v17.2.2.2.2.1) fun x20 =>
valK (loadA tab h19 23 x20) fun x21 =>
valK (abin tab .shr 23 x21 v17.2.2.2.2.2.2.1) fun x22 =>
valK (abin tab .rem 23 x22 (.int .u16 2)) fun x23 =>
valK (abin tab .eql 23 x23 (.int .u16 1)) fun x24 =>
boolK x24 (
valK (afieldAddr tab 28 v17.2.2.2.2.2.1 1) fun x25 =>
valK (loadA tab h19 26 x25) fun x26 =>
bothK (aconvert tab h19 3 5 v17.2.2.2.2.2.2.1) fun x27 h28 =>
valK (abin tab .add 5 (.int .u8 97) x27) fun x29 =>
bothK (abuildSlice tab h28 44 1 [(0, x29)]) fun x30 h31 =>
bothK (aconvert tab h31 44 9 x30) fun x32 h33 =>
bothK (abuildSlice tab h33 26 1 [(0, x32)]) fun x34 h35 =>
bothK (aappend tab h35 26 26 x26 x34) fun x36 h37 =>
valK (afieldAddr tab 28 v17.2.2.2.2.2.1 1) fun x38 =>
hpK (storeA tab h37 26 x38 x36) fun h39 =>
valK (abin tab .add 3 v17.2.2.2.2.2.2.1 (.int .i64 1)) fun x40 =>
next15_ (v17.1, v17.2.1, v17.2.2.1, v17.2.2.2.1, v17.2.2.2.2.1, v17.2.2.2.2.2.1, x40, ()) ms18 h39) (
valK (abin tab .add 3 v17.2.2.2.2.2.2.1 (.int .i64 1)) fun x41 =>
next15_ (v17.1, v17.2.1, v17.2.2.1, v17.2.2.2.1, v17.2.2.2.2.1, v17.2.2.2.2.2.1, x41, ()) ms18 h19)) fun j16_ =>
valK (abin tab .lss 3 v.2.2.2.2.2.2.1 v.2.2.2.1) fun x42 =>
boolK x42 (
valK (aun .not v.2.1) fun x43 =>
skipK x43 (
boolK (.tuple []) (
j16_ (v.1, v.2.1, v.2.2.1, v.2.2.2.1, v.2.2.2.2.1, v.2.2.2.2.2.1, v.2.2.2.2.2.2.1, ()) ms h) (
boolK (.tuple []) (
j16_ (v.1, v.2.1, v.2.2.1, v.2.2.2.1, v.2.2.2.2.1, v.2.2.2.2.2.1, v.2.2.2.2.2.2.1, ()) ms h) (
valK (loadA tab h 28 v.2.2.2.2.2.1) fun x44 =>
bothK (abuildSlice tab h 24 1 [(0, x44)]) fun x45 h46 =>
bothK (aappend tab h46 24 24 v.2.2.1 x45) fun x47 h48 =>
valK (abin tab .add 3 v.2.2.2.2.1 (.int .i64 1)) fun x49 =>
next2_ (v.1, v.2.1, x47, v.2.2.2.1, x49, ()) ms h48))) (
boolK x43 (
j16_ (v.1, v.2.1, v.2.2.1, v.2.2.2.1, v.2.2.2.2.1, v.2.2.2.2.2.1, v.2.2.2.2.2.2.1, ()) ms h) (
valK (abin tab .leq 3 v.2.2.2.2.2.2.1 v.2.2.2.2.1) fun x50 =>
boolK x50 (
j16_ (v.1, v.2.1, v.2.2.1, v.2.2.2.1, v.2.2.2.2.1, v.2.2.2.2.2.1, v.2.2.2.2.2.2.1, ()) ms h) (
valK (loadA tab h 28 v.2.2.2.2.2.1) fun x51 =>
bothK (abuildSlice tab h 24 1 [(0, x51)]) fun x52 h53 =>
bothK (aappend tab h53 24 24 v.2.2.1 x52) fun x54 h55 =>
valK (abin tab .add 3 v.2.2.2.2.1 (.int .i64 1)) fun x56 =>
next2_ (v.1, v.2.1, x54, v.2.2.2.1, x56, ()) ms h55)))) (
valK (loadA tab h 28 v.2.2.2.2.2.1) fun x57 =>
bothK (abuildSlice tab h 24 1 [(0, x57)]) fun x58 h59 =>
bothK (aappend tab h59 24 24 v.2.2.1 x58) fun x60 h61 =>
valK (abin tab .add 3 v.2.2.2.2.1 (.int .i64 1)) fun x62 =>
next2_ (v.1, v.2.1, x60, v.2.2.2.1, x62, ()) ms h61)
/-- v: 0 l, 1 straight, 5 out, 6 n, 7 i -/
noncomputable def F8_b4 (E : Env) (n : Nat) (v : AV × AV × AV × AV × AV × Unit) (ms : List Nat) (h : AHeap) (next2_ : AV × AV × AV × AV × AV × Unit → List Nat → AHeap → Option (AV × AHeap)) : Option (AV × AHeap) :=
valK (abin tab .lss 3 v.2.2.2.2.1 v.2.2.2.1) fun x3 =>
boolK x3 (
bothK (aconvert tab h 3 5 v.2.2.2.2.1) fun x4 h5 =>
valK (abin tab .add 5 (.int .u8 97) x4) fun x6 =>
bothK (abuildSlice tab h5 44 1 [(0, x6)]) fun x7 h8 =>
bothK (aconvert tab h8 44 9 x7) fun x9 h10 =>
valK (abuild tab 28 [(0, x9)]) fun x11 =>
bothK (newCells h10 [.str [], .nilslice, .str [], .str []] fun o => .ptr o 0) fun x12 h13 =>
hpK (storeA tab h13 28 x12 x11) fun h14 =>
loopN (F8_b8 E n next2_) n (v.1, v.2.1, v.2.2.1, v.2.2.2.1, v.2.2.2.2.1, x12, (.int .i64 0), ()) ms h14) (
hpK (unmark h ms) fun h63 =>
some (v.2.2.1, h63))
/-- whisk/whisklaw25.small (l, straight) -/
noncomputable def F8 (E : Env) (n : Nat) (a0 a1 : AV) (h : AHeap) : Option (AV × AHeap) :=
valK (alen tab h 22 a0) fun x0 =>
valK (amin x0 (.int .i64 14)) fun x1 =>
loopN (F8_b4 E n) n (a0, a1, (.nilslice), x1, (.int .i64 0), ()) [] h
theorem F8_eq (E : Env) (n : Nat) (a0 a1 : AV) (h : AHeap) : fnK E tab a8 8 n [a0, a1] h = F8 E n a0 a1 h := by kernel_rfl

/-- whisk/graph.Closure (l, from) -/
noncomputable def F9 (E : Env) (n : Nat) (a0 a1 : AV) (h : AHeap) : Option (AV × AHeap) :=
bothK (E (.fn 28) [a0] h) fun x0 h1 =>
bothK (E (.fn 27) [x0, a1] h1) fun x2 h3 =>
bothK (E (.fn 26) [x2, (.func 29 [] [])] h3) fun x4 h5 =>
some (x4, h5)
theorem F9_eq (E : Env) (n : Nat) (a0 a1 : AV) (h : AHeap) : fnK E tab a9 9 n [a0, a1] h = F9 E n a0 a1 h := by kernel_rfl

/-- whisk/graph.Dead (l, roots) -/
noncomputable def F10 (E : Env) (n : Nat) (a0 a1 : AV) (h : AHeap) : Option (AV × AHeap) :=
bothK (E (.fn 28) [a0] h) fun x0 h1 =>
bothK (E (.fn 27) [x0, a1] h1) fun x2 h3 =>
bothK (newCells h3 [.nilmap] fun o => .ptr o 0) fun x4 h5 =>
hpK (storeA tab h5 46 x4 x2) fun h6 =>
bothK (E (.fn 30) [x0, (.func 31 [] [x4])] h6) fun x7 h8 =>
some (x7, h8)
theorem F10_eq (E : Env) (n : Nat) (a0 a1 : AV) (h : AHeap) : fnK E tab a10 10 n [a0, a1] h = F10 E n a0 a1 h := by kernel_rfl

/-- v: 0 l, 3 s, 4 i -/
noncomputable def F11_b3 (E : Env) (n : Nat) (v : AV × AV × AV × Unit) (ms : List Nat) (h : AHeap) (next0_ : AV × AV × AV × Unit → List Nat → AHeap → Option (AV × AHeap)) : Option (AV × AHeap) :=
valK (alen tab h 26 v.1) fun x1 =>
valK (abin tab .lss 3 v.2.2.1 x1) fun x2 =>
boolK x2 (
valK (aindexAddr tab 26 v.1 v.2.2.1) fun x3 =>
valK (loadA tab h 9 x3) fun x4 =>
valK (abin tab .add 9 v.2.1 x4) fun x5 =>
valK (abin tab .add 9 x5 (.str [32])) fun x6 =>
valK (abin tab .add 3 v.2.2.1 (.int .i64 1)) fun x7 =>
next0_ (v.1, x6, x7, ()) ms h) (
hpK (unmark h ms) fun h8 =>
some (v.2.1, h8))
/-- whisk/whisklaw25.said (l) -/
noncomputable def F11 (E : Env) (n : Nat) (a0 : AV) (h : AHeap) : Option (AV × AHeap) :=
loopN (F11_b3 E n) n (a0, (.str []), (.int .i64 0), ()) [] h
theorem F11_eq (E : Env) (n : Nat) (a0 : AV) (h : AHeap) : fnK E tab a11 11 n [a0] h = F11 E n a0 h := by kernel_rfl

/-- whisk/graph.Closed (l) -/
noncomputable def F12 (E : Env) (n : Nat) (a0 : AV) (h : AHeap) : Option (AV × AHeap) :=
bothK (E (.fn 28) [a0] h) fun x0 h1 =>
none
theorem F12_eq (E : Env) (n : Nat) (a0 : AV) (h : AHeap) : fnK E tab a12 12 n [a0] h = F12 E n a0 h := by kernel_rfl

/-- v: 0 l, 1 s, 5 i -/
noncomputable def F13_b2 (E : Env) (n : Nat) (v : AV × AV × AV × Unit) (ms : List Nat) (h : AHeap) (next0_ : AV × AV × AV × Unit → List Nat → AHeap → Option (AV × AHeap)) : Option (AV × AHeap) :=
valK (alen tab h 26 v.1) fun x1 =>
valK (abin tab .lss 3 v.2.2.1 x1) fun x2 =>
boolK x2 (
valK (aindexAddr tab 26 v.1 v.2.2.1) fun x3 =>
valK (loadA tab h 9 x3) fun x4 =>
valK (abin tab .eql 9 x4 v.2.1) fun x5 =>
boolK x5 (
hpK (unmark h ms) fun h6 =>
some ((.bool true), h6)) (
valK (abin tab .add 3 v.2.2.1 (.int .i64 1)) fun x7 =>
next0_ (v.1, v.2.1, x7, ()) ms h)) (
hpK (unmark h ms) fun h8 =>
some ((.bool false), h8))
/-- whisk/whisklaw25.has (l, s) -/
noncomputable def F13 (E : Env) (n : Nat) (a0 a1 : AV) (h : AHeap) : Option (AV × AHeap) :=
loopN (F13_b2 E n) n (a0, a1, (.int .i64 0), ()) [] h
theorem F13_eq (E : Env) (n : Nat) (a0 a1 : AV) (h : AHeap) : fnK E tab a13 13 n [a0, a1] h = F13 E n a0 a1 h := by kernel_rfl

/-- whisk/whisklaw25.works () -/
noncomputable def F14 (E : Env) (n : Nat) (h : AHeap) : Option (AV × AHeap) :=
bothK (E (.fn 25) [] h) fun x0 h1 =>
bothK (abuildSlice tab h1 26 1 [(0, (.str [97]))]) fun x2 h3 =>
bothK (E (.fn 9) [x0, x2] h3) fun x4 h5 =>
bothK (E (.fn 11) [x4] h5) fun x6 h7 =>
valK (abin tab .eql 9 x6 (.str [97, 32, 98, 32, 99, 32])) fun x8 =>
boolK x8 (
bothK (E (.fn 25) [] h7) fun x9 h10 =>
bothK (abuildSlice tab h10 26 1 [(0, (.str [98]))]) fun x11 h12 =>
bothK (E (.fn 10) [x9, x11] h12) fun x13 h14 =>
bothK (E (.fn 11) [x13] h14) fun x15 h16 =>
valK (abin tab .eql 9 x15 (.str [97, 32, 100, 32])) fun x17 =>
boolK x17 (
bothK (E (.fn 25) [] h16) fun x18 h19 =>
bothK (E (.fn 12) [x18] h19) fun x20 h21 =>
some (x20, h21)) (
some ((.bool false), h16))) (
some ((.bool false), h7))
theorem F14_eq (E : Env) (n : Nat) (h : AHeap) : fnK E tab a14 14 n [] h = F14 E n h := by kernel_rfl

/-- v: 0 l, 3 out, 4 i -/
noncomputable def F15_b3 (E : Env) (n : Nat) (v : AV × AV × AV × Unit) (ms : List Nat) (h : AHeap) (next0_ : AV × AV × AV × Unit → List Nat → AHeap → Option (AV × AHeap)) : Option (AV × AHeap) :=
jn (fun (v2 : AV × AV × AV × Unit) ms3 h4 =>
valK (aindexAddr tab 24 v2.1 v2.2.2.1) fun x5 =>
valK (afieldAddr tab 28 x5 0) fun x6 =>
valK (loadA tab h4 9 x6) fun x7 =>
valK (aindexAddr tab 24 v2.1 v2.2.2.1) fun x8 =>
valK (afieldAddr tab 28 x8 0) fun x9 =>
valK (loadA tab h4 9 x9) fun x10 =>
valK (alen tab h4 9 x10) fun x11 =>
valK (amin x11 (.int .i64 60)) fun x12 =>
valK (aslice tab 9 x7 none (some x12)) fun x13 =>
valK (aindexAddr tab 24 v2.1 v2.2.2.1) fun x14 =>
valK (afieldAddr tab 28 x14 1) fun x15 =>
valK (loadA tab h4 26 x15) fun x16 =>
bothK (E (.fn 16) [x16] h4) fun x17 h18 =>
valK (alen tab h18 9 x10) fun x19 =>
sameK x19 x11 (
valK (loadA tab h18 9 x9) fun x20 =>
sameK x20 x10 (
valK (loadA tab h18 9 x6) fun x21 =>
sameK x21 x7 (
valK (abuild tab 28 [(0, x13), (1, x17)]) fun x22 =>
bothK (abuildSlice tab h18 24 1 [(0, x22)]) fun x23 h24 =>
bothK (aappend tab h24 24 24 v2.2.1 x23) fun x25 h26 =>
valK (abin tab .add 3 v2.2.2.1 (.int .i64 1)) fun x27 =>
next0_ (v2.1, x25, x27, ()) ms3 h26)))) fun j1_ =>
valK (alen tab h 24 v.1) fun x28 =>
valK (abin tab .lss 3 v.2.2.1 x28) fun x29 =>
boolK x29 (
valK (abin tab .lss 3 v.2.2.1 (.int .i64 25)) fun x30 =>
boolK x30 (
j1_ (v.1, v.2.1, v.2.2.1, ()) ms h) (
hpK (unmark h ms) fun h31 =>
some (v.2.1, h31))) (
hpK (unmark h ms) fun h32 =>
some (v.2.1, h32))
/-- whisk/whisklaw25.cut (l) -/
noncomputable def F15 (E : Env) (n : Nat) (a0 : AV) (h : AHeap) : Option (AV × AHeap) :=
loopN (F15_b3 E n) n (a0, (.nilslice), (.int .i64 0), ()) [] h
theorem F15_eq (E : Env) (n : Nat) (a0 : AV) (h : AHeap) : fnK E tab a15 15 n [a0] h = F15 E n a0 h := by kernel_rfl

/-- v: 0 l, 3 out, 4 i -/
noncomputable def F16_b3 (E : Env) (n : Nat) (v : AV × AV × AV × Unit) (ms : List Nat) (h : AHeap) (next0_ : AV × AV × AV × Unit → List Nat → AHeap → Option (AV × AHeap)) : Option (AV × AHeap) :=
jn (fun (v2 : AV × AV × AV × Unit) ms3 h4 =>
valK (aindexAddr tab 26 v2.1 v2.2.2.1) fun x5 =>
valK (loadA tab h4 9 x5) fun x6 =>
valK (aindexAddr tab 26 v2.1 v2.2.2.1) fun x7 =>
valK (loadA tab h4 9 x7) fun x8 =>
valK (alen tab h4 9 x8) fun x9 =>
valK (amin x9 (.int .i64 60)) fun x10 =>
valK (aslice tab 9 x6 none (some x10)) fun x11 =>
bothK (abuildSlice tab h4 26 1 [(0, x11)]) fun x12 h13 =>
bothK (aappend tab h13 26 26 v2.2.1 x12) fun x14 h15 =>
valK (abin tab .add 3 v2.2.2.1 (.int .i64 1)) fun x16 =>
next0_ (v2.1, x14, x16, ()) ms3 h15) fun j1_ =>
valK (alen tab h 26 v.1) fun x17 =>
valK (abin tab .lss 3 v.2.2.1 x17) fun x18 =>
boolK x18 (
valK (abin tab .lss 3 v.2.2.1 (.int .i64 10)) fun x19 =>
boolK x19 (
j1_ (v.1, v.2.1, v.2.2.1, ()) ms h) (
hpK (unmark h ms) fun h20 =>
some (v.2.1, h20))) (
hpK (unmark h ms) fun h21 =>
some (v.2.1, h21))
/-- whisk/whisklaw25.texts (l) -/
noncomputable def F16 (E : Env) (n : Nat) (a0 : AV) (h : AHeap) : Option (AV × AHeap) :=
loopN (F16_b3 E n) n (a0, (.nilslice), (.int .i64 0), ()) [] h
theorem F16_eq (E : Env) (n : Nat) (a0 : AV) (h : AHeap) : fnK E tab a16 16 n [a0] h = F16 E n a0 h := by kernel_rfl

/-- v: 0 a, 1 b, 5 i -/
noncomputable def F17_b4 (E : Env) (n : Nat) (v : AV × AV × AV × Unit) (ms : List Nat) (h : AHeap) (next3_ : AV × AV × AV × Unit → List Nat → AHeap → Option (AV × AHeap)) : Option (AV × AHeap) :=
valK (alen tab h 26 v.1) fun x4 =>
valK (abin tab .lss 3 v.2.2.1 x4) fun x5 =>
boolK x5 (
valK (aindexAddr tab 26 v.1 v.2.2.1) fun x6 =>
valK (loadA tab h 9 x6) fun x7 =>
valK (aindexAddr tab 26 v.2.1 v.2.2.1) fun x8 =>
valK (loadA tab h 9 x8) fun x9 =>
valK (abin tab .neq 9 x7 x9) fun x10 =>
boolK x10 (
hpK (unmark h ms) fun h11 =>
some ((.bool false), h11)) (
valK (abin tab .add 3 v.2.2.1 (.int .i64 1)) fun x12 =>
next3_ (v.1, v.2.1, x12, ()) ms h)) (
hpK (unmark h ms) fun h13 =>
some ((.bool true), h13))
/-- whisk/whiskref06.Texts (a, b) -/
noncomputable def F17 (E : Env) (n : Nat) (a0 a1 : AV) (h : AHeap) : Option (AV × AHeap) :=
valK (alen tab h 26 a0) fun x0 =>
valK (alen tab h 26 a1) fun x1 =>
valK (abin tab .neq 3 x0 x1) fun x2 =>
boolK x2 (
some ((.bool false), h)) (
loopN (F17_b4 E n) n (a0, a1, (.int .i64 0), ()) [] h)
theorem F17_eq (E : Env) (n : Nat) (a0 a1 : AV) (h : AHeap) : fnK E tab a17 17 n [a0, a1] h = F17 E n a0 a1 h := by kernel_rfl

/-- v: 0 l, 5 out, 7 n, 8 next, 9 i, 10 p, 11 k -/
noncomputable def F18_b14 (E : Env) (n : Nat) (next16_ : AV × AV × AV × AV × AV × Unit → List Nat → AHeap → Option (AV × AHeap)) (v : AV × AV × AV × AV × AV × AV × AV × Unit) (ms : List Nat) (h : AHeap) (next28_ : AV × AV × AV × AV × AV × AV × AV × Unit → List Nat → AHeap → Option (AV × AHeap)) : Option (AV × AHeap) :=
valK (afieldAddr tab 28 v.2.2.2.2.2.1 1) fun x29 =>
valK (loadA tab h 26 x29) fun x30 =>
valK (alen tab h 26 x30) fun x31 =>
valK (abin tab .lss 3 v.2.2.2.2.2.2.1 x31) fun x32 =>
boolK x32 (
valK (afieldAddr tab 28 v.2.2.2.2.2.1 1) fun x33 =>
valK (loadA tab h 26 x33) fun x34 =>
valK (aindexAddr tab 26 x34 v.2.2.2.2.2.2.1) fun x35 =>
valK (loadA tab h 9 x35) fun x36 =>
bothK (E (.fn 32) [v.1, x36] h) fun x37 h38 =>
valK (abin tab .geq 3 x37 (.int .i64 0)) fun x39 =>
boolK x39 (
valK (afieldAddr tab 28 v.2.2.2.2.2.1 1) fun x40 =>
valK (loadA tab h38 26 x40) fun x41 =>
valK (aindexAddr tab 26 x41 v.2.2.2.2.2.2.1) fun x42 =>
valK (loadA tab h38 9 x42) fun x43 =>
bothK (E (.fn 33) [v.2.2.2.1, x43] h38) fun x44 h45 =>
valK (abin tab .add 3 v.2.2.2.2.2.2.1 (.int .i64 1)) fun x46 =>
next28_ (v.1, v.2.1, v.2.2.1, x44, v.2.2.2.2.1, v.2.2.2.2.2.1, x46, ()) ms h45) (
valK (abin tab .add 3 v.2.2.2.2.2.2.1 (.int .i64 1)) fun x47 =>
next28_ (v.1, v.2.1, v.2.2.1, v.2.2.2.1, v.2.2.2.2.1, v.2.2.2.2.2.1, x47, ()) ms h38)) (
valK (abin tab .add 3 v.2.2.2.2.1 (.int .i64 1)) fun x48 =>
next16_ (v.1, v.2.1, v.2.2.1, v.2.2.2.1, x48, ()) ms h)
/-- v: 0 l, 5 out, 7 n, 8 next, 9 i -/
noncomputable def F18_b10 (E : Env) (n : Nat) (next14_ : AV × AV × Unit → List Nat → AHeap → Option (AV × AHeap)) (v : AV × AV × AV × AV × AV × Unit) (ms : List Nat) (h : AHeap) (next16_ : AV × AV × AV × AV × AV × Unit → List Nat → AHeap → Option (AV × AHeap)) : Option (AV × AHeap) :=
valK (alen tab h 26 v.2.1) fun x17 =>
valK (abin tab .lss 3 v.2.2.2.2.1 x17) fun x18 =>
boolK x18 (
valK (aindexAddr tab 26 v.2.1 v.2.2.2.2.1) fun x19 =>
valK (loadA tab h 9 x19) fun x20 =>
bothK (E (.fn 32) [v.1, x20] h) fun x21 h22 =>
valK (aindexAddr tab 24 v.1 x21) fun x23 =>
valK (loadA tab h22 28 x23) fun x24 =>
bothK (newCells h22 [.str [], .nilslice, .str [], .str []] fun o => .ptr o 0) fun x25 h26 =>
hpK (storeA tab h26 28 x25 x24) fun h27 =>
loopN (F18_b14 E n next16_) n (v.1, v.2.1, v.2.2.1, v.2.2.2.1, v.2.2.2.2.1, x25, (.int .i64 0), ()) ms h27) (
valK (alen tab h 26 v.2.2.2.1) fun x49 =>
valK (abin tab .eql 3 x49 v.2.2.1) fun x50 =>
boolK x50 (
hpK (unmark h ms) fun h51 =>
some (v.2.2.2.1, h51)) (
next14_ (v.1, v.2.2.2.1, ()) ms h))
/-- v: 0 l, 5 out -/
noncomputable def F18_b7 (E : Env) (n : Nat) (v : AV × AV × Unit) (ms : List Nat) (h : AHeap) (next14_ : AV × AV × Unit → List Nat → AHeap → Option (AV × AHeap)) : Option (AV × AHeap) :=
valK (alen tab h 26 v.2.1) fun x15 =>
loopN (F18_b10 E n next14_) n (v.1, v.2.1, x15, v.2.1, (.int .i64 0), ()) ms h
/-- v: 0 l, 1 from, 5 out, 6 i -/
noncomputable def F18_b3 (E : Env) (n : Nat) (v : AV × AV × AV × AV × Unit) (ms : List Nat) (h : AHeap) (next0_ : AV × AV × AV × AV × Unit → List Nat → AHeap → Option (AV × AHeap)) : Option (AV × AHeap) :=
valK (alen tab h 26 v.2.1) fun x1 =>
valK (abin tab .lss 3 v.2.2.2.1 x1) fun x2 =>
boolK x2 (
valK (aindexAddr tab 26 v.2.1 v.2.2.2.1) fun x3 =>
valK (loadA tab h 9 x3) fun x4 =>
bothK (E (.fn 32) [v.1, x4] h) fun x5 h6 =>
valK (abin tab .geq 3 x5 (.int .i64 0)) fun x7 =>
boolK x7 (
valK (aindexAddr tab 26 v.2.1 v.2.2.2.1) fun x8 =>
valK (loadA tab h6 9 x8) fun x9 =>
bothK (E (.fn 33) [v.2.2.1, x9] h6) fun x10 h11 =>
valK (abin tab .add 3 v.2.2.2.1 (.int .i64 1)) fun x12 =>
next0_ (v.1, v.2.1, x10, x12, ()) ms h11) (
valK (abin tab .add 3 v.2.2.2.1 (.int .i64 1)) fun x13 =>
next0_ (v.1, v.2.1, v.2.2.1, x13, ()) ms h6)) (
loopN (F18_b7 E n) n (v.1, v.2.2.1, ()) ms h)
/-- whisk/whiskref25.Closure (l, from) -/
noncomputable def F18 (E : Env) (n : Nat) (a0 a1 : AV) (h : AHeap) : Option (AV × AHeap) :=
loopN (F18_b3 E n) n (a0, a1, (.nilslice), (.int .i64 0), ()) [] h
theorem F18_eq (E : Env) (n : Nat) (a0 a1 : AV) (h : AHeap) : fnK E tab a18 18 n [a0, a1] h = F18 E n a0 a1 h := by kernel_rfl

/-- v: 5 live, 6 all, 7 out, 8 i -/
noncomputable def F19_b5 (E : Env) (n : Nat) (v : AV × AV × AV × AV × Unit) (ms : List Nat) (h : AHeap) (next4_ : AV × AV × AV × AV × Unit → List Nat → AHeap → Option (AV × AHeap)) : Option (AV × AHeap) :=
valK (alen tab h 26 v.2.1) fun x5 =>
valK (abin tab .lss 3 v.2.2.2.1 x5) fun x6 =>
boolK x6 (
valK (aindexAddr tab 26 v.2.1 v.2.2.2.1) fun x7 =>
valK (loadA tab h 9 x7) fun x8 =>
bothK (E (.fn 35) [v.1, x8] h) fun x9 h10 =>
valK (aun .not x9) fun x11 =>
boolK x11 (
valK (aindexAddr tab 26 v.2.1 v.2.2.2.1) fun x12 =>
valK (loadA tab h10 9 x12) fun x13 =>
bothK (abuildSlice tab h10 26 1 [(0, x13)]) fun x14 h15 =>
bothK (aappend tab h15 26 26 v.2.2.1 x14) fun x16 h17 =>
valK (abin tab .add 3 v.2.2.2.1 (.int .i64 1)) fun x18 =>
next4_ (v.1, v.2.1, x16, x18, ()) ms h17) (
valK (abin tab .add 3 v.2.2.2.1 (.int .i64 1)) fun x19 =>
next4_ (v.1, v.2.1, v.2.2.1, x19, ()) ms h10)) (
hpK (unmark h ms) fun h20 =>
some (v.2.2.1, h20))
/-- whisk/whiskref25.Dead (l, roots) -/
noncomputable def F19 (E : Env) (n : Nat) (a0 a1 : AV) (h : AHeap) : Option (AV × AHeap) :=
bothK (E (.fn 18) [a0, a1] h) fun x0 h1 =>
bothK (E (.fn 34) [a0] h1) fun x2 h3 =>
loopN (F19_b5 E n) n (x0, x2, (.nilslice), (.int .i64 0), ()) [] h3
theorem F19_eq (E : Env) (n : Nat) (a0 a1 : AV) (h : AHeap) : fnK E tab a19 19 n [a0, a1] h = F19 E n a0 a1 h := by kernel_rfl

/-- v: 0 l, 3 i, 4 k -/
noncomputable def F20_b5 (E : Env) (n : Nat) (next0_ : AV × AV × Unit → List Nat → AHeap → Option (AV × AHeap)) (v : AV × AV × AV × Unit) (ms : List Nat) (h : AHeap) (next3_ : AV × AV × AV × Unit → List Nat → AHeap → Option (AV × AHeap)) : Option (AV × AHeap) :=
jn (fun (v5 : AV × AV × AV × Unit) ms6 h7 =>
valK (aindexAddr tab 24 v5.1 v5.2.1) fun x8 =>
valK (afieldAddr tab 28 x8 1) fun x9 =>
valK (loadA tab h7 26 x9) fun x10 =>
valK (aindexAddr tab 26 x10 v5.2.2.1) fun x11 =>
valK (loadA tab h7 9 x11) fun x12 =>
bothK (E (.fn 32) [v5.1, x12] h7) fun x13 h14 =>
valK (abin tab .lss 3 x13 (.int .i64 0)) fun x15 =>
boolK x15 (
hpK (unmark h14 ms6) fun h16 =>
some ((.bool false), h16)) (
valK (abin tab .add 3 v5.2.2.1 (.int .i64 1)) fun x17 =>
next3_ (v5.1, v5.2.1, x17, ()) ms6 h14)) fun j4_ =>
valK (aindexAddr tab 24 v.1 v.2.1) fun x18 =>
valK (afieldAddr tab 28 x18 0) fun x19 =>
valK (loadA tab h 9 x19) fun x20 =>
bothK (E (.fn 32) [v.1, x20] h) fun x21 h22 =>
valK (abin tab .eql 3 x21 v.2.1) fun x23 =>
boolK x23 (
valK (aindexAddr tab 24 v.1 v.2.1) fun x24 =>
valK (afieldAddr tab 28 x24 1) fun x25 =>
valK (loadA tab h22 26 x25) fun x26 =>
valK (alen tab h22 26 x26) fun x27 =>
valK (abin tab .lss 3 v.2.2.1 x27) fun x28 =>
boolK x28 (
j4_ (v.1, v.2.1, v.2.2.1, ()) ms h22) (
valK (abin tab .add 3 v.2.1 (.int .i64 1)) fun x29 =>
next0_ (v.1, x29, ()) ms h22)) (
valK (abin tab .add 3 v.2.1 (.int .i64 1)) fun x30 =>
next0_ (v.1, x30, ()) ms h22)
/-- v: 0 l, 3 i -/
noncomputable def F20_b2 (E : Env) (n : Nat) (v : AV × AV × Unit) (ms : List Nat) (h : AHeap) (next0_ : AV × AV × Unit → List Nat → AHeap → Option (AV × AHeap)) : Option (AV × AHeap) :=
valK (alen tab h 24 v.1) fun x1 =>
valK (abin tab .lss 3 v.2.1 x1) fun x2 =>
boolK x2 (
loopN (F20_b5 E n next0_) n (v.1, v.2.1, (.int .i64 0), ()) ms h) (
hpK (unmark h ms) fun h31 =>
some ((.bool true), h31))
/-- whisk/whiskref25.Closed (l) -/
noncomputable def F20 (E : Env) (n : Nat) (a0 : AV) (h : AHeap) : Option (AV × AHeap) :=
loopN (F20_b2 E n) n (a0, (.int .i64 0), ()) [] h
theorem F20_eq (E : Env) (n : Nat) (a0 : AV) (h : AHeap) : fnK E tab a20 20 n [a0] h = F20 E n a0 h := by kernel_rfl

/-- v: 3 there, 4 left, 5 out -/
noncomputable def F21_b4 (E : Env) (n : Nat) (v : AV × AV × AV × Unit) (ms : List Nat) (h : AHeap) (next11_ : AV × AV × AV × Unit → List Nat → AHeap → Option (AV × AHeap)) : Option (AV × AHeap) :=
valK (loadA tab h 48 v.2.1) fun x12 =>
valK (alen tab h 48 x12) fun x13 =>
valK (abin tab .gtr 3 x13 (.int .i64 0)) fun x14 =>
boolK x14 (
valK (loadA tab h 48 v.2.1) fun x15 =>
bothK (E (.fn 30) [x15, (.func 37 [] [v.1, v.2.1])] h) fun x16 h17 =>
jn (fun (v19 : AV × AV × AV × AV × Unit) ms20 h21 =>
valK (aindexAddr tab 26 v19.2.2.2.1 (.int .i64 0)) fun x22 =>
valK (loadA tab h21 9 x22) fun x23 =>
bothK (abuildSlice tab h21 26 1 [(0, x23)]) fun x24 h25 =>
bothK (aappend tab h25 26 26 v19.2.2.1 x24) fun x26 h27 =>
valK (loadA tab h27 48 v19.2.1) fun x28 =>
valK (aindexAddr tab 26 v19.2.2.2.1 (.int .i64 0)) fun x29 =>
valK (loadA tab h27 9 x29) fun x30 =>
hpK (adelete tab h27 48 x28 x30) fun h31 =>
next11_ (v19.1, v19.2.1, x26, ()) ms20 h31) fun j18_ =>
valK (alen tab h17 26 x16) fun x32 =>
valK (abin tab .eql 3 x32 (.int .i64 0)) fun x33 =>
boolK x33 (
valK (loadA tab h17 48 v.2.1) fun x34 =>
bothK (E (.fn 30) [x34, (.func 40 [] [])] h17) fun x35 h36 =>
j18_ (v.1, v.2.1, v.2.2.1, x35, ()) ms h36) (
j18_ (v.1, v.2.1, v.2.2.1, x16, ()) ms h17)) (
hpK (unmark h ms) fun h37 =>
some (v.2.2.1, h37))
/-- whisk/graph.Order (l) -/
noncomputable def F21 (E : Env) (n : Nat) (a0 : AV) (h : AHeap) : Option (AV × AHeap) :=
bothK (E (.fn 28) [a0] h) fun x0 h1 =>
bothK (newCells h1 [.nilmap] fun o => .ptr o 0) fun x2 h3 =>
hpK (storeA tab h3 48 x2 x0) fun h4 =>
valK (loadA tab h4 48 x2) fun x5 =>
bothK (E (.fn 36) [x5] h4) fun x6 h7 =>
bothK (newCells h7 [.nilmap] fun o => .ptr o 0) fun x8 h9 =>
hpK (storeA tab h9 48 x8 x6) fun h10 =>
loopN (F21_b4 E n) n (x2, x8, (.nilslice), ()) [] h10
theorem F21_eq (E : Env) (n : Nat) (a0 : AV) (h : AHeap) : fnK E tab a21 21 n [a0] h = F21 E n a0 h := by kernel_rfl

/-- v: 0 l, 3 all, 4 out, 5 next, 6 first, 7 some, 8 left, 9 i -/
noncomputable def F22_b7 (E : Env) (n : Nat) (next2_ : AV × AV × AV × Unit → List Nat → AHeap → Option (AV × AHeap)) (v : AV × AV × AV × AV × AV × AV × AV × AV × Unit) (ms : List Nat) (h : AHeap) (next8_ : AV × AV × AV × AV × AV × AV × AV × AV × Unit → List Nat → AHeap → Option (AV × AHeap)) : Option (AV × AHeap) :=
valK (abin tab .geq 3 v.2.2.2.2.2.2.2.1 (.int .i64 0)) fun x9 =>
boolK x9 (
valK (aindexAddr tab 26 v.2.1 v.2.2.2.2.2.2.2.1) fun x10 =>
valK (loadA tab h 9 x10) fun x11 =>
bothK (E (.fn 35) [v.2.2.1, x11] h) fun x12 h13 =>
boolK x12 (
valK (abin tab .sub 3 v.2.2.2.2.2.2.2.1 (.int .i64 1)) fun x14 =>
next8_ (v.1, v.2.1, v.2.2.1, v.2.2.2.1, v.2.2.2.2.1, v.2.2.2.2.2.1, v.2.2.2.2.2.2.1, x14, ()) ms h13) (
valK (aindexAddr tab 26 v.2.1 v.2.2.2.2.2.2.2.1) fun x15 =>
valK (loadA tab h13 9 x15) fun x16 =>
valK (aindexAddr tab 26 v.2.1 v.2.2.2.2.2.2.2.1) fun x17 =>
valK (loadA tab h13 9 x17) fun x18 =>
bothK (E (.fn 41) [v.1, x18, v.2.2.1] h13) fun x19 h20 =>
boolK x19 (
valK (aindexAddr tab 26 v.2.1 v.2.2.2.2.2.2.2.1) fun x21 =>
valK (loadA tab h20 9 x21) fun x22 =>
valK (abin tab .sub 3 v.2.2.2.2.2.2.2.1 (.int .i64 1)) fun x23 =>
next8_ (v.1, v.2.1, v.2.2.1, x22, x16, (.bool true), (.bool true), x23, ()) ms h20) (
valK (abin tab .sub 3 v.2.2.2.2.2.2.2.1 (.int .i64 1)) fun x24 =>
next8_ (v.1, v.2.1, v.2.2.1, v.2.2.2.1, x16, v.2.2.2.2.2.1, (.bool true), x24, ()) ms h20))) (
jn (fun (v26 : AV × AV × AV × AV × Unit) ms27 h28 =>
bothK (abuildSlice tab h28 26 1 [(0, v26.2.2.2.1)]) fun x29 h30 =>
bothK (aappend tab h30 26 26 v26.2.2.1 x29) fun x31 h32 =>
next2_ (v26.1, v26.2.1, x31, ()) ms27 h32) fun j25_ =>
valK (aun .not v.2.2.2.2.2.1) fun x33 =>
boolK x33 (
boolK v.2.2.2.2.2.2.1 (
j25_ (v.1, v.2.1, v.2.2.1, v.2.2.2.2.1, ()) ms h) (
j25_ (v.1, v.2.1, v.2.2.1, v.2.2.2.1, ()) ms h)) (
j25_ (v.1, v.2.1, v.2.2.1, v.2.2.2.1, ()) ms h))
/-- v: 0 l, 3 all, 4 out -/
noncomputable def F22_b3 (E : Env) (n : Nat) (v : AV × AV × AV × Unit) (ms : List Nat) (h : AHeap) (next2_ : AV × AV × AV × Unit → List Nat → AHeap → Option (AV × AHeap)) : Option (AV × AHeap) :=
valK (alen tab h 26 v.2.2.1) fun x3 =>
valK (alen tab h 26 v.2.1) fun x4 =>
valK (abin tab .lss 3 x3 x4) fun x5 =>
boolK x5 (
valK (alen tab h 26 v.2.1) fun x6 =>
valK (abin tab .sub 3 x6 (.int .i64 1)) fun x7 =>
loopN (F22_b7 E n next2_) n (v.1, v.2.1, v.2.2.1, (.str []), (.str []), (.bool false), (.bool false), x7, ()) ms h) (
hpK (unmark h ms) fun h34 =>
some (v.2.2.1, h34))
/-- whisk/whiskref25.Order (l) -/
noncomputable def F22 (E : Env) (n : Nat) (a0 : AV) (h : AHeap) : Option (AV × AHeap) :=
bothK (E (.fn 34) [a0] h) fun x0 h1 =>
loopN (F22_b3 E n) n (a0, x0, (.nilslice), ()) [] h1
theorem F22_eq (E : Env) (n : Nat) (a0 : AV) (h : AHeap) : fnK E tab a22 22 n [a0] h = F22 E n a0 h := by kernel_rfl

/-- whisk/graph.Referrers (l, path) -/
noncomputable def F23 (E : Env) (n : Nat) (a0 a1 : AV) (h : AHeap) : Option (AV × AHeap) :=
bothK (boxA h a1) fun x0 h1 =>
bothK (E (.fn 28) [a0] h1) fun x2 h3 =>
bothK (newCells h3 [.nilmap] fun o => .ptr o 0) fun x4 h5 =>
hpK (storeA tab h5 48 x4 x2) fun h6 =>
valK (loadA tab h6 48 x4) fun x7 =>
bothK (E (.fn 30) [x7, (.func 42 [] [x0, x4])] h6) fun x8 h9 =>
some (x8, h9)
theorem F23_eq (E : Env) (n : Nat) (a0 a1 : AV) (h : AHeap) : fnK E tab a23 23 n [a0, a1] h = F23 E n a0 a1 h := by kernel_rfl

/-- v: 0 l, 1 path, 5 out, 6 i -/
noncomputable def F24_b3 (E : Env) (n : Nat) (v : AV × AV × AV × AV × Unit) (ms : List Nat) (h : AHeap) (next0_ : AV × AV × AV × AV × Unit → List Nat → AHeap → Option (AV × AHeap)) : Option (AV × AHeap) :=
valK (alen tab h 24 v.1) fun x1 =>
valK (abin tab .lss 3 v.2.2.2.1 x1) fun x2 =>
boolK x2 (
jn (fun (v4 : AV × AV × AV × AV × AV × Unit) ms5 h6 =>
boolK v4.2.2.2.2.1 (
valK (aindexAddr tab 24 v4.1 v4.2.2.2.1) fun x7 =>
valK (afieldAddr tab 28 x7 0) fun x8 =>
valK (loadA tab h6 9 x8) fun x9 =>
bothK (E (.fn 33) [v4.2.2.1, x9] h6) fun x10 h11 =>
valK (abin tab .add 3 v4.2.2.2.1 (.int .i64 1)) fun x12 =>
next0_ (v4.1, v4.2.1, x10, x12, ()) ms5 h11) (
valK (abin tab .add 3 v4.2.2.2.1 (.int .i64 1)) fun x13 =>
next0_ (v4.1, v4.2.1, v4.2.2.1, x13, ()) ms5 h6)) fun j3_ =>
valK (aindexAddr tab 24 v.1 v.2.2.2.1) fun x14 =>
valK (afieldAddr tab 28 x14 0) fun x15 =>
valK (loadA tab h 9 x15) fun x16 =>
bothK (E (.fn 32) [v.1, x16] h) fun x17 h18 =>
valK (abin tab .eql 3 x17 v.2.2.2.1) fun x19 =>
boolK x19 (
valK (aindexAddr tab 24 v.1 v.2.2.2.1) fun x20 =>
valK (afieldAddr tab 28 x20 0) fun x21 =>
valK (loadA tab h18 9 x21) fun x22 =>
valK (abin tab .neq 9 x22 v.2.1) fun x23 =>
boolK x23 (
valK (aindexAddr tab 24 v.1 v.2.2.2.1) fun x24 =>
valK (afieldAddr tab 28 x24 1) fun x25 =>
valK (loadA tab h18 26 x25) fun x26 =>
bothK (E (.fn 35) [x26, v.2.1] h18) fun x27 h28 =>
j3_ (v.1, v.2.1, v.2.2.1, v.2.2.2.1, x27, ()) ms h28) (
j3_ (v.1, v.2.1, v.2.2.1, v.2.2.2.1, (.bool false), ()) ms h18)) (
j3_ (v.1, v.2.1, v.2.2.1, v.2.2.2.1, (.bool false), ()) ms h18)) (
hpK (unmark h ms) fun h29 =>
some (v.2.2.1, h29))
/-- whisk/whiskref25.Referrers (l, path) -/
noncomputable def F24 (E : Env) (n : Nat) (a0 a1 : AV) (h : AHeap) : Option (AV × AHeap) :=
loopN (F24_b3 E n) n (a0, a1, (.nilslice), (.int .i64 0), ()) [] h
theorem F24_eq (E : Env) (n : Nat) (a0 a1 : AV) (h : AHeap) : fnK E tab a24 24 n [a0, a1] h = F24 E n a0 a1 h := by kernel_rfl

/-- whisk/whisklaw25.four () -/
noncomputable def F25 (E : Env) (n : Nat) (h : AHeap) : Option (AV × AHeap) :=
bothK (abuildSlice tab h 26 2 [(0, (.str [97])), (1, (.str [98]))]) fun x0 h1 =>
valK (abuild tab 28 [(0, (.str [97])), (1, x0)]) fun x2 =>
bothK (abuildSlice tab h1 26 1 [(0, (.str [99]))]) fun x3 h4 =>
valK (abuild tab 28 [(0, (.str [98])), (1, x3)]) fun x5 =>
valK (abuild tab 28 [(0, (.str [99]))]) fun x6 =>
bothK (abuildSlice tab h4 26 1 [(0, (.str [97]))]) fun x7 h8 =>
valK (abuild tab 28 [(0, (.str [100])), (1, x7)]) fun x9 =>
bothK (abuildSlice tab h8 24 4 [(0, x2), (1, x5), (2, x6), (3, x9)]) fun x10 h11 =>
some (x10, h11)
theorem F25_eq (E : Env) (n : Nat) (h : AHeap) : fnK E tab a25 25 n [] h = F25 E n h := by kernel_rfl

/-- v: 1 is, 5 out, 10, 11, 12 -/
noncomputable def F26_b3 (E : Env) (n : Nat) (v : AV × AV × AV × AV × AV × Unit) (ms : List Nat) (h : AHeap) (next5_ : AV × AV × AV × AV × AV × Unit → List Nat → AHeap → Option (AV × AHeap)) : Option (AV × AHeap) :=
valK (abin tab .lss 3 v.2.2.2.2.1 v.2.2.2.1) fun x6 =>
boolK x6 (
valK (aindexAddr tab 26 v.2.2.1 v.2.2.2.2.1) fun x7 =>
valK (loadA tab h 9 x7) fun x8 =>
callA v.1 [x8] fun f9 as10 =>
bothK (E f9 as10 h) fun x11 h12 =>
boolK x11 (
bothK (abuildSlice tab h12 26 1 [(0, x8)]) fun x13 h14 =>
bothK (aappend tab h14 26 26 v.2.1 x13) fun x15 h16 =>
valK (abin tab .add 3 v.2.2.2.2.1 (.int .i64 1)) fun x17 =>
next5_ (v.1, x15, v.2.2.1, v.2.2.2.1, x17, ()) ms h16) (
valK (abin tab .add 3 v.2.2.2.2.1 (.int .i64 1)) fun x18 =>
next5_ (v.1, v.2.1, v.2.2.1, v.2.2.2.1, x18, ()) ms h12)) (
hpK (unmark h ms) fun h19 =>
some (v.2.1, h19))
/-- whisk/graph.kept[int] (m, is) -/
noncomputable def F26 (E : Env) (n : Nat) (a0 a1 : AV) (h : AHeap) : Option (AV × AHeap) :=
bothK (E (.fn 45) [a0] h) fun x0 h1 =>
bothK (E (.fn 44) [x0] h1) fun x2 h3 =>
valK (alen tab h3 26 x2) fun x4 =>
loopN (F26_b3 E n) n (a1, (.nilslice), x2, x4, (.int .i64 0), ()) [] h3
theorem F26_eq (E : Env) (n : Nat) (a0 a1 : AV) (h : AHeap) : fnK E tab a26 26 n [a0, a1] h = F26 E n a0 a1 h := by kernel_rfl

/-- v: 5 out, 6 reach, 11, 12, 13 -/
noncomputable def F27_b5 (E : Env) (n : Nat) (v : AV × AV × AV × AV × AV × Unit) (ms : List Nat) (h : AHeap) (next11_ : AV × AV × AV × AV × AV × Unit → List Nat → AHeap → Option (AV × AHeap)) : Option (AV × AHeap) :=
valK (abin tab .lss 3 v.2.2.2.2.1 v.2.2.2.1) fun x12 =>
boolK x12 (
valK (aindexAddr tab 26 v.2.2.1 v.2.2.2.2.1) fun x13 =>
valK (loadA tab h 9 x13) fun x14 =>
valK (loadA tab h 62 v.2.1) fun x15 =>
callA x15 [x14] fun f16 as17 =>
bothK (E f16 as17 h) fun x18 h19 =>
valK (abin tab .add 3 v.2.2.2.2.1 (.int .i64 1)) fun x20 =>
next11_ (v.1, v.2.1, v.2.2.1, v.2.2.2.1, x20, ()) ms h19) (
valK (loadA tab h 46 v.1) fun x21 =>
hpK (unmark h ms) fun h22 =>
some (x21, h22))
/-- whisk/graph.reached (there, from) -/
noncomputable def F27 (E : Env) (n : Nat) (a0 a1 : AV) (h : AHeap) : Option (AV × AHeap) :=
bothK (boxA h a0) fun x0 h1 =>
bothK (newMapA h1) fun x2 h3 =>
bothK (newCells h3 [.nilmap] fun o => .ptr o 0) fun x4 h5 =>
hpK (storeA tab h5 46 x4 x2) fun h6 =>
bothK (newCells h6 [.nilfunc] fun o => .ptr o 0) fun x7 h8 =>
hpK (storeA tab h8 62 x7 (.func 46 [] [x0, x4, x7])) fun h9 =>
valK (alen tab h9 26 a1) fun x10 =>
loopN (F27_b5 E n) n (x4, x7, a1, x10, (.int .i64 0), ()) [] h9
theorem F27_eq (E : Env) (n : Nat) (a0 a1 : AV) (h : AHeap) : fnK E tab a27 27 n [a0, a1] h = F27 E n a0 a1 h := by kernel_rfl

/-- v: 3 out, 9, 10, 11 -/
noncomputable def F28_b3 (E : Env) (n : Nat) (v : AV × AV × AV × AV × Unit) (ms : List Nat) (h : AHeap) (next3_ : AV × AV × AV × AV × Unit → List Nat → AHeap → Option (AV × AHeap)) : Option (AV × AHeap) :=
valK (abin tab .lss 3 v.2.2.2.1 v.2.2.1) fun x4 =>
boolK x4 (
valK (aindexAddr tab 24 v.2.1 v.2.2.2.1) fun x5 =>
valK (loadA tab h 28 x5) fun x6 =>
bothK (newCells h [.str [], .nilslice, .str [], .str []] fun o => .ptr o 0) fun x7 h8 =>
hpK (storeA tab h8 28 x7 x6) fun h9 =>
valK (afieldAddr tab 28 x7 0) fun x10 =>
valK (loadA tab h9 9 x10) fun x11 =>
valK (alookup tab h9 48 v.1 x11 true) fun x12 =>
valK (extractA x12 0) fun x13 =>
valK (extractA x12 1) fun x14 =>
valK (aun .not x14) fun x15 =>
boolK x15 (
valK (afieldAddr tab 28 x7 0) fun x16 =>
valK (loadA tab h9 9 x16) fun x17 =>
valK (afieldAddr tab 28 x7 1) fun x18 =>
valK (loadA tab h9 26 x18) fun x19 =>
hpK (amapUpdate tab h9 48 v.1 x17 x19) fun h20 =>
valK (abin tab .add 3 v.2.2.2.1 (.int .i64 1)) fun x21 =>
next3_ (v.1, v.2.1, v.2.2.1, x21, ()) ms h20) (
valK (abin tab .add 3 v.2.2.2.1 (.int .i64 1)) fun x22 =>
next3_ (v.1, v.2.1, v.2.2.1, x22, ()) ms h9)) (
hpK (unmark h ms) fun h23 =>
some (v.1, h23))
/-- whisk/graph.refs (l) -/
noncomputable def F28 (E : Env) (n : Nat) (a0 : AV) (h : AHeap) : Option (AV × AHeap) :=
bothK (newMapA h) fun x0 h1 =>
valK (alen tab h1 24 a0) fun x2 =>
loopN (F28_b3 E n) n (x0, a0, x2, (.int .i64 0), ()) [] h1
theorem F28_eq (E : Env) (n : Nat) (a0 : AV) (h : AHeap) : fnK E tab a28 28 n [a0] h = F28 E n a0 h := by kernel_rfl

/-- whisk/graph.Closure$1 () -/
noncomputable def F29 (E : Env) (n : Nat) (a0 : AV) (h : AHeap) : Option (AV × AHeap) :=
some ((.bool true), h)
theorem F29_eq (E : Env) (n : Nat) (a0 : AV) (h : AHeap) : fnK E tab a29 29 n [a0] h = F29 E n a0 h := by kernel_rfl

/-- v: 1 is, 5 out, 10, 11, 12 -/
noncomputable def F30_b3 (E : Env) (n : Nat) (v : AV × AV × AV × AV × AV × Unit) (ms : List Nat) (h : AHeap) (next5_ : AV × AV × AV × AV × AV × Unit → List Nat → AHeap → Option (AV × AHeap)) : Option (AV × AHeap) :=
valK (abin tab .lss 3 v.2.2.2.2.1 v.2.2.2.1) fun x6 =>
boolK x6 (
valK (aindexAddr tab 26 v.2.2.1 v.2.2.2.2.1) fun x7 =>
valK (loadA tab h 9 x7) fun x8 =>
callA v.1 [x8] fun f9 as10 =>
bothK (E f9 as10 h) fun x11 h12 =>
boolK x11 (
bothK (abuildSlice tab h12 26 1 [(0, x8)]) fun x13 h14 =>
bothK (aappend tab h14 26 26 v.2.1 x13) fun x15 h16 =>
valK (abin tab .add 3 v.2.2.2.2.1 (.int .i64 1)) fun x17 =>
next5_ (v.1, x15, v.2.2.1, v.2.2.2.1, x17, ()) ms h16) (
valK (abin tab .add 3 v.2.2.2.2.1 (.int .i64 1)) fun x18 =>
next5_ (v.1, v.2.1, v.2.2.1, v.2.2.2.1, x18, ()) ms h12)) (
hpK (unmark h ms) fun h19 =>
some (v.2.1, h19))
/-- whisk/graph.kept[[]string] (m, is) -/
noncomputable def F30 (E : Env) (n : Nat) (a0 a1 : AV) (h : AHeap) : Option (AV × AHeap) :=
bothK (E (.fn 47) [a0] h) fun x0 h1 =>
bothK (E (.fn 44) [x0] h1) fun x2 h3 =>
valK (alen tab h3 26 x2) fun x4 =>
loopN (F30_b3 E n) n (a1, (.nilslice), x2, x4, (.int .i64 0), ()) [] h3
theorem F30_eq (E : Env) (n : Nat) (a0 a1 : AV) (h : AHeap) : fnK E tab a30 30 n [a0, a1] h = F30 E n a0 a1 h := by kernel_rfl

/-- whisk/graph.Dead$1 (path, ) -/
noncomputable def F31 (E : Env) (n : Nat) (a0 a1 : AV) (h : AHeap) : Option (AV × AHeap) :=
valK (loadA tab h 46 a1) fun x0 =>
valK (alookup tab h 46 x0 a0 false) fun x1 =>
valK (abin tab .eql 3 x1 (.int .i64 0)) fun x2 =>
some (x2, h)
theorem F31_eq (E : Env) (n : Nat) (a0 a1 : AV) (h : AHeap) : fnK E tab a31 31 n [a0, a1] h = F31 E n a0 a1 h := by kernel_rfl

/-- v: 0 l, 1 path, 5 i -/
noncomputable def F32_b2 (E : Env) (n : Nat) (v : AV × AV × AV × Unit) (ms : List Nat) (h : AHeap) (next0_ : AV × AV × AV × Unit → List Nat → AHeap → Option (AV × AHeap)) : Option (AV × AHeap) :=
valK (alen tab h 24 v.1) fun x1 =>
valK (abin tab .lss 3 v.2.2.1 x1) fun x2 =>
boolK x2 (
valK (aindexAddr tab 24 v.1 v.2.2.1) fun x3 =>
valK (afieldAddr tab 28 x3 0) fun x4 =>
valK (loadA tab h 9 x4) fun x5 =>
valK (abin tab .eql 9 x5 v.2.1) fun x6 =>
boolK x6 (
hpK (unmark h ms) fun h7 =>
some (v.2.2.1, h7)) (
valK (abin tab .add 3 v.2.2.1 (.int .i64 1)) fun x8 =>
next0_ (v.1, v.2.1, x8, ()) ms h)) (
hpK (unmark h ms) fun h9 =>
some ((.int .i64 (-1)), h9))
/-- whisk/whiskref25.find (l, path) -/
noncomputable def F32 (E : Env) (n : Nat) (a0 a1 : AV) (h : AHeap) : Option (AV × AHeap) :=
loopN (F32_b2 E n) n (a0, a1, (.int .i64 0), ()) [] h
theorem F32_eq (E : Env) (n : Nat) (a0 a1 : AV) (h : AHeap) : fnK E tab a32 32 n [a0, a1] h = F32 E n a0 a1 h := by kernel_rfl

/-- v: 0 l, 1 s, 5 at -/
noncomputable def F33_b2 (E : Env) (n : Nat) (j0_ : AV × AV × AV × Unit → List Nat → AHeap → Option (AV × AHeap)) (v : AV × AV × AV × Unit) (ms : List Nat) (h : AHeap) (next25_ : AV × AV × AV × Unit → List Nat → AHeap → Option (AV × AHeap)) : Option (AV × AHeap) :=
valK (alen tab h 26 v.1) fun x26 =>
valK (abin tab .lss 3 v.2.2.1 x26) fun x27 =>
boolK x27 (
valK (aindexAddr tab 26 v.1 v.2.2.1) fun x28 =>
valK (loadA tab h 9 x28) fun x29 =>
valK (abin tab .lss 9 x29 v.2.1) fun x30 =>
boolK x30 (
valK (abin tab .add 3 v.2.2.1 (.int .i64 1)) fun x31 =>
next25_ (v.1, v.2.1, x31, ()) ms h) (
j0_ (v.1, v.2.1, v.2.2.1, ()) ms h)) (
j0_ (v.1, v.2.1, v.2.2.1, ()) ms h)
/-- whisk/whiskref25.put (l, s) -/
noncomputable def F33 (E : Env) (n : Nat) (a0 a1 : AV) (h : AHeap) : Option (AV × AHeap) :=
jn (fun (v1 : AV × AV × AV × Unit) ms2 h3 =>
jn (fun (v5 : AV × AV × AV × Unit) ms6 h7 =>
valK (aslice tab 26 v5.1 none (some v5.2.2.1)) fun x8 =>
bothK (aappend tab h7 26 26 (.nilslice) x8) fun x9 h10 =>
bothK (abuildSlice tab h10 26 1 [(0, v5.2.1)]) fun x11 h12 =>
bothK (aappend tab h12 26 26 x9 x11) fun x13 h14 =>
valK (aslice tab 26 v5.1 (some v5.2.2.1) none) fun x15 =>
bothK (aappend tab h14 26 26 x13 x15) fun x16 h17 =>
hpK (unmark h17 ms6) fun h18 =>
some (x16, h18)) fun j4_ =>
valK (alen tab h3 26 v1.1) fun x19 =>
valK (abin tab .lss 3 v1.2.2.1 x19) fun x20 =>
boolK x20 (
valK (aindexAddr tab 26 v1.1 v1.2.2.1) fun x21 =>
valK (loadA tab h3 9 x21) fun x22 =>
valK (abin tab .eql 9 x22 v1.2.1) fun x23 =>
boolK x23 (
hpK (unmark h3 ms2) fun h24 =>
some (v1.1, h24)) (
j4_ (v1.1, v1.2.1, v1.2.2.1, ()) ms2 h3)) (
j4_ (v1.1, v1.2.1, v1.2.2.1, ()) ms2 h3)) fun j0_ =>
loopN (F33_b2 E n j0_) n (a0, a1, (.int .i64 0), ()) [] h
theorem F33_eq (E : Env) (n : Nat) (a0 a1 : AV) (h : AHeap) : fnK E tab a33 33 n [a0, a1] h = F33 E n a0 a1 h := by kernel_rfl

/-- v: 0 l, 3 out, 4 i -/
noncomputable def F34_b3 (E : Env) (n : Nat) (v : AV × AV × AV × Unit) (ms : List Nat) (h : AHeap) (next0_ : AV × AV × AV × Unit → List Nat → AHeap → Option (AV × AHeap)) : Option (AV × AHeap) :=
valK (alen tab h 24 v.1) fun x1 =>
valK (abin tab .lss 3 v.2.2.1 x1) fun x2 =>
boolK x2 (
valK (aindexAddr tab 24 v.1 v.2.2.1) fun x3 =>
valK (afieldAddr tab 28 x3 0) fun x4 =>
valK (loadA tab h 9 x4) fun x5 =>
bothK (E (.fn 33) [v.2.1, x5] h) fun x6 h7 =>
valK (abin tab .add 3 v.2.2.1 (.int .i64 1)) fun x8 =>
next0_ (v.1, x6, x8, ()) ms h7) (
hpK (unmark h ms) fun h9 =>
some (v.2.1, h9))
/-- whisk/whiskref25.All (l) -/
noncomputable def F34 (E : Env) (n : Nat) (a0 : AV) (h : AHeap) : Option (AV × AHeap) :=
loopN (F34_b3 E n) n (a0, (.nilslice), (.int .i64 0), ()) [] h
theorem F34_eq (E : Env) (n : Nat) (a0 : AV) (h : AHeap) : fnK E tab a34 34 n [a0] h = F34 E n a0 h := by kernel_rfl

/-- v: 0 l, 1 s, 5 i -/
noncomputable def F35_b2 (E : Env) (n : Nat) (v : AV × AV × AV × Unit) (ms : List Nat) (h : AHeap) (next0_ : AV × AV × AV × Unit → List Nat → AHeap → Option (AV × AHeap)) : Option (AV × AHeap) :=
valK (alen tab h 26 v.1) fun x1 =>
valK (abin tab .lss 3 v.2.2.1 x1) fun x2 =>
boolK x2 (
valK (aindexAddr tab 26 v.1 v.2.2.1) fun x3 =>
valK (loadA tab h 9 x3) fun x4 =>
valK (abin tab .eql 9 x4 v.2.1) fun x5 =>
boolK x5 (
hpK (unmark h ms) fun h6 =>
some ((.bool true), h6)) (
valK (abin tab .add 3 v.2.2.1 (.int .i64 1)) fun x7 =>
next0_ (v.1, v.2.1, x7, ()) ms h)) (
hpK (unmark h ms) fun h8 =>
some ((.bool false), h8))
/-- whisk/whiskref25.has (l, s) -/
noncomputable def F35 (E : Env) (n : Nat) (a0 a1 : AV) (h : AHeap) : Option (AV × AHeap) :=
loopN (F35_b2 E n) n (a0, a1, (.int .i64 0), ()) [] h
theorem F35_eq (E : Env) (n : Nat) (a0 a1 : AV) (h : AHeap) : fnK E tab a35 35 n [a0, a1] h = F35 E n a0 a1 h := by kernel_rfl

/-- whisk/graph.Order$1 (p, , ) -/
noncomputable def F37 (E : Env) (n : Nat) (a0 a1 a2 : AV) (h : AHeap) : Option (AV × AHeap) :=
bothK (boxA h a0) fun x0 h1 =>
valK (loadA tab h1 48 a1) fun x2 =>
valK (loadA tab h1 9 x0) fun x3 =>
valK (alookup tab h1 48 x2 x3 false) fun x4 =>
bothK (E (.fn 38) [x4, (.func 39 [] [a2, x0])] h1) fun x5 h6 =>
valK (aun .not x5) fun x7 =>
some (x7, h6)
theorem F37_eq (E : Env) (n : Nat) (a0 a1 a2 : AV) (h : AHeap) : fnK E tab a37 37 n [a0, a1, a2] h = F37 E n a0 a1 a2 h := by kernel_rfl

/-- slices.ContainsFunc[[]string,string] (s, f) -/
noncomputable def F38 (E : Env) (n : Nat) (a0 a1 : AV) (h : AHeap) : Option (AV × AHeap) :=
bothK (E (.fn 49) [a0, a1] h) fun x0 h1 =>
valK (abin tab .geq 3 x0 (.int .i64 0)) fun x2 =>
some (x2, h1)
theorem F38_eq (E : Env) (n : Nat) (a0 a1 : AV) (h : AHeap) : fnK E tab a38 38 n [a0, a1] h = F38 E n a0 a1 h := by kernel_rfl

/-- whisk/graph.Order$1$1 (q, , ) -/
noncomputable def F39 (E : Env) (n : Nat) (a0 a1 a2 : AV) (h : AHeap) : Option (AV × AHeap) :=
valK (loadA tab h 48 a1) fun x0 =>
valK (alookup tab h 48 x0 a0 true) fun x1 =>
valK (extractA x1 0) fun x2 =>
valK (extractA x1 1) fun x3 =>
boolK x3 (
valK (loadA tab h 9 a2) fun x4 =>
valK (abin tab .neq 9 a0 x4) fun x5 =>
some (x5, h)) (
some ((.bool false), h))
theorem F39_eq (E : Env) (n : Nat) (a0 a1 a2 : AV) (h : AHeap) : fnK E tab a39 39 n [a0, a1, a2] h = F39 E n a0 a1 a2 h := by kernel_rfl

/-- whisk/graph.Order$2 () -/
noncomputable def F40 (E : Env) (n : Nat) (a0 : AV) (h : AHeap) : Option (AV × AHeap) :=
some ((.bool true), h)
theorem F40_eq (E : Env) (n : Nat) (a0 : AV) (h : AHeap) : fnK E tab a40 40 n [a0] h = F40 E n a0 h := by kernel_rfl

/-- v: 0 l, 1 path, 2 come, 7 p, 8 k -/
noncomputable def F41_b3 (E : Env) (n : Nat) (v : AV × AV × AV × AV × AV × Unit) (ms : List Nat) (h : AHeap) (next7_ : AV × AV × AV × AV × AV × Unit → List Nat → AHeap → Option (AV × AHeap)) : Option (AV × AHeap) :=
valK (afieldAddr tab 28 v.2.2.2.1 1) fun x8 =>
valK (loadA tab h 26 x8) fun x9 =>
valK (alen tab h 26 x9) fun x10 =>
valK (abin tab .lss 3 v.2.2.2.2.1 x10) fun x11 =>
boolK x11 (
valK (afieldAddr tab 28 v.2.2.2.1 1) fun x12 =>
valK (loadA tab h 26 x12) fun x13 =>
valK (aindexAddr tab 26 x13 v.2.2.2.2.1) fun x14 =>
valK (loadA tab h 9 x14) fun x15 =>
valK (abin tab .neq 9 x15 v.2.1) fun x16 =>
boolK x16 (
valK (afieldAddr tab 28 v.2.2.2.1 1) fun x17 =>
valK (loadA tab h 26 x17) fun x18 =>
valK (aindexAddr tab 26 x18 v.2.2.2.2.1) fun x19 =>
valK (loadA tab h 9 x19) fun x20 =>
bothK (E (.fn 32) [v.1, x20] h) fun x21 h22 =>
valK (abin tab .geq 3 x21 (.int .i64 0)) fun x23 =>
boolK x23 (
valK (afieldAddr tab 28 v.2.2.2.1 1) fun x24 =>
valK (loadA tab h22 26 x24) fun x25 =>
valK (aindexAddr tab 26 x25 v.2.2.2.2.1) fun x26 =>
valK (loadA tab h22 9 x26) fun x27 =>
bothK (E (.fn 35) [v.2.2.1, x27] h22) fun x28 h29 =>
valK (aun .not x28) fun x30 =>
boolK x30 (
hpK (unmark h29 ms) fun h31 =>
some ((.bool false), h31)) (
valK (abin tab .add 3 v.2.2.2.2.1 (.int .i64 1)) fun x32 =>
next7_ (v.1, v.2.1, v.2.2.1, v.2.2.2.1, x32, ()) ms h29)) (
valK (abin tab .add 3 v.2.2.2.2.1 (.int .i64 1)) fun x33 =>
next7_ (v.1, v.2.1, v.2.2.1, v.2.2.2.1, x33, ()) ms h22)) (
valK (abin tab .add 3 v.2.2.2.2.1 (.int .i64 1)) fun x34 =>
next7_ (v.1, v.2.1, v.2.2.1, v.2.2.2.1, x34, ()) ms h)) (
hpK (unmark h ms) fun h35 =>
some ((.bool true), h35))
/-- whisk/whiskref25.ready (l, path, come) -/
noncomputable def F41 (E : Env) (n : Nat) (a0 a1 a2 : AV) (h : AHeap) : Option (AV × AHeap) :=
bothK (E (.fn 32) [a0, a1] h) fun x0 h1 =>
valK (aindexAddr tab 24 a0 x0) fun x2 =>
valK (loadA tab h1 28 x2) fun x3 =>
bothK (newCells h1 [.str [], .nilslice, .str [], .str []] fun o => .ptr o 0) fun x4 h5 =>
hpK (storeA tab h5 28 x4 x3) fun h6 =>
loopN (F41_b3 E n) n (a0, a1, a2, x4, (.int .i64 0), ()) [] h6
theorem F41_eq (E : Env) (n : Nat) (a0 a1 a2 : AV) (h : AHeap) : fnK E tab a41 41 n [a0, a1, a2] h = F41 E n a0 a1 a2 h := by kernel_rfl

/-- whisk/graph.Referrers$1 (p, , ) -/
noncomputable def F42 (E : Env) (n : Nat) (a0 a1 a2 : AV) (h : AHeap) : Option (AV × AHeap) :=
valK (loadA tab h 9 a1) fun x0 =>
valK (abin tab .neq 9 a0 x0) fun x1 =>
boolK x1 (
valK (loadA tab h 48 a2) fun x2 =>
valK (alookup tab h 48 x2 a0 false) fun x3 =>
valK (loadA tab h 9 a1) fun x4 =>
bothK (E (.fn 43) [x3, x4] h) fun x5 h6 =>
some (x5, h6)) (
some ((.bool false), h))
theorem F42_eq (E : Env) (n : Nat) (a0 a1 a2 : AV) (h : AHeap) : fnK E tab a42 42 n [a0, a1, a2] h = F42 E n a0 a1 a2 h := by kernel_rfl

/-- slices.Contains[[]string,string] (s, v) -/
noncomputable def F43 (E : Env) (n : Nat) (a0 a1 : AV) (h : AHeap) : Option (AV × AHeap) :=
bothK (E (.fn 50) [a0, a1] h) fun x0 h1 =>
valK (abin tab .geq 3 x0 (.int .i64 0)) fun x2 =>
some (x2, h1)
theorem F43_eq (E : Env) (n : Nat) (a0 a1 : AV) (h : AHeap) : fnK E tab a43 43 n [a0, a1] h = F43 E n a0 a1 h := by kernel_rfl

/-- v: 3, 25, 26, 27 -/
noncomputable def F46_b4 (E : Env) (n : Nat) (v : AV × AV × AV × AV × Unit) (ms : List Nat) (h : AHeap) (next11_ : AV × AV × AV × AV × Unit → List Nat → AHeap → Option (AV × AHeap)) : Option (AV × AHeap) :=
valK (abin tab .lss 3 v.2.2.2.1 v.2.2.1) fun x12 =>
boolK x12 (
valK (aindexAddr tab 26 v.2.1 v.2.2.2.1) fun x13 =>
valK (loadA tab h 9 x13) fun x14 =>
valK (loadA tab h 62 v.1) fun x15 =>
callA x15 [x14] fun f16 as17 =>
bothK (E f16 as17 h) fun x18 h19 =>
valK (abin tab .add 3 v.2.2.2.1 (.int .i64 1)) fun x20 =>
next11_ (v.1, v.2.1, v.2.2.1, x20, ()) ms h19) (
hpK (unmark h ms) fun h21 =>
some (.tuple [], h21))
/-- whisk/graph.reached$1 (path, , , ) -/
noncomputable def F46 (E : Env) (n : Nat) (a0 a1 a2 a3 : AV) (h : AHeap) : Option (AV × AHeap) :=
valK (loadA tab h 48 a1) fun x0 =>
valK (alookup tab h 48 x0 a0 true) fun x1 =>
valK (extractA x1 0) fun x2 =>
valK (extractA x1 1) fun x3 =>
jn (fun (v5 : AV × AV × AV × AV × Unit) ms6 h7 =>
valK (loadA tab h7 46 v5.2.1) fun x8 =>
hpK (amapUpdate tab h7 46 x8 v5.1 (.int .i64 1)) fun h9 =>
valK (alen tab h9 26 v5.2.2.2.1) fun x10 =>
loopN (F46_b4 E n) n (v5.2.2.1, v5.2.2.2.1, x10, (.int .i64 0), ()) ms6 h9) fun j4_ =>
valK (aun .not x3) fun x22 =>
boolK x22 (
some (.tuple [], h)) (
valK (loadA tab h 46 a2) fun x23 =>
valK (alookup tab h 46 x23 a0 false) fun x24 =>
valK (abin tab .gtr 3 x24 (.int .i64 0)) fun x25 =>
boolK x25 (
some (.tuple [], h)) (
j4_ (a0, a2, a3, x2, ()) [] h))
theorem F46_eq (E : Env) (n : Nat) (a0 a1 a2 a3 : AV) (h : AHeap) : fnK E tab a46 46 n [a0, a1, a2, a3] h = F46 E n a0 a1 a2 a3 h := by kernel_rfl

/-- v: 0 s, 1 f, 7, 8 -/
noncomputable def F49_b2 (E : Env) (n : Nat) (v : AV × AV × AV × AV × Unit) (ms : List Nat) (h : AHeap) (next1_ : AV × AV × AV × AV × Unit → List Nat → AHeap → Option (AV × AHeap)) : Option (AV × AHeap) :=
valK (abin tab .lss 3 v.2.2.2.1 v.2.2.1) fun x2 =>
boolK x2 (
valK (aindexAddr tab 26 v.1 v.2.2.2.1) fun x3 =>
valK (loadA tab h 9 x3) fun x4 =>
callA v.2.1 [x4] fun f5 as6 =>
bothK (E f5 as6 h) fun x7 h8 =>
boolK x7 (
hpK (unmark h8 ms) fun h9 =>
some (v.2.2.2.1, h9)) (
valK (abin tab .add 3 v.2.2.2.1 (.int .i64 1)) fun x10 =>
next1_ (v.1, v.2.1, v.2.2.1, x10, ()) ms h8)) (
hpK (unmark h ms) fun h11 =>
some ((.int .i64 (-1)), h11))
/-- slices.IndexFunc[[]string,string] (s, f) -/
noncomputable def F49 (E : Env) (n : Nat) (a0 a1 : AV) (h : AHeap) : Option (AV × AHeap) :=
valK (alen tab h 26 a0) fun x0 =>
loopN (F49_b2 E n) n (a0, a1, x0, (.int .i64 0), ()) [] h
theorem F49_eq (E : Env) (n : Nat) (a0 a1 : AV) (h : AHeap) : fnK E tab a49 49 n [a0, a1] h = F49 E n a0 a1 h := by kernel_rfl

/-- v: 0 s, 1 v, 7, 8 -/
noncomputable def F50_b2 (E : Env) (n : Nat) (v : AV × AV × AV × AV × Unit) (ms : List Nat) (h : AHeap) (next1_ : AV × AV × AV × AV × Unit → List Nat → AHeap → Option (AV × AHeap)) : Option (AV × AHeap) :=
valK (abin tab .lss 3 v.2.2.2.1 v.2.2.1) fun x2 =>
boolK x2 (
valK (aindexAddr tab 26 v.1 v.2.2.2.1) fun x3 =>
valK (loadA tab h 9 x3) fun x4 =>
valK (abin tab .eql 9 v.2.1 x4) fun x5 =>
boolK x5 (
hpK (unmark h ms) fun h6 =>
some (v.2.2.2.1, h6)) (
valK (abin tab .add 3 v.2.2.2.1 (.int .i64 1)) fun x7 =>
next1_ (v.1, v.2.1, v.2.2.1, x7, ()) ms h)) (
hpK (unmark h ms) fun h8 =>
some ((.int .i64 (-1)), h8))
/-- slices.Index[[]string,string] (s, v) -/
noncomputable def F50 (E : Env) (n : Nat) (a0 a1 : AV) (h : AHeap) : Option (AV × AHeap) :=
valK (alen tab h 26 a0) fun x0 =>
loopN (F50_b2 E n) n (a0, a1, x0, (.int .i64 0), ()) [] h
theorem F50_eq (E : Env) (n : Nat) (a0 a1 : AV) (h : AHeap) : fnK E tab a50 50 n [a0, a1] h = F50 E n a0 a1 h := by kernel_rfl


end Go.Am
