/-
  The seat's functions, in plain text: printed by wip/tools/Pretty.lean.
-/
import Derived.Test.YtcjjleelhaphkaaGreatDoorK1
import Derived.Test.YtcjjleelhaphkaaGreatDoorZkD1
set_option maxRecDepth 100000
set_option linter.unusedVariables false
set_option linter.unusedSimpArgs false
namespace Go.Am
open Go

/-- whisk/fs.may (path) -/
noncomputable def F143 (E : Env) (n : Nat) (a0 : AV) (h : AHeap) : Option (AV × AHeap) :=
valK (abin tab .eql 9 a0 (.str [])) fun x0 =>
boolK x0 (
some ((.int .i64 5), h)) (
valK (alen tab h 9 a0) fun x1 =>
valK (abin tab .gtr 3 x1 (.int .i64 255)) fun x2 =>
boolK x2 (
some ((.int .i64 3), h)) (
bothK (E (.fn 48) [a0, (.int .u8 0)] h) fun x3 h4 =>
valK (abin tab .geq 3 x3 (.int .i64 0)) fun x5 =>
boolK x5 (
some ((.int .i64 2), h4)) (
some ((.int .i64 0), h4))))
theorem F143_eq (E : Env) (n : Nat) (a0 : AV) (h : AHeap) : fnK E tab a143 143 n [a0] h = F143 E n a0 h := by kernel_rfl

/-- whisk/fs.names (path) -/
noncomputable def F144 (E : Env) (n : Nat) (a0 : AV) (h : AHeap) : Option (AV × AHeap) :=
bothK (boxA h a0) fun x0 h1 =>
some ((.func 181 [] [x0]), h1)
theorem F144_eq (E : Env) (n : Nat) (a0 : AV) (h : AHeap) : fnK E tab a144 144 n [a0] h = F144 E n a0 h := by kernel_rfl

/-- (*whisk/inode.Table).dir$1 (, ) -/
noncomputable def F145 (E : Env) (n : Nat) (a0 a1 : AV) (h : AHeap) : Option (AV × AHeap) :=
valK (loadA tab h 72 a0) fun x0 =>
valK (loadA tab h 3 a1) fun x1 =>
bothK (E (.fn 107) [x0, x1] h) fun x2 h3 =>
valK (abin tab .eql 140 x2 (.nilptr)) fun x4 =>
boolK x4 (
some ((.int .i64 5), h3)) (
valK (nilA x2) fun x5 =>
valK (afieldAddr tab 143 x5 0) fun x6 =>
valK (afieldAddr tab 43 x6 0) fun x7 =>
valK (loadA tab h3 3 x7) fun x8 =>
valK (abin tab .eql 3 x8 (.int .i64 2)) fun x9 =>
bothK (E (.fn 99) [x9, (.int .i64 8)] h3) fun x10 h11 =>
some (x10, h11))
theorem F145_eq (E : Env) (n : Nat) (a0 a1 : AV) (h : AHeap) : fnK E tab a145 145 n [a0, a1] h = F145 E n a0 a1 h := by kernel_rfl

/-- whisk/inode.named$1 () -/
noncomputable def F146 (E : Env) (n : Nat) (a0 : AV) (h : AHeap) : Option (AV × AHeap) :=
valK (loadA tab h 9 a0) fun x0 =>
valK (alen tab h 9 x0) fun x1 =>
valK (abin tab .gtr 3 x1 (.int .i64 56)) fun x2 =>
boolK x2 (
some ((.int .i64 3), h)) (
valK (loadA tab h 9 a0) fun x3 =>
valK (abin tab .neq 9 x3 (.str [])) fun x4 =>
boolK x4 (
valK (loadA tab h 9 a0) fun x5 =>
valK (abin tab .neq 9 x5 (.str [46])) fun x6 =>
boolK x6 (
valK (loadA tab h 9 a0) fun x7 =>
valK (abin tab .neq 9 x7 (.str [46, 46])) fun x8 =>
boolK x8 (
valK (loadA tab h 9 a0) fun x9 =>
bothK (E (.fn 147) [x9, (.str [47, 0])] h) fun x10 h11 =>
valK (aun .not x10) fun x12 =>
bothK (E (.fn 99) [x12, (.int .i64 2)] h11) fun x13 h14 =>
some (x13, h14)) (
bothK (E (.fn 99) [(.bool false), (.int .i64 2)] h) fun x15 h16 =>
some (x15, h16))) (
bothK (E (.fn 99) [(.bool false), (.int .i64 2)] h) fun x17 h18 =>
some (x17, h18))) (
bothK (E (.fn 99) [(.bool false), (.int .i64 2)] h) fun x19 h20 =>
some (x19, h20)))
theorem F146_eq (E : Env) (n : Nat) (a0 : AV) (h : AHeap) : fnK E tab a146 146 n [a0] h = F146 E n a0 h := by kernel_rfl

/-- (*whisk/inode.Table).free$1 (, , ) -/
noncomputable def F148 (E : Env) (n : Nat) (a0 a1 a2 : AV) (h : AHeap) : Option (AV × AHeap) :=
valK (loadA tab h 72 a0) fun x0 =>
valK (loadA tab h 3 a1) fun x1 =>
valK (loadA tab h 9 a2) fun x2 =>
bothK (E (.fn 85) [x0, x1, x2] h) fun x3 h4 =>
valK (extractA x3 0) fun x5 =>
valK (extractA x3 1) fun x6 =>
valK (aun .not x6) fun x7 =>
bothK (E (.fn 99) [x7, (.int .i64 6)] h4) fun x8 h9 =>
some (x8, h9)
theorem F148_eq (E : Env) (n : Nat) (a0 a1 a2 : AV) (h : AHeap) : fnK E tab a148 148 n [a0, a1, a2] h = F148 E n a0 a1 a2 h := by kernel_rfl

/-- (*whisk/inode.Table).room$1 (, , ) -/
noncomputable def F149 (E : Env) (n : Nat) (a0 a1 a2 : AV) (h : AHeap) : Option (AV × AHeap) :=
valK (loadA tab h 72 a0) fun x0 =>
valK (nilA x0) fun x1 =>
valK (afieldAddr tab 146 x1 1) fun x2 =>
valK (afieldAddr tab 25 x2 0) fun x3 =>
valK (loadA tab h 3 x3) fun x4 =>
valK (loadA tab h 3 a1) fun x5 =>
valK (abin tab .add 3 x4 x5) fun x6 =>
valK (loadA tab h 72 a0) fun x7 =>
valK (nilA x7) fun x8 =>
valK (afieldAddr tab 146 x8 0) fun x9 =>
valK (afieldAddr tab 25 x9 0) fun x10 =>
valK (loadA tab h 3 x10) fun x11 =>
valK (abin tab .leq 3 x6 x11) fun x12 =>
boolK x12 (
valK (loadA tab h 72 a0) fun x13 =>
valK (nilA x13) fun x14 =>
valK (afieldAddr tab 146 x14 1) fun x15 =>
valK (afieldAddr tab 25 x15 1) fun x16 =>
valK (loadA tab h 3 x16) fun x17 =>
valK (loadA tab h 3 a2) fun x18 =>
valK (abin tab .add 3 x17 x18) fun x19 =>
valK (loadA tab h 72 a0) fun x20 =>
valK (nilA x20) fun x21 =>
valK (afieldAddr tab 146 x21 0) fun x22 =>
valK (afieldAddr tab 25 x22 1) fun x23 =>
valK (loadA tab h 3 x23) fun x24 =>
valK (abin tab .leq 3 x19 x24) fun x25 =>
bothK (E (.fn 99) [x25, (.int .i64 10)] h) fun x26 h27 =>
some (x26, h27)) (
bothK (E (.fn 99) [(.bool false), (.int .i64 10)] h) fun x28 h29 =>
some (x28, h29))
theorem F149_eq (E : Env) (n : Nat) (a0 a1 a2 : AV) (h : AHeap) : fnK E tab a149 149 n [a0, a1, a2] h = F149 E n a0 a1 a2 h := by kernel_rfl

/-- (*whisk/inode.Table).file$1 (, ) -/
noncomputable def F150 (E : Env) (n : Nat) (a0 a1 : AV) (h : AHeap) : Option (AV × AHeap) :=
valK (loadA tab h 72 a0) fun x0 =>
valK (loadA tab h 3 a1) fun x1 =>
bothK (E (.fn 107) [x0, x1] h) fun x2 h3 =>
valK (abin tab .eql 140 x2 (.nilptr)) fun x4 =>
boolK x4 (
some ((.int .i64 5), h3)) (
valK (nilA x2) fun x5 =>
valK (afieldAddr tab 143 x5 0) fun x6 =>
valK (afieldAddr tab 43 x6 0) fun x7 =>
valK (loadA tab h3 3 x7) fun x8 =>
valK (abin tab .eql 3 x8 (.int .i64 2)) fun x9 =>
boolK x9 (
some ((.int .i64 7), h3)) (
valK (nilA x2) fun x10 =>
valK (afieldAddr tab 143 x10 0) fun x11 =>
valK (afieldAddr tab 43 x11 0) fun x12 =>
valK (loadA tab h3 3 x12) fun x13 =>
valK (abin tab .eql 3 x13 (.int .i64 1)) fun x14 =>
bothK (E (.fn 99) [x14, (.int .i64 2)] h3) fun x15 h16 =>
some (x15, h16)))
theorem F150_eq (E : Env) (n : Nat) (a0 a1 : AV) (h : AHeap) : fnK E tab a150 150 n [a0, a1] h = F150 E n a0 a1 h := by kernel_rfl

/-- v: 0 yield, 1, 2, 23, 24, 25 -/
noncomputable def F152_b4 (E : Env) (n : Nat) (v : AV × AV × AV × AV × AV × AV × Unit) (ms : List Nat) (h : AHeap) (next14_ : AV × AV × AV × AV × AV × AV × Unit → List Nat → AHeap → Option (AV × AHeap)) : Option (AV × AHeap) :=
valK (abin tab .lss 3 v.2.2.2.2.2.1 v.2.2.2.2.1) fun x15 =>
boolK x15 (
valK (aindexAddr tab 47 v.2.2.2.1 v.2.2.2.2.2.1) fun x16 =>
valK (loadA tab h 9 x16) fun x17 =>
valK (loadA tab h 90 v.2.1) fun x18 =>
valK (loadA tab h 9 v.2.2.1) fun x19 =>
bothK (newCells h [.str [], .int .i64 0, .bool false, .str [], .nilslice] fun o => .ptr o 0) fun x20 h21 =>
bothK (E (.fn 153) [x19, (.str [47])] h21) fun x22 h23 =>
valK (loadA tab h23 90 v.2.1) fun x24 =>
sameK x24 x18 (
valK (abin tab .add 9 x22 (.str [47])) fun x25 =>
valK (abin tab .add 9 x25 x17) fun x26 =>
bothK (E (.fn 53) [x18, x26] h23) fun x27 h28 =>
valK (extractA x27 0) fun x29 =>
valK (extractA x27 1) fun x30 =>
hpK (storeA tab h28 32 x20 x29) fun h31 =>
valK (afieldAddr tab 32 x20 0) fun x32 =>
hpK (storeA tab h31 9 x32 x17) fun h33 =>
valK (loadA tab h33 32 x20) fun x34 =>
callA v.1 [x34, x30] fun f35 as36 =>
bothK (E f35 as36 h33) fun x37 h38 =>
valK (aun .not x37) fun x39 =>
boolK x39 (
hpK (unmark h38 ms) fun h40 =>
some (.tuple [], h40)) (
valK (abin tab .neq 26 x30 (.int .i64 0)) fun x41 =>
boolK x41 (
hpK (unmark h38 ms) fun h42 =>
some (.tuple [], h42)) (
valK (abin tab .add 3 v.2.2.2.2.2.1 (.int .i64 1)) fun x43 =>
next14_ (v.1, v.2.1, v.2.2.1, v.2.2.2.1, v.2.2.2.2.1, x43, ()) ms h38)))) (
hpK (unmark h ms) fun h44 =>
some (.tuple [], h44))
/-- (whisk/canon.taker).kids$1 (yield, , ) -/
noncomputable def F152 (E : Env) (n : Nat) (a0 a1 a2 : AV) (h : AHeap) : Option (AV × AHeap) :=
valK (afieldAddr tab 90 a1 0) fun x0 =>
valK (loadA tab h 22 x0) fun x1 =>
valK (loadA tab h 9 a2) fun x2 =>
bothK (E (.fn 23) [x1, (.str [47]), x2] h) fun x3 h4 =>
valK (extractA x3 0) fun x5 =>
valK (extractA x3 1) fun x6 =>
valK (abin tab .neq 26 x6 (.int .i64 0)) fun x7 =>
boolK x7 (
valK (abuild tab 32 []) fun x8 =>
callA a0 [x8, x6] fun f9 as10 =>
bothK (E f9 as10 h4) fun x11 h12 =>
some (.tuple [], h12)) (
valK (alen tab h4 47 x5) fun x13 =>
loopN (F152_b4 E n) n (a0, a1, a2, x5, x13, (.int .i64 0), ()) [] h4)
theorem F152_eq (E : Env) (n : Nat) (a0 a1 a2 : AV) (h : AHeap) : fnK E tab a152 152 n [a0, a1, a2] h = F152 E n a0 a1 a2 h := by kernel_rfl

/-- strings.TrimSuffix (s, suffix) -/
noncomputable def F153 (E : Env) (n : Nat) (a0 a1 : AV) (h : AHeap) : Option (AV × AHeap) :=
bothK (E (.fn 184) [a0, a1] h) fun x0 h1 =>
some (x0, h1)
theorem F153_eq (E : Env) (n : Nat) (a0 a1 : AV) (h : AHeap) : fnK E tab a153 153 n [a0, a1] h = F153 E n a0 a1 h := by kernel_rfl

/-- whisk/tree.may$1 () -/
noncomputable def F154 (E : Env) (n : Nat) (a0 : AV) (h : AHeap) : Option (AV × AHeap) :=
valK (afieldAddr tab 32 a0 4) fun x0 =>
valK (loadA tab h 30 x0) fun x1 =>
valK (alen tab h 30 x1) fun x2 =>
valK (abin tab .eql 3 x2 (.int .i64 0)) fun x3 =>
some (x3, h)
theorem F154_eq (E : Env) (n : Nat) (a0 : AV) (h : AHeap) : fnK E tab a154 154 n [a0] h = F154 E n a0 h := by kernel_rfl

/-- whisk/tree.may$2 () -/
noncomputable def F155 (E : Env) (n : Nat) (a0 : AV) (h : AHeap) : Option (AV × AHeap) :=
valK (afieldAddr tab 32 a0 2) fun x0 =>
valK (loadA tab h 4 x0) fun x1 =>
valK (aun .not x1) fun x2 =>
some (x2, h)
theorem F155_eq (E : Env) (n : Nat) (a0 : AV) (h : AHeap) : fnK E tab a155 155 n [a0] h = F155 E n a0 h := by kernel_rfl

/-- whisk/tree.all (l) -/
noncomputable def F156 (E : Env) (n : Nat) (a0 : AV) (h : AHeap) : Option (AV × AHeap) :=
bothK (E (.fn 185) [a0, (.func 186 [] [])] h) fun x0 h1 =>
valK (aun .not x0) fun x2 =>
some (x2, h1)
theorem F156_eq (E : Env) (n : Nat) (a0 : AV) (h : AHeap) : fnK E tab a156 156 n [a0] h = F156 E n a0 h := by kernel_rfl

/-- whisk/tree.may$3 () -/
noncomputable def F157 (E : Env) (n : Nat) (a0 : AV) (h : AHeap) : Option (AV × AHeap) :=
valK (afieldAddr tab 32 a0 3) fun x0 =>
valK (loadA tab h 9 x0) fun x1 =>
valK (alen tab h 9 x1) fun x2 =>
valK (abin tab .geq 3 x2 (.int .i64 1)) fun x3 =>
boolK x3 (
valK (afieldAddr tab 32 a0 3) fun x4 =>
valK (loadA tab h 9 x4) fun x5 =>
valK (alen tab h 9 x5) fun x6 =>
valK (abin tab .leq 3 x6 (.int .i64 255)) fun x7 =>
boolK x7 (
valK (afieldAddr tab 32 a0 3) fun x8 =>
valK (loadA tab h 9 x8) fun x9 =>
bothK (E (.fn 48) [x9, (.int .u8 0)] h) fun x10 h11 =>
valK (abin tab .lss 3 x10 (.int .i64 0)) fun x12 =>
some (x12, h11)) (
some ((.bool false), h))) (
some ((.bool false), h))
theorem F157_eq (E : Env) (n : Nat) (a0 : AV) (h : AHeap) : fnK E tab a157 157 n [a0] h = F157 E n a0 h := by kernel_rfl

/-- whisk/tree.may$4 () -/
noncomputable def F158 (E : Env) (n : Nat) (a0 : AV) (h : AHeap) : Option (AV × AHeap) :=
valK (afieldAddr tab 32 a0 3) fun x0 =>
valK (loadA tab h 9 x0) fun x1 =>
valK (abin tab .eql 9 x1 (.str [])) fun x2 =>
some (x2, h)
theorem F158_eq (E : Env) (n : Nat) (a0 : AV) (h : AHeap) : fnK E tab a158 158 n [a0] h = F158 E n a0 h := by kernel_rfl

/-- v: 0, 5, 6, 7 -/
noncomputable def F159_b2 (E : Env) (n : Nat) (v : AV × AV × AV × AV × Unit) (ms : List Nat) (h : AHeap) (next3_ : AV × AV × AV × AV × Unit → List Nat → AHeap → Option (AV × AHeap)) : Option (AV × AHeap) :=
valK (abin tab .lss 3 v.2.2.2.1 v.2.2.1) fun x4 =>
boolK x4 (
valK (aindexAddr tab 30 v.2.1 v.2.2.2.1) fun x5 =>
valK (loadA tab h 32 x5) fun x6 =>
bothK (newCells h [.str [], .int .i64 0, .bool false, .str [], .nilslice] fun o => .ptr o 0) fun x7 h8 =>
hpK (storeA tab h8 32 x7 x6) fun h9 =>
valK (afieldAddr tab 32 x7 0) fun x10 =>
valK (loadA tab h9 9 x10) fun x11 =>
bothK (E (.fn 160) [x11] h9) fun x12 h13 =>
valK (aun .not x12) fun x14 =>
boolK x14 (
hpK (unmark h13 ms) fun h15 =>
some ((.bool false), h15)) (
valK (loadA tab h13 32 x7) fun x16 =>
bothK (E (.fn 114) [x16] h13) fun x17 h18 =>
valK (aun .not x17) fun x19 =>
boolK x19 (
hpK (unmark h18 ms) fun h20 =>
some ((.bool false), h20)) (
valK (abin tab .gtr 3 v.2.2.2.1 (.int .i64 0)) fun x21 =>
skipK x21 (
boolK (.tuple []) (
boolK (.tuple []) (
hpK (unmark h18 ms) fun h22 =>
some ((.bool false), h22)) (
valK (abin tab .add 3 v.2.2.2.1 (.int .i64 1)) fun x23 =>
next3_ (v.1, v.2.1, v.2.2.1, x23, ()) ms h18)) (
valK (abin tab .add 3 v.2.2.2.1 (.int .i64 1)) fun x24 =>
next3_ (v.1, v.2.1, v.2.2.1, x24, ()) ms h18)) (
boolK x21 (
valK (afieldAddr tab 32 v.1 4) fun x25 =>
valK (loadA tab h18 30 x25) fun x26 =>
valK (abin tab .sub 3 v.2.2.2.1 (.int .i64 1)) fun x27 =>
valK (aindexAddr tab 30 x26 x27) fun x28 =>
valK (afieldAddr tab 32 x28 0) fun x29 =>
valK (loadA tab h18 9 x29) fun x30 =>
valK (afieldAddr tab 32 x7 0) fun x31 =>
valK (loadA tab h18 9 x31) fun x32 =>
valK (abin tab .geq 9 x30 x32) fun x33 =>
boolK x33 (
hpK (unmark h18 ms) fun h34 =>
some ((.bool false), h34)) (
valK (abin tab .add 3 v.2.2.2.1 (.int .i64 1)) fun x35 =>
next3_ (v.1, v.2.1, v.2.2.1, x35, ()) ms h18)) (
valK (abin tab .add 3 v.2.2.2.1 (.int .i64 1)) fun x36 =>
next3_ (v.1, v.2.1, v.2.2.1, x36, ()) ms h18))))) (
hpK (unmark h ms) fun h37 =>
some ((.bool true), h37))
/-- whisk/tree.may$5 () -/
noncomputable def F159 (E : Env) (n : Nat) (a0 : AV) (h : AHeap) : Option (AV × AHeap) :=
valK (afieldAddr tab 32 a0 4) fun x0 =>
valK (loadA tab h 30 x0) fun x1 =>
valK (alen tab h 30 x1) fun x2 =>
loopN (F159_b2 E n) n (a0, x1, x2, (.int .i64 0), ()) [] h
theorem F159_eq (E : Env) (n : Nat) (a0 : AV) (h : AHeap) : fnK E tab a159 159 n [a0] h = F159 E n a0 h := by kernel_rfl

/-- whisk/tree.mayName (s) -/
noncomputable def F160 (E : Env) (n : Nat) (a0 : AV) (h : AHeap) : Option (AV × AHeap) :=
valK (alen tab h 9 a0) fun x0 =>
valK (abin tab .geq 3 x0 (.int .i64 1)) fun x1 =>
boolK x1 (
valK (alen tab h 9 a0) fun x2 =>
valK (abin tab .leq 3 x2 (.int .i64 56)) fun x3 =>
boolK x3 (
bothK (E (.fn 147) [a0, (.str [47, 0])] h) fun x4 h5 =>
valK (aun .not x4) fun x6 =>
boolK x6 (
valK (abin tab .neq 9 a0 (.str [46])) fun x7 =>
boolK x7 (
valK (abin tab .neq 9 a0 (.str [46, 46])) fun x8 =>
some (x8, h5)) (
some ((.bool false), h5))) (
some ((.bool false), h5))) (
some ((.bool false), h))) (
some ((.bool false), h))
theorem F160_eq (E : Env) (n : Nat) (a0 : AV) (h : AHeap) : fnK E tab a160 160 n [a0] h = F160 E n a0 h := by kernel_rfl

/-- v: 1 most, 5 d, 17, 18, 19 -/
noncomputable def F161_b5 (E : Env) (n : Nat) (v : AV × AV × AV × AV × AV × Unit) (ms : List Nat) (h : AHeap) (next9_ : AV × AV × AV × AV × AV × Unit → List Nat → AHeap → Option (AV × AHeap)) : Option (AV × AHeap) :=
valK (abin tab .lss 3 v.2.2.2.2.1 v.2.2.2.1) fun x10 =>
boolK x10 (
valK (aindexAddr tab 30 v.2.2.1 v.2.2.2.2.1) fun x11 =>
valK (loadA tab h 32 x11) fun x12 =>
bothK (newCells h [.str [], .int .i64 0, .bool false, .str [], .nilslice] fun o => .ptr o 0) fun x13 h14 =>
hpK (storeA tab h14 32 x13 x12) fun h15 =>
valK (loadA tab h15 32 x13) fun x16 =>
valK (abin tab .sub 3 v.1 (.int .i64 1)) fun x17 =>
bothK (E (.fn 161) [x16, x17] h15) fun x18 h19 =>
valK (abin tab .add 3 (.int .i64 1) x18) fun x20 =>
valK (amax v.2.1 x20) fun x21 =>
valK (abin tab .add 3 v.2.2.2.2.1 (.int .i64 1)) fun x22 =>
next9_ (v.1, x21, v.2.2.1, v.2.2.2.1, x22, ()) ms h19) (
hpK (unmark h ms) fun h23 =>
some (v.2.1, h23))
/-- whisk/tree.deep (n, most) -/
noncomputable def F161 (E : Env) (n : Nat) (a0 a1 : AV) (h : AHeap) : Option (AV × AHeap) :=
bothK (boxA h a0) fun x0 h1 =>
jn (fun (v3 : AV × AV × AV × Unit) (ms4 : List Nat) (h5 : AHeap) =>
valK (afieldAddr tab 32 v3.2.1 4) fun x6 =>
valK (loadA tab h5 30 x6) fun x7 =>
valK (alen tab h5 30 x7) fun x8 =>
loopN (F161_b5 E n) n (v3.1, v3.2.2.1, x7, x8, (.int .i64 0), ()) ms4 h5) fun j2_ =>
valK (afieldAddr tab 32 x0 1) fun x24 =>
valK (loadA tab h1 3 x24) fun x25 =>
valK (abin tab .neq 3 x25 (.int .i64 2)) fun x26 =>
boolK x26 (
some ((.int .i64 1), h1)) (
valK (abin tab .eql 3 a1 (.int .i64 1)) fun x27 =>
boolK x27 (
some ((.int .i64 1), h1)) (
j2_ (a1, x0, (.int .i64 1), ()) [] h1))
theorem F161_eq (E : Env) (n : Nat) (a0 a1 : AV) (h : AHeap) : fnK E tab a161 161 n [a0, a1] h = F161 E n a0 a1 h := by kernel_rfl

/-- (*whisk/inode.Table).entry$1 (, , ) -/
noncomputable def F165 (E : Env) (n : Nat) (a0 a1 a2 : AV) (h : AHeap) : Option (AV × AHeap) :=
valK (loadA tab h 72 a0) fun x0 =>
valK (loadA tab h 3 a1) fun x1 =>
valK (loadA tab h 9 a2) fun x2 =>
bothK (E (.fn 85) [x0, x1, x2] h) fun x3 h4 =>
valK (extractA x3 0) fun x5 =>
valK (extractA x3 1) fun x6 =>
bothK (E (.fn 99) [x6, (.int .i64 5)] h4) fun x7 h8 =>
some (x7, h8)
theorem F165_eq (E : Env) (n : Nat) (a0 a1 a2 : AV) (h : AHeap) : fnK E tab a165 165 n [a0, a1, a2] h = F165 E n a0 a1 a2 h := by kernel_rfl

noncomputable def F181_r4_as : Code := subCode [1, 1, 0, 1, 0, 0] ((Go.Proofs.Tryz.f181.body).getD .skip)
noncomputable def F181_r4_bd : Code := subCode [1, 1, 0, 1, 0, 1] ((Go.Proofs.Tryz.f181.body).getD .skip)
/-- a round; v: 2 yield, 3 ahead, 4 some -/
noncomputable def F181_r4 (E : Env) (n l : Nat) (v : AV × AV × AV × Unit) (x34 : AV) (h : AHeap) : Option (AV × AHeap) :=
loopAtK h l fun L35 => readyK L35 (
jn (fun (v38 : AV × AV × AV × AV × Unit) (ms39 : List Nat) (h40 : AHeap) =>
valK (loadA tab h40 4 v38.2.2.1) fun x41 =>
boolK x41 (
valK (loadA tab h40 227 v38.1) fun x42 =>
valK (loadA tab h40 9 v38.2.1) fun x43 =>
callA x42 [x43, (.bool false)] fun f44 as45 =>
bothK (E f44 as45 h40) fun x46 h47 =>
valK (aun .not x46) fun x48 =>
boolK x48 (
loopAtK h47 l fun L36 =>
some (.bool false, h47.put l (.loop { L36 with state := .done, pending := .ret }))) (
hpK (storeA tab h47 9 v38.2.1 v38.2.2.2.1) fun h49 =>
hpK (storeA tab h49 4 v38.2.2.1 (.bool true)) fun h50 =>
loopAtK h50 l fun L36 =>
some (.bool true, h50.put l (.loop { L36 with state := .ready, pending := .normal })))) (
hpK (storeA tab h40 9 v38.2.1 v38.2.2.2.1) fun h51 =>
hpK (storeA tab h51 4 v38.2.2.1 (.bool true)) fun h52 =>
loopAtK h52 l fun L36 =>
some (.bool true, h52.put l (.loop { L36 with state := .ready, pending := .normal })))) fun j37_ =>
valK (abin tab .eql 9 x34 (.str [])) fun x53 =>
boolK x53 (
loopAtK (h.put l (.loop { L35 with state := .busy })) l fun L36 =>
some (.bool true, (h.put l (.loop { L35 with state := .busy })).put l (.loop { L36 with state := .ready, pending := .normal }))) (
valK (abin tab .eql 9 x34 (.str [46])) fun x54 =>
boolK x54 (
loopAtK (h.put l (.loop { L35 with state := .busy })) l fun L36 =>
some (.bool true, (h.put l (.loop { L35 with state := .busy })).put l (.loop { L36 with state := .ready, pending := .normal }))) (
j37_ (v.1, v.2.1, v.2.2.1, x34, ()) [] (h.put l (.loop { L35 with state := .busy })))))
noncomputable def F181_r4_loop (st : ALoopState) (pd : AExit) (v : AV × AV × AV × Unit) : ALoop := { state := st, pending := pd, fn := 181, fr := emb [2, 3, 4] v, nt := 27, params := [8], assign := F181_r4_as, body := F181_r4_bd }
theorem F181_r4_eq (E : Env) (n l : Nat) (st : ALoopState) (pd : AExit) (v : AV × AV × AV × Unit) (x34 : AV) (h : AHeap) : roundK E tab a181 n l (F181_r4_loop st pd v) [x34] h = F181_r4 E n l v x34 h := by kernel_rfl
/-- whisk/fs.names$1 (yield, ) -/
noncomputable def F181 (E : Env) (n : Nat) (a0 a1 : AV) (h : AHeap) : Option (AV × AHeap) :=
bothK (boxA h a0) fun x0 h1 =>
bothK (newCells h1 [.str []] fun o => .ptr o 0) fun x2 h3 =>
bothK (newCells h3 [.bool false] fun o => .ptr o 0) fun x4 h5 =>
hpK (storeA tab h5 9 x2 (.str [])) fun h6 =>
hpK (storeA tab h6 4 x4 (.bool false)) fun h7 =>
valK (loadA tab h7 9 a1) fun x8 =>
bothK (E (.fn 182) [x8, (.str [47])] h7) fun x9 h10 =>
rangeK E 181 27 x9 [8] F181_r4_as F181_r4_bd (emb [2, 3, 4] (x0, x2, x4, ())) [] h10 fun e11 ms12 h13 => exitK e11 (
valK (loadA tab h13 4 x4) fun x15 =>
boolK x15 (
valK (loadA tab h13 227 x0) fun x16 =>
valK (loadA tab h13 9 x2) fun x17 =>
callA x16 [x17, (.bool true)] fun f18 as19 =>
bothK (E f18 as19 h13) fun x20 h21 =>
hpK (unmark h21 ms12) fun h22 =>
some (.tuple [], h22)) (
hpK (unmark h13 ms12) fun h23 =>
some (.tuple [], h23))) (fun id14 =>
bif Nat.beq id14 0 then (
valK (loadA tab h13 4 x4) fun x24 =>
boolK x24 (
valK (loadA tab h13 227 x0) fun x25 =>
valK (loadA tab h13 9 x2) fun x26 =>
callA x25 [x26, (.bool true)] fun f27 as28 =>
bothK (E f27 as28 h13) fun x29 h30 =>
hpK (unmark h30 ms12) fun h31 =>
some (.tuple [], h31)) (
hpK (unmark h13 ms12) fun h32 =>
some (.tuple [], h32))) else (
none)) (
hpK (unmark h13 ms12) fun h33 =>
some (.tuple [], h33))

/-- strings.SplitSeq (s, sep) -/
noncomputable def F182 (E : Env) (n : Nat) (a0 a1 : AV) (h : AHeap) : Option (AV × AHeap) :=
bothK (E (.fn 205) [a0, a1, (.int .i64 0)] h) fun x0 h1 =>
some (x0, h1)
theorem F182_eq (E : Env) (n : Nat) (a0 a1 : AV) (h : AHeap) : fnK E tab a182 182 n [a0, a1] h = F182 E n a0 a1 h := by kernel_rfl

/-- internal/stringslite.TrimSuffix (s, suffix) -/
noncomputable def F184 (E : Env) (n : Nat) (a0 a1 : AV) (h : AHeap) : Option (AV × AHeap) :=
bothK (E (.fn 210) [a0, a1] h) fun x0 h1 =>
boolK x0 (
valK (alen tab h1 9 a0) fun x2 =>
valK (alen tab h1 9 a1) fun x3 =>
valK (abin tab .sub 3 x2 x3) fun x4 =>
valK (aslice tab 9 a0 none (some x4)) fun x5 =>
some (x5, h1)) (
some (a0, h1))
theorem F184_eq (E : Env) (n : Nat) (a0 a1 : AV) (h : AHeap) : fnK E tab a184 184 n [a0, a1] h = F184 E n a0 a1 h := by kernel_rfl

/-- slices.ContainsFunc[[]func() bool,func() bool] (s, f) -/
noncomputable def F185 (E : Env) (n : Nat) (a0 a1 : AV) (h : AHeap) : Option (AV × AHeap) :=
bothK (E (.fn 211) [a0, a1] h) fun x0 h1 =>
valK (abin tab .geq 3 x0 (.int .i64 0)) fun x2 =>
some (x2, h1)
theorem F185_eq (E : Env) (n : Nat) (a0 a1 : AV) (h : AHeap) : fnK E tab a185 185 n [a0, a1] h = F185 E n a0 a1 h := by kernel_rfl

/-- whisk/tree.all$1 (is) -/
noncomputable def F186 (E : Env) (n : Nat) (a0 : AV) (h : AHeap) : Option (AV × AHeap) :=
callA a0 [] fun f0 as1 =>
bothK (E f0 as1 h) fun x2 h3 =>
valK (aun .not x2) fun x4 =>
some (x4, h3)
theorem F186_eq (E : Env) (n : Nat) (a0 : AV) (h : AHeap) : fnK E tab a186 186 n [a0] h = F186 E n a0 h := by kernel_rfl

/-- strings.splitSeq (s, sep, sepSave) -/
noncomputable def F205 (E : Env) (n : Nat) (a0 a1 a2 : AV) (h : AHeap) : Option (AV × AHeap) :=
bothK (boxA h a0) fun x0 h1 =>
bothK (boxA h1 a1) fun x2 h3 =>
bothK (boxA h3 a2) fun x4 h5 =>
some ((.func 219 [] [x2, x0, x4]), h5)
theorem F205_eq (E : Env) (n : Nat) (a0 a1 a2 : AV) (h : AHeap) : fnK E tab a205 205 n [a0, a1, a2] h = F205 E n a0 a1 a2 h := by kernel_rfl

/-- internal/stringslite.HasSuffix (s, suffix) -/
noncomputable def F210 (E : Env) (n : Nat) (a0 a1 : AV) (h : AHeap) : Option (AV × AHeap) :=
valK (alen tab h 9 a0) fun x0 =>
valK (alen tab h 9 a1) fun x1 =>
valK (abin tab .geq 3 x0 x1) fun x2 =>
boolK x2 (
valK (alen tab h 9 a0) fun x3 =>
valK (alen tab h 9 a1) fun x4 =>
valK (abin tab .sub 3 x3 x4) fun x5 =>
valK (aslice tab 9 a0 (some x5) none) fun x6 =>
valK (abin tab .eql 9 x6 a1) fun x7 =>
some (x7, h)) (
some ((.bool false), h))
theorem F210_eq (E : Env) (n : Nat) (a0 a1 : AV) (h : AHeap) : fnK E tab a210 210 n [a0, a1] h = F210 E n a0 a1 h := by kernel_rfl

/-- v: 0 s, 1 f, 7, 8 -/
noncomputable def F211_b2 (E : Env) (n : Nat) (v : AV × AV × AV × AV × Unit) (ms : List Nat) (h : AHeap) (next1_ : AV × AV × AV × AV × Unit → List Nat → AHeap → Option (AV × AHeap)) : Option (AV × AHeap) :=
valK (abin tab .lss 3 v.2.2.2.1 v.2.2.1) fun x2 =>
boolK x2 (
valK (aindexAddr tab 230 v.1 v.2.2.2.1) fun x3 =>
valK (loadA tab h 39 x3) fun x4 =>
callA v.2.1 [x4] fun f5 as6 =>
bothK (E f5 as6 h) fun x7 h8 =>
boolK x7 (
hpK (unmark h8 ms) fun h9 =>
some (v.2.2.2.1, h9)) (
valK (abin tab .add 3 v.2.2.2.1 (.int .i64 1)) fun x10 =>
next1_ (v.1, v.2.1, v.2.2.1, x10, ()) ms h8)) (
hpK (unmark h ms) fun h11 =>
some ((.int .i64 (-1)), h11))
/-- slices.IndexFunc[[]func() bool,func() bool] (s, f) -/
noncomputable def F211 (E : Env) (n : Nat) (a0 a1 : AV) (h : AHeap) : Option (AV × AHeap) :=
valK (alen tab h 230 a0) fun x0 =>
loopN (F211_b2 E n) n (a0, a1, x0, (.int .i64 0), ()) [] h
theorem F211_eq (E : Env) (n : Nat) (a0 a1 : AV) (h : AHeap) : fnK E tab a211 211 n [a0, a1] h = F211 E n a0 a1 h := by kernel_rfl

/-- v: 0 yield, 2 -/
noncomputable def F219_b1 (E : Env) (n : Nat) (v : AV × AV × Unit) (ms : List Nat) (h : AHeap) (next3_ : AV × AV × Unit → List Nat → AHeap → Option (AV × AHeap)) : Option (AV × AHeap) :=
valK (loadA tab h 9 v.2.1) fun x4 =>
valK (alen tab h 9 x4) fun x5 =>
valK (abin tab .gtr 3 x5 (.int .i64 0)) fun x6 =>
boolK x6 (
valK (loadA tab h 9 v.2.1) fun x7 =>
bothK (E (.fn 220) [x7] h) fun x8 h9 =>
valK (extractA x8 0) fun x10 =>
valK (extractA x8 1) fun x11 =>
valK (loadA tab h9 9 v.2.1) fun x12 =>
valK (aslice tab 9 x12 none (some x11)) fun x13 =>
callA v.1 [x13] fun f14 as15 =>
bothK (E f14 as15 h9) fun x16 h17 =>
valK (aun .not x16) fun x18 =>
boolK x18 (
hpK (unmark h17 ms) fun h19 =>
some (.tuple [], h19)) (
valK (loadA tab h17 9 v.2.1) fun x20 =>
valK (aslice tab 9 x20 (some x11) none) fun x21 =>
hpK (storeA tab h17 9 v.2.1 x21) fun h22 =>
next3_ (v.1, v.2.1, ()) ms h22)) (
hpK (unmark h ms) fun h23 =>
some (.tuple [], h23))
/-- v: 0 yield, 1, 2, 3 -/
noncomputable def F219_b5 (E : Env) (n : Nat) (v : AV × AV × AV × AV × Unit) (ms : List Nat) (h : AHeap) (next24_ : AV × AV × AV × AV × Unit → List Nat → AHeap → Option (AV × AHeap)) : Option (AV × AHeap) :=
valK (loadA tab h 9 v.2.2.1) fun x25 =>
valK (loadA tab h 9 v.2.1) fun x26 =>
bothK (E (.fn 221) [x25, x26] h) fun x27 h28 =>
valK (abin tab .lss 3 x27 (.int .i64 0)) fun x29 =>
boolK x29 (
valK (loadA tab h28 9 v.2.2.1) fun x30 =>
callA v.1 [x30] fun f31 as32 =>
bothK (E f31 as32 h28) fun x33 h34 =>
hpK (unmark h34 ms) fun h35 =>
some (.tuple [], h35)) (
valK (loadA tab h28 9 v.2.2.1) fun x36 =>
valK (loadA tab h28 3 v.2.2.2.1) fun x37 =>
valK (abin tab .add 3 x27 x37) fun x38 =>
valK (aslice tab 9 x36 none (some x38)) fun x39 =>
callA v.1 [x39] fun f40 as41 =>
bothK (E f40 as41 h28) fun x42 h43 =>
valK (aun .not x42) fun x44 =>
boolK x44 (
hpK (unmark h43 ms) fun h45 =>
some (.tuple [], h45)) (
valK (loadA tab h43 9 v.2.2.1) fun x46 =>
valK (loadA tab h43 9 v.2.1) fun x47 =>
valK (alen tab h43 9 x47) fun x48 =>
valK (abin tab .add 3 x27 x48) fun x49 =>
valK (aslice tab 9 x46 (some x49) none) fun x50 =>
hpK (storeA tab h43 9 v.2.2.1 x50) fun h51 =>
next24_ (v.1, v.2.1, v.2.2.1, v.2.2.2.1, ()) ms h51))
/-- strings.splitSeq$1 (yield, , , ) -/
noncomputable def F219 (E : Env) (n : Nat) (a0 a1 a2 a3 : AV) (h : AHeap) : Option (AV × AHeap) :=
valK (loadA tab h 9 a1) fun x0 =>
valK (alen tab h 9 x0) fun x1 =>
valK (abin tab .eql 3 x1 (.int .i64 0)) fun x2 =>
boolK x2 (
loopN (F219_b1 E n) n (a0, a2, ()) [] h) (
loopN (F219_b5 E n) n (a0, a1, a2, a3, ()) [] h)
theorem F219_eq (E : Env) (n : Nat) (a0 a1 a2 a3 : AV) (h : AHeap) : fnK E tab a219 219 n [a0, a1, a2, a3] h = F219 E n a0 a1 a2 a3 h := by kernel_rfl

/-- unicode/utf8.DecodeRuneInString (s) -/
noncomputable def F220 (E : Env) (n : Nat) (a0 : AV) (h : AHeap) : Option (AV × AHeap) :=
valK (abin tab .neq 9 a0 (.str [])) fun x0 =>
boolK x0 (
valK (aindex tab 9 a0 (.int .i64 0)) fun x1 =>
valK (abin tab .lss 5 x1 (.int .u8 128)) fun x2 =>
boolK x2 (
valK (aindex tab 9 a0 (.int .i64 0)) fun x3 =>
bothK (aconvert tab h 5 21 x3) fun x4 h5 =>
some (.tuple [x4, (.int .i64 1)], h5)) (
bothK (E (.fn 226) [a0] h) fun x6 h7 =>
valK (extractA x6 0) fun x8 =>
valK (extractA x6 1) fun x9 =>
some (.tuple [x8, x9], h7))) (
bothK (E (.fn 226) [a0] h) fun x10 h11 =>
valK (extractA x10 0) fun x12 =>
valK (extractA x10 1) fun x13 =>
some (.tuple [x12, x13], h11))
theorem F220_eq (E : Env) (n : Nat) (a0 : AV) (h : AHeap) : fnK E tab a220 220 n [a0] h = F220 E n a0 h := by kernel_rfl

/-- unicode/utf8.decodeRuneInStringSlow (s) -/
noncomputable def F226 (E : Env) (n : Nat) (a0 : AV) (h : AHeap) : Option (AV × AHeap) :=
valK (alen tab h 9 a0) fun x0 =>
valK (abin tab .lss 3 x0 (.int .i64 1)) fun x1 =>
boolK x1 (
some (.tuple [(.int .i32 65533), (.int .i64 0)], h)) (
valK (aindex tab 9 a0 (.int .i64 0)) fun x2 =>
none)
theorem F226_eq (E : Env) (n : Nat) (a0 : AV) (h : AHeap) : fnK E tab a226 226 n [a0] h = F226 E n a0 h := by kernel_rfl


end Go.Am
