/-
  inode: what is asked of a table.
-/
import Derived.Test.YtpofhpkdjcnhmaaInoO1
import Derived.Test.YtpofhpkdjcnhmaaT1
import Derived.Test.YtpofhpkdjcnhmaaL1
set_option linter.unusedVariables false
set_option linter.unusedSimpArgs false
namespace Go.Am
open Go Go.Proofs

theorem ltT {i n : Nat} (h : i < n) : decide ((i : Int) < (n : Int)) = true := by simp; omega
theorem ltF {i n : Nat} (h : ¬ i < n) : decide ((i : Int) < (n : Int)) = false := by simp; omega

/-! ### Types -/
theorem ty3 : tab.get 3 = some ⟨.int .i64, 1, 8, false, .int .i64 0⟩ := rfl
theorem ty9 : tab.get 9 = some ⟨.str, 1, 16, false, .str []⟩ := rfl
theorem ty23 : tab.get 23 = some ⟨.ptr, 1, 8, false, .nilptr⟩ := rfl
theorem ty62 : tab.get 62 = some ⟨.ptr, 1, 8, false, .nilptr⟩ := rfl
theorem ty63 : tab.get 63 = some ⟨.map 2 3, 1, 8, false, .nilmap⟩ := rfl
theorem ty66 : tab.get 66 = some ⟨.map 1 62, 1, 8, false, .nilmap⟩ := rfl
theorem ty72 : tab.get 72 = some ⟨.func, 1, 8, false, .nilfunc⟩ := rfl
theorem ty90 : tab.get 90 = some ⟨.slice 72, 1, 24, false, .nilslice⟩ := rfl

section
variable {o : Nat}
theorem fa68_0 : afieldAddr tab 68 (.ptr o 0) 0 = some (.ptr o 0) := rfl
theorem fa68_1 : afieldAddr tab 68 (.ptr o 0) 1 = some (.ptr o 2) := rfl
theorem fa68_2 : afieldAddr tab 68 (.ptr o 0) 2 = some (.ptr o 4) := rfl
theorem fa68_3 : afieldAddr tab 68 (.ptr o 0) 3 = some (.ptr o 5) := rfl
theorem fa26_00 : afieldAddr tab 26 (.ptr o 0) 0 = some (.ptr o 0) := rfl
theorem fa26_01 : afieldAddr tab 26 (.ptr o 0) 1 = some (.ptr o 1) := rfl
theorem fa26_20 : afieldAddr tab 26 (.ptr o 2) 0 = some (.ptr o 2) := rfl
theorem fa26_21 : afieldAddr tab 26 (.ptr o 2) 1 = some (.ptr o 3) := rfl
theorem fa65_0 : afieldAddr tab 65 (.ptr o 0) 0 = some (.ptr o 0) := rfl
theorem fa65_1 : afieldAddr tab 65 (.ptr o 0) 1 = some (.ptr o 4) := rfl
theorem fa65_2 : afieldAddr tab 65 (.ptr o 0) 2 = some (.ptr o 5) := rfl
theorem fa35_0 : afieldAddr tab 35 (.ptr o 0) 0 = some (.ptr o 0) := rfl
theorem fa35_1 : afieldAddr tab 35 (.ptr o 0) 1 = some (.ptr o 1) := rfl
theorem fa35_2 : afieldAddr tab 35 (.ptr o 0) 2 = some (.ptr o 2) := rfl
theorem fa35_3 : afieldAddr tab 35 (.ptr o 0) 3 = some (.ptr o 3) := rfl
theorem nil_ptr {i : Nat} : nilA (.ptr o i) = some (.ptr o i) := rfl
theorem eq23 {i : Nat} : abin tab .eql 23 (.ptr o i) .nilptr = some (.bool false) := rfl
theorem ne23 {i : Nat} : abin tab .neq 23 (.ptr o i) .nilptr = some (.bool true) := rfl
theorem eq62 {i : Nat} : abin tab .eql 62 (.ptr o i) .nilptr = some (.bool false) := rfl
theorem eq62n : abin tab .eql 62 .nilptr .nilptr = some (.bool true) := rfl
theorem ne62 {i : Nat} : abin tab .neq 62 (.ptr o i) .nilptr = some (.bool true) := rfl
theorem ne62n : abin tab .neq 62 .nilptr .nilptr = some (.bool false) := rfl
theorem alen9 {h : AHeap} {s : Bs} : alen tab h 9 (.str s) = some (.int .i64 s.length) := rfl
end

section
variable {S : Nat → Prop} {h : AHeap} {o : Nat} {tb : Tb} {L : Lay}

theorem TR.l_qi (a : TR S h o tb L) : loadA tab h 3 (.ptr o 0) = some (.int .i64 tb.qi) := loadA_cell ty3 rfl a.top rfl
theorem TR.l_qb (a : TR S h o tb L) : loadA tab h 3 (.ptr o 1) = some (.int .i64 tb.qb) := loadA_cell ty3 rfl a.top rfl
theorem TR.l_ui (a : TR S h o tb L) : loadA tab h 3 (.ptr o 2) = some (.int .i64 tb.ui) := loadA_cell ty3 rfl a.top rfl
theorem TR.l_ub (a : TR S h o tb L) : loadA tab h 3 (.ptr o 3) = some (.int .i64 tb.ub) := loadA_cell ty3 rfl a.top rfl
theorem TR.l_m (a : TR S h o tb L) : loadA tab h 66 (.ptr o 4) = some (.map L.m) := loadA_cell ty66 rfl a.top rfl
theorem TR.l_last (a : TR S h o tb L) : loadA tab h 3 (.ptr o 5) = some (.int .i64 tb.last) := loadA_cell ty3 rfl a.top rfl
theorem TR.l_kind (a : TR S h o tb L) {k : Int} {nd : Nd} (hk : tb.nodes k = some nd) : loadA tab h 3 (.ptr (L.place k) 0) = some (.int .i64 nd.kind) := loadA_cell ty3 rfl (a.node _ _ hk) rfl
theorem TR.l_mode (a : TR S h o tb L) {k : Int} {nd : Nd} (hk : tb.nodes k = some nd) : loadA tab h 3 (.ptr (L.place k) 1) = some (.int .i64 nd.mode) := loadA_cell ty3 rfl (a.node _ _ hk) rfl
theorem TR.l_data (a : TR S h o tb L) {k : Int} {nd : Nd} (hk : tb.nodes k = some nd) : loadA tab h 9 (.ptr (L.place k) 2) = some (.str nd.data) := loadA_cell ty9 rfl (a.node _ _ hk) rfl
theorem TR.l_links (a : TR S h o tb L) {k : Int} {nd : Nd} (hk : tb.nodes k = some nd) : loadA tab h 3 (.ptr (L.place k) 3) = some (.int .i64 nd.links) := loadA_cell ty3 rfl (a.node _ _ hk) rfl
theorem TR.l_up (a : TR S h o tb L) {k : Int} {nd : Nd} (hk : tb.nodes k = some nd) : loadA tab h 3 (.ptr (L.place k) 4) = some (.int .i64 nd.up) := loadA_cell ty3 rfl (a.node _ _ hk) rfl
theorem TR.l_ents (a : TR S h o tb L) {k : Int} {nd : Nd} (hk : tb.nodes k = some nd) : loadA tab h 63 (.ptr (L.place k) 5) = some (evOf L k nd) := loadA_cell ty63 rfl (a.node _ _ hk) rfl

theorem TR.look (a : TR S h o tb L) (k : Int) : alookup tab h 66 (.map L.m) (.int .i64 k) false = some (match tb.nodes k with | some _ => .ptr (L.place k) 0 | none => .nilptr) := by
  obtain ⟨l, c, q1, q2, q3⟩ := a.map
  rw [lookup_int ty66 ty62 q1 q2, q3]
  cases tb.nodes k <;> rfl
theorem TR.look_some (a : TR S h o tb L) {k : Int} {nd : Nd} (hk : tb.nodes k = some nd) : alookup tab h 66 (.map L.m) (.int .i64 k) false = some (.ptr (L.place k) 0) := by rw [a.look, hk]
theorem TR.look_none (a : TR S h o tb L) {k : Int} (hk : tb.nodes k = none) : alookup tab h 66 (.map L.m) (.int .i64 k) false = some .nilptr := by rw [a.look, hk]

/-- What a name names in a directory. -/
theorem TR.find (a : TR S h o tb L) {k : Int} {nd : Nd} (hk : tb.nodes k = some nd) (s : Bs) : alookup tab h 63 (evOf L k nd) (.str s) true = some (match getN s nd.ents with | some n => .tuple [.int .i64 n, .bool true] | none => .tuple [.int .i64 0, .bool false]) := by
  by_cases h2 : nd.kind = 2
  · obtain ⟨l, c, q1, q2, q3⟩ := a.ents k nd hk h2
    simp only [evOf, h2, if_true]
    rw [lookup_str ty63 ty3 q1, q2.get]
    cases getN s nd.ents <;> rfl
  · simp only [evOf, h2, if_false, a.noEnts k nd hk h2]
    rfl

theorem TR.len (a : TR S h o tb L) {k : Int} {nd : Nd} (hk : tb.nodes k = some nd) : alen tab h 63 (evOf L k nd) = some (.int .i64 nd.ents.length) := by
  by_cases h2 : nd.kind = 2
  · obtain ⟨l, c, q1, q2, q3⟩ := a.ents k nd hk h2
    simp only [evOf, h2, if_true]
    rw [len_map ty63 q1]
    have := q2.len
    simp only [strE, List.length_map, this]
  · simp only [evOf, h2, if_false, a.noEnts k nd hk h2]
    rfl

def ptrOf (tb : Tb) (L : Lay) (k : Int) : AV := match tb.nodes k with | some _ => .ptr (L.place k) 0 | none => .nilptr

theorem get_run (a : TR S h o tb L) (k : Int) : EG (.fn 35) [.ptr o 0, .int .i64 k] h = some (ptrOf tb L k, h) := by
  refine run35 0 ?_
  unfold F35
  simp only [eq23, valK_s, boolK_f, nil_ptr, fa68_2, a.l_m, a.look]
  rfl

def findT (tb : Tb) (k : Int) (s : Bs) : Option Int := match tb.nodes k with | some nd => getN s nd.ents | none => none
def intOf (x : Option Int) : AV := .int .i64 (match x with | some n => n | none => 0)

theorem find_run (a : TR S h o tb L) (k : Int) (s : Bs) : EG (.fn 13) [.ptr o 0, .int .i64 k, .str s] h = some (.tuple [intOf (findT tb k s), .bool (findT tb k s).isSome], h) := by
  refine run13 0 ?_
  unfold F13
  rw [get_run a k]
  cases hk : tb.nodes k with
  | none => simp only [ptrOf, hk, bothK_s, eq62n, valK_s, boolK_t, findT]; rfl
  | some nd =>
    simp only [ptrOf, hk, bothK_s, eq62, valK_s, boolK_f, nil_ptr, fa65_2, a.l_ents hk, a.find hk, findT]
    cases getN s nd.ents <;> rfl

/-- An inode as it is told. -/
def inoV (nd : Nd) : AV := .agg [.int .i64 nd.kind, .int .i64 nd.mode, .str nd.data, .int .i64 nd.links]
def ino0 : AV := .agg [.int .i64 0, .int .i64 0, .str [], .int .i64 0]
def nodeV (tb : Tb) (k : Int) : AV := match tb.nodes k with | some nd => inoV nd | none => ino0

theorem node_run (a : TR S h o tb L) (hw : h.WF) (k : Int) : ∃ h', EG (.fn 12) [.ptr o 0, .int .i64 k] h = some (.tuple [nodeV tb k, .bool (tb.nodes k).isSome], h') ∧ Ext h h' := by
  have x1 : Ext h (h.add (.cells [.int .i64 0, .int .i64 0, .str [], .int .i64 0] true)) := (Ext.refl hw).add _
  have a1 := a.ext x1
  have g1 : (h.add (.cells [.int .i64 0, .int .i64 0, .str [], .int .i64 0] true)).get h.next = some (.cells [.int .i64 0, .int .i64 0, .str [], .int .i64 0] true) := AHeap.get_add_self _ _
  have n0 : newCells h [.int .i64 0, .int .i64 0, .str [], .int .i64 0] (fun o => .ptr o 0) = some (.ptr h.next 0, h.add (.cells [.int .i64 0, .int .i64 0, .str [], .int .i64 0] true)) := rfl
  generalize hh1 : h.add (.cells [.int .i64 0, .int .i64 0, .str [], .int .i64 0] true) = h1 at *
  have st : ∀ xs : List AV, xs.length = 4 → allOne xs = true → storeA tab h1 35 (.ptr h.next 0) (.agg xs) = some (h1.put h.next (.cells xs true)) ∧ loadA tab (h1.put h.next (.cells xs true)) 35 (.ptr h.next 0) = some (.agg xs) ∧ Ext h (h1.put h.next (.cells xs true)) := fun xs hx ho => by
    match xs, hx with
    | [x0, x1', x2, x3], _ =>
      have t35 : ∃ ty, tab.get 35 = some ty ∧ ty.size = 4 ∧ ty.agg = true := ⟨_, rfl, rfl, rfl⟩
      obtain ⟨ty, t1, t2, t3⟩ := t35
      refine ⟨?_, ?_, x1.put hw.new g1 _⟩
      · simp only [storeA, astore, g1, t1, t2, AV.cells, ho]
        rfl
      · simp only [loadA, aload, AHeap.get_put_self, t1, t2, t3, cond_true]
        rfl
  cases hk : tb.nodes k with
  | none =>
    obtain ⟨s1, s2, s3⟩ := st [.int .i64 0, .int .i64 0, .str [], .int .i64 0] rfl rfl
    refine ⟨_, run12 0 ?_, s3⟩
    unfold F12
    have b : abuild tab 35 [] = some (.agg [.int .i64 0, .int .i64 0, .str [], .int .i64 0]) := rfl
    simp only [n0, bothK_s, get_run a1 k, ptrOf, hk, eq62n, valK_s, boolK_t, b, s1, s2, hpK_s, nodeV]
    rfl
  | some nd =>
    obtain ⟨s1, s2, s3⟩ := st [.int .i64 nd.kind, .int .i64 nd.mode, .str nd.data, .int .i64 nd.links] rfl rfl
    refine ⟨_, run12 0 ?_, s3⟩
    unfold F12
    have l1 : loadA tab h1 35 (.ptr (L.place k) 0) = some (.agg [.int .i64 nd.kind, .int .i64 nd.mode, .str nd.data, .int .i64 nd.links]) := by
      have t35 : ∃ ty, tab.get 35 = some ty ∧ ty.size = 4 ∧ ty.agg = true := ⟨_, rfl, rfl, rfl⟩
      obtain ⟨ty, t1, t2, t3⟩ := t35
      simp only [loadA, aload, a1.node k nd hk, t1, t2, t3, cond_true]
      rfl
    simp only [n0, bothK_s, get_run a1 k, ptrOf, hk, eq62, valK_s, boolK_f, nil_ptr, fa65_0, l1, s1, s2, hpK_s, nodeV, inoV]
    rfl

def upT (tb : Tb) (k : Int) : Int := match tb.nodes k with | some nd => nd.up | none => 0

theorem up_run (a : TR S h o tb L) (k : Int) : EG (.fn 18) [.ptr o 0, .int .i64 k] h = some (.int .i64 (upT tb k), h) := by
  refine run18 0 ?_
  unfold F18
  rw [get_run a k]
  cases hk : tb.nodes k with
  | none => simp only [ptrOf, hk, bothK_s, eq62n, valK_s, boolK_t, upT]
  | some nd => simp only [ptrOf, hk, bothK_s, eq62, valK_s, boolK_f, nil_ptr, fa65_1, a.l_up hk, upT]

/-- Two numbers in a cell of their own. -/
theorem quota_cell (hw : h.WF) {x y : Int} : ∃ h1 h2, newCells h [.int .i64 0, .int .i64 0] (fun o => .ptr o 0) = some (.ptr h.next 0, h1) ∧ Ext h h1 ∧ storeA tab h1 26 (.ptr h.next 0) (.agg [.int .i64 x, .int .i64 y]) = some h2 ∧ loadA tab h2 26 (.ptr h.next 0) = some (.agg [.int .i64 x, .int .i64 y]) ∧ Ext h h2 := by
  have x1 : Ext h (h.add (.cells [.int .i64 0, .int .i64 0] true)) := (Ext.refl hw).add _
  have g1 : (h.add (.cells [.int .i64 0, .int .i64 0] true)).get h.next = some (.cells [.int .i64 0, .int .i64 0] true) := AHeap.get_add_self _ _
  refine ⟨_, (h.add (.cells [.int .i64 0, .int .i64 0] true)).put h.next (.cells [.int .i64 x, .int .i64 y] true), rfl, x1, ?_, ?_, x1.put hw.new g1 _⟩
  · have t26 : ∃ ty, tab.get 26 = some ty ∧ ty.size = 2 ∧ ty.agg = true := ⟨_, rfl, rfl, rfl⟩
    obtain ⟨ty, t1, t2, t3⟩ := t26
    simp only [storeA, astore, g1, t1, t2, AV.cells]
    rfl
  · have t26 : ∃ ty, tab.get 26 = some ty ∧ ty.size = 2 ∧ ty.agg = true := ⟨_, rfl, rfl, rfl⟩
    obtain ⟨ty, t1, t2, t3⟩ := t26
    simp only [loadA, aload, AHeap.get_put_self, t1, t2, t3, cond_true]
    rfl

theorem TR.l_quota (a : TR S h o tb L) : loadA tab h 26 (.ptr o 0) = some (.agg [.int .i64 tb.qi, .int .i64 tb.qb]) := by
  have t26 : ∃ ty, tab.get 26 = some ty ∧ ty.size = 2 ∧ ty.agg = true := ⟨_, rfl, rfl, rfl⟩
  obtain ⟨ty, t1, t2, t3⟩ := t26
  simp only [loadA, aload, a.top, t1, t2, t3, cond_true]
  rfl
theorem TR.l_used (a : TR S h o tb L) : loadA tab h 26 (.ptr o 2) = some (.agg [.int .i64 tb.ui, .int .i64 tb.ub]) := by
  have t26 : ∃ ty, tab.get 26 = some ty ∧ ty.size = 2 ∧ ty.agg = true := ⟨_, rfl, rfl, rfl⟩
  obtain ⟨ty, t1, t2, t3⟩ := t26
  simp only [loadA, aload, a.top, t1, t2, t3, cond_true]
  rfl

theorem used_run (a : TR S h o tb L) (hw : h.WF) : ∃ h', EG (.fn 11) [.ptr o 0] h = some (.agg [.int .i64 tb.ui, .int .i64 tb.ub], h') ∧ Ext h h' := by
  obtain ⟨h1, h2, n0, x1, s1, l1, x2⟩ := quota_cell hw (x := tb.ui) (y := tb.ub)
  refine ⟨h2, run11 0 ?_, x2⟩
  unfold F11
  simp only [n0, bothK_s, eq23, valK_s, boolK_f, nil_ptr, fa68_1, (a.ext x1).l_used, s1, hpK_s, l1]

theorem quota_run (a : TR S h o tb L) (hw : h.WF) : ∃ h', EG (.fn 54) [.ptr o 0] h = some (.agg [.int .i64 tb.qi, .int .i64 tb.qb], h') ∧ Ext h h' := by
  obtain ⟨h1, h2, n0, x1, s1, l1, x2⟩ := quota_cell hw (x := tb.qi) (y := tb.qb)
  refine ⟨h2, run54 0 ?_, x2⟩
  unfold F54
  simp only [n0, bothK_s, eq23, valK_s, boolK_f, nil_ptr, fa68_0, (a.ext x1).l_quota, s1, hpK_s, l1]

theorem root_run (i : Nat) : EG (.fn 55) [.ptr o i] h = some (.int .i64 1, h) := by
  refine run55 0 ?_
  unfold F55
  simp only [eq23, valK_s, boolK_f]

/-- The names of a directory. -/
def namesT (tb : Tb) (k : Int) : List Bs := match tb.nodes k with | some nd => sortS (nd.ents.map (·.1)) | none => []

def SRow (h : AHeap) (v : AV) (l : List Bs) : Prop := Row h v l.length 1 (l.map .str)

theorem names_run (a : TR S h o tb L) (hw : h.WF) (k : Int) (hn : ∀ nd, tb.nodes k = some nd → nd.ents.length < 1000000000 ∧ ∀ e ∈ nd.ents, e.1.length < 1000000000000) :
    ∃ v h', EG (.fn 17) [.ptr o 0, .int .i64 k] h = some (v, h') ∧ SRow h' v (namesT tb k) ∧ Ext h h' := by
  cases hk : tb.nodes k with
  | none =>
    refine ⟨.nilslice, h, run17 0 ?_, ?_, Ext.refl hw⟩
    · unfold F17
      simp only [get_run a k, ptrOf, hk, bothK_s, eq62n, valK_s, boolK_t]
    · simp only [namesT, hk]; exact ⟨rfl, .inl ⟨rfl, rfl⟩⟩
  | some nd =>
    have x1 : ∀ x, Ext h (h.add x) := fun x => (Ext.refl hw).add x
    by_cases h2 : nd.kind = 2
    · obtain ⟨l, c, q1, q2, q3⟩ := a.ents k nd hk h2
      have kp : EG (.fn 39) [.map (L.ent k)] h = some (.func 66 [] [.ptr h.next 0], h.add (.keys (.map (L.ent k)))) := run_prim (f := 39) rfl rfl
      have g1 : (h.add (.keys (.map (L.ent k)))).get h.next = some (.keys (.map (L.ent k))) := AHeap.get_add_self _ _
      have g2 := (x1 (.keys (.map (L.ent k)))).keep _ _ q1
      have hks := keysOf_str l
      have hlen : l.length < 1000000000 := by rw [q2.len]; exact (hn nd hk).1
      have hall : (l.map (·.1)).all (fun s => Nat.blt s.length 1000000000000) = true := by
        rw [List.all_eq_true, q2.keys]
        intro s hs
        obtain ⟨e, he, rfl⟩ := List.mem_map.1 hs
        simpa using (hn nd hk).2 e he
      have key : ∃ v h', EG (.fn 38) [.func 66 [] [.ptr h.next 0]] (h.add (.keys (.map (L.ent k)))) = some (v, h') ∧ SRow h' v (sortS (nd.ents.map (·.1))) ∧ Ext h h' := by
        rw [← q2.keys]
        cases hl : l.map (·.1) with
        | nil =>
          refine ⟨.nilslice, h.add (.keys (.map (L.ent k))), run_prim (f := 38) rfl ?_, ⟨rfl, .inl ⟨rfl, rfl⟩⟩, x1 _⟩
          rw [hl] at hks
          simp only [sortedP, g1, g2, hks]; rfl
        | cons s0 ss =>
          rw [hl] at hks hall
          have hlen2 : (s0 :: ss).length < 1000000000 := by rw [← hl, List.length_map]; exact hlen
          have hb : (stampB c (strE l) && Nat.blt (s0 :: ss).length 1000000000 && (s0 :: ss).all (fun s => Nat.blt s.length 1000000000000)) = true := by
            rw [stampB_str q3, hall]
            simpa using hlen2
          refine ⟨_, _, run_prim (f := 38) rfl (show sortedP [66] EG [.func 66 [] [.ptr h.next 0]] _ = some (.slice (h.add (.keys (.map (L.ent k)))).next 0 (s0 :: ss).length 1, (h.add (.keys (.map (L.ent k)))).add (.cells ((sortS (s0 :: ss)).map .str) true)) from ?_), ?_, (x1 _).add _⟩
          · simp only [sortedP, g1, g2, hks, hb]; rfl
          · have hsl := sortS_len (s0 :: ss)
            refine ⟨by simp, .inr (.inr ⟨_, 0, _, true, by rw [hsl], AHeap.get_add_self _ _, by simp, fun j _ => by rw [Nat.zero_add]⟩)⟩
      obtain ⟨v, h', e1, e2, e3⟩ := key
      refine ⟨v, h', run17 0 ?_, ?_, e3⟩
      · unfold F17
        simp only [get_run a k, ptrOf, hk, bothK_s, eq62, valK_s, boolK_f, nil_ptr, fa65_2, a.l_ents hk, evOf, h2, if_true, kp, e1]
      · simp only [namesT, hk]; exact e2
    · have kp : EG (.fn 39) [.nilmap] h = some (.func 66 [] [.ptr h.next 0], h.add (.keys .nilmap)) := run_prim (f := 39) rfl rfl
      have g1 : (h.add (.keys .nilmap)).get h.next = some (.keys .nilmap) := AHeap.get_add_self _ _
      have sp : EG (.fn 38) [.func 66 [] [.ptr h.next 0]] (h.add (.keys .nilmap)) = some (.nilslice, h.add (.keys .nilmap)) := run_prim (f := 38) rfl (by simp only [sortedP, g1]; rfl)
      refine ⟨.nilslice, h.add (.keys .nilmap), run17 0 ?_, ?_, x1 _⟩
      · unfold F17
        simp only [get_run a k, ptrOf, hk, bothK_s, eq62, valK_s, boolK_f, nil_ptr, fa65_2, a.l_ents hk, evOf, h2, if_false, kp, sp]
      · simp only [namesT, hk, a.noEnts k nd hk h2]; exact ⟨rfl, .inl ⟨rfl, rfl⟩⟩
end

/-! ### What is asked, one behind the other -/

/-- A function that tells an error's number, and changes nothing. -/
def Ask (h : AHeap) (f : AV) (e : Int) : Prop := ∃ g p c, f = .func g p c ∧ ∀ h', Ext h h' → ∃ h'', EG (.fn g) (p ++ c) h' = some (.int .i64 e, h'') ∧ Ext h' h''

def Asks (h : AHeap) : List AV → List Int → Prop
  | [], [] => True
  | f :: fs, e :: es => Ask h f e ∧ (e = 0 → Asks h fs es)
  | _, _ => False

def firstE : List Int → Int
  | [] => 0
  | e :: es => if e = 0 then firstE es else e

theorem Ask.ext {h h1 : AHeap} {f : AV} {e : Int} (a : Ask h f e) (x : Ext h h1) : Ask h1 f e := by
  obtain ⟨g, p, c, rfl, q⟩ := a
  exact ⟨g, p, c, rfl, fun h' x' => q h' (x.trans x')⟩

theorem Asks.ext {h h1 : AHeap} : ∀ {fs : List AV} {es : List Int}, Asks h fs es → Ext h h1 → Asks h1 fs es
  | [], [], _, _ => trivial
  | f :: fs, e :: es, ⟨a, b⟩, x => ⟨a.ext x, fun h0 => (b h0).ext x⟩

theorem must_run {h : AHeap} (b : Bool) (e : Int) : EG (.fn 25) [.bool b, .int .i64 e] h = some (.int .i64 (if b = true then 0 else e), h) := by
  refine run25 0 ?_
  unfold F25
  cases b <;> simp

theorem first_run {h : AHeap} {v : AV} {fs : List AV} {es : List Int} (a : Asks h fs es) (r : Row h v fs.length 1 fs) (hfn : fs.length < 1000) (hw : h.WF) : ∃ h', EG (.fn 26) [v] h = some (.int .i64 (firstE es), h') ∧ Ext h h' := by
  suffices ∀ N, fs.length < N → ∃ h', F26 EG N v h = some (.int .i64 (firstE es), h') ∧ Ext h h' by
    obtain ⟨h', e, x⟩ := this (fs.length + 1) (by omega)
    exact ⟨h', run26 _ e, x⟩
  intro N hN
  unfold F26
  rw [r.len ty90]
  simp only [valK_s]
  refine loop_rule (σ := AV × AV × AV × Unit) (R := AV × AHeap) (total := fs.length)
    (I := fun i st hh => i ≤ fs.length ∧ Ext h hh ∧ st = (v, .int .i64 (fs.length : Int), .int .i64 (i : Int), ()) ∧ i < 4611686018427387904 ∧ ∃ es', Asks h (fs.drop i) es' ∧ firstE es' = firstE es)
    (Q := fun o => ∃ h', o = some (.int .i64 (firstE es), h') ∧ Ext h h') ?_ N 0 _ _ ⟨by omega, Ext.refl hw, rfl, by omega, es, a, rfl⟩ (by omega) (by omega)
  rintro i st hh nx ⟨hi, hx, rfl, hi2, es', h1, h2⟩
  simp only [F26_b2, abin_lss, valK_s]
  by_cases hlt : i < fs.length
  · have hd : fs.drop i = fs[i] :: fs.drop (i + 1) := List.drop_eq_getElem_cons hlt
    rw [hd] at h1
    match es', h1 with
    | e :: es', ⟨⟨g, pp, c, hf, q⟩, q2⟩ =>
      obtain ⟨p, b1, b2⟩ := (r.ext hx).get1 ty90 ty72 rfl rfl (List.getElem?_eq_getElem hlt) (k := .i64)
      obtain ⟨h3, b3, b4⟩ := q hh hx
      simp only [ltT hlt, boolK_t, b1, b2, valK_s, hf, callA_func, List.nil_append, b3, bothK_s, abin_neq]
      by_cases he : e = 0
      · left
        subst he
        simp only [decide_true, Bool.not_true, boolK_f, abin_inc hi2, valK_s]
        exact ⟨hlt, _, _, rfl, by omega, hx.trans b4, rfl, by omega, es', q2 rfl, by simpa [firstE] using h2⟩
      · right
        simp only [decide_eq_false he, Bool.not_false, boolK_t, unmark_nil, hpK_s]
        refine ⟨_, ?_, hx.trans b4⟩
        rw [← h2]
        simp [firstE, he]
  · right
    have : fs.drop i = [] := List.drop_of_length_le (by omega)
    rw [this] at h1
    match es', h1 with
    | [], _ =>
      simp only [ltF hlt, boolK_f, unmark_nil, hpK_s]
      exact ⟨_, by rw [← h2]; rfl, hx⟩

end Go.Am
