/-
  inode: New, Make.
-/
import Derived.Test.YtpofhpkdjcnhmaaT3
set_option linter.unusedVariables false
set_option linter.unusedSimpArgs false
namespace Go.Am
open Go Go.Proofs

/-! ### Stores -/
section
variable {S : Nat → Prop} {h : AHeap} {o : Nat} {tb : Tb} {L : Lay}

theorem TR.s_ui (a : TR S h o tb L) (n : Int) : storeA tab h 3 (.ptr o 2) (.int .i64 n) = some (h.put o (.cells (tbCells L { tb with ui := n }) true)) := by
  simp only [storeA, astore, a.top, ty3]; rfl
theorem TR.s_ub (a : TR S h o tb L) (n : Int) : storeA tab h 3 (.ptr o 3) (.int .i64 n) = some (h.put o (.cells (tbCells L { tb with ub := n }) true)) := by
  simp only [storeA, astore, a.top, ty3]; rfl
theorem TR.s_last (a : TR S h o tb L) (n : Int) : storeA tab h 3 (.ptr o 5) (.int .i64 n) = some (h.put o (.cells (tbCells L { tb with last := n }) true)) := by
  simp only [storeA, astore, a.top, ty3]; rfl
theorem TR.s_mode (a : TR S h o tb L) {k : Int} {nd : Nd} (hk : tb.nodes k = some nd) (n : Int) : storeA tab h 3 (.ptr (L.place k) 1) (.int .i64 n) = some (h.put (L.place k) (.cells (ndCells L k { nd with mode := n }) true)) := by
  simp only [storeA, astore, a.node k nd hk, ty3, ndCells, evOf]
  by_cases h2 : nd.kind = 2 <;> simp only [h2, if_true, if_false] <;> rfl
theorem TR.s_data (a : TR S h o tb L) {k : Int} {nd : Nd} (hk : tb.nodes k = some nd) (s : Bs) : storeA tab h 9 (.ptr (L.place k) 2) (.str s) = some (h.put (L.place k) (.cells (ndCells L k { nd with data := s }) true)) := by
  simp only [storeA, astore, a.node k nd hk, ty9, ndCells, evOf]
  by_cases h2 : nd.kind = 2 <;> simp only [h2, if_true, if_false] <;> rfl
theorem TR.s_links (a : TR S h o tb L) {k : Int} {nd : Nd} (hk : tb.nodes k = some nd) (n : Int) : storeA tab h 3 (.ptr (L.place k) 3) (.int .i64 n) = some (h.put (L.place k) (.cells (ndCells L k { nd with links := n }) true)) := by
  simp only [storeA, astore, a.node k nd hk, ty3, ndCells, evOf]
  by_cases h2 : nd.kind = 2 <;> simp only [h2, if_true, if_false] <;> rfl
theorem TR.s_up (a : TR S h o tb L) {k : Int} {nd : Nd} (hk : tb.nodes k = some nd) (n : Int) : storeA tab h 3 (.ptr (L.place k) 4) (.int .i64 n) = some (h.put (L.place k) (.cells (ndCells L k { nd with up := n }) true)) := by
  simp only [storeA, astore, a.node k nd hk, ty3, ndCells, evOf]
  by_cases h2 : nd.kind = 2 <;> simp only [h2, if_true, if_false] <;> rfl

/-- What is not the table's stays when the table's is put over. -/
theorem keepP {b x : Nat} {y z : AObj} (g : h.get b = some y) (hb : ¬ S b) (hx : S x) : (h.put x z).get b = some y := by
  rw [AHeap.get_put_ne _ _ (show b ≠ x from fun e => hb (e ▸ hx))]; exact g

theorem TR.not_new (a : TR S h o tb L) {b : Nat} (hb : h.get b = none) : ¬ S b := fun hs => a.there b hs hb

theorem dirE_zero {k : Int} (h0 : dirE tb k = 0) : ∃ nd, tb.nodes k = some nd ∧ nd.kind = 2 := by
  unfold dirE at h0
  cases hk : tb.nodes k with
  | none => rw [hk] at h0; simp at h0
  | some nd =>
    rw [hk] at h0
    simp only at h0
    split at h0
    · exact ⟨nd, rfl, by assumption⟩
    · simp at h0
theorem fileE_zero {k : Int} (h0 : fileE tb k = 0) : ∃ nd, tb.nodes k = some nd ∧ nd.kind = 1 := by
  unfold fileE at h0
  cases hk : tb.nodes k with
  | none => rw [hk] at h0; simp at h0
  | some nd =>
    rw [hk] at h0
    simp only at h0
    split at h0
    · simp at h0
    · split at h0
      · exact ⟨nd, rfl, by assumption⟩
      · simp at h0
theorem freeE_zero {k : Int} {s : Bs} (h0 : freeE tb k s = 0) : findT tb k s = none := by
  unfold freeE at h0
  cases h1 : findT tb k s with
  | none => rfl
  | some n => rw [h1] at h0; simp at h0
theorem entryE_zero {k : Int} {s : Bs} (h0 : entryE tb k s = 0) : ∃ n, findT tb k s = some n := by
  unfold entryE at h0
  cases h1 : findT tb k s with
  | none => rw [h1] at h0; simp at h0
  | some n => exact ⟨n, rfl⟩
theorem findT_some {k : Int} {nd : Nd} (hk : tb.nodes k = some nd) (s : Bs) : findT tb k s = getN s nd.ents := by simp only [findT, hk]
theorem firstE_zero : ∀ {es : List Int}, firstE es = 0 ↔ ∀ e ∈ es, e = 0
  | [] => by simp [firstE]
  | e :: es => by
    simp only [firstE]
    by_cases h : e = 0
    · simp [h, firstE_zero (es := es)]
    · simp [h]

/-- A new name in a directory. -/
theorem TR.enter (a : TR S h o tb L) {k : Int} {nd : Nd} (hk : tb.nodes k = some nd) (h2 : nd.kind = 2) {s : Bs} (hs : getN s nd.ents = none) (n : Int) :
    ∃ y, amapUpdate tab h 63 (.map (L.ent k)) (.str s) (.int .i64 n) = some (h.put (L.ent k) y) ∧ (∃ z, h.get (L.ent k) = some z) ∧ TR S (h.put (L.ent k) y) o { tb with nodes := upd tb.nodes k (some { nd with ents := nd.ents ++ [(s, n)] }) } L := by
  obtain ⟨l, c, q1, q2, q3⟩ := a.ents k nd hk h2
  have hno : hasS s l = false := by rw [q2.has, hs]; rfl
  refine ⟨.map (strE (l ++ [(s, .int .i64 n, c)])) (c + 1), ?_, ⟨_, q1⟩, a.setEnts hk h2 (q2.add s n c) (q3.add hno _)⟩
  rw [update_str ty63 q1, hno, setS_new hno]; rfl

/-- A name that goes. -/
theorem TR.leave (a : TR S h o tb L) {k : Int} {nd : Nd} (hk : tb.nodes k = some nd) (h2 : nd.kind = 2) (s : Bs) :
    ∃ y, adelete tab h 63 (.map (L.ent k)) (.str s) = some (h.put (L.ent k) y) ∧ (∃ z, h.get (L.ent k) = some z) ∧ TR S (h.put (L.ent k) y) o { tb with nodes := upd tb.nodes k (some { nd with ents := delN s nd.ents }) } L := by
  obtain ⟨l, c, q1, q2, q3⟩ := a.ents k nd hk h2
  exact ⟨.map (strE (delS s l)) c, delete_str ty63 q1 q3.nodup, ⟨_, q1⟩, a.setEnts hk h2 q2.del (q3.sub _)⟩
end

/-! ### New -/

def newT (qi qb : Int) : Option Tb := if qi < 1 ∨ 1048576 < qi ∨ qb < 0 ∨ 1073741824 < qb then none else some ⟨qi, qb, 1, 0, 1, upd (fun _ => none) 1 (some ⟨2, 493, [], 1, 1, []⟩)⟩

theorem new_run {h : AHeap} (hw : h.WF) (qi qb : Int) : ∃ h', Ext h h' ∧ match newT qi qb with
    | none => EG (.fn 7) [.agg [.int .i64 qi, .int .i64 qb]] h = some (.nilptr, h')
    | some tb => ∃ S o L, EG (.fn 7) [.agg [.int .i64 qi, .int .i64 qb]] h = some (.ptr o 0, h') ∧ TR S h' o tb L ∧ ∀ j, S j → h.get j = none := by
  have b0 : boxA h (.agg [.int .i64 qi, .int .i64 qb]) = some (.ptr h.next 0, h.add (.cells [.int .i64 qi, .int .i64 qb] true)) := rfl
  have g0 : (h.add (.cells [.int .i64 qi, .int .i64 qb] true)).get h.next = some (.cells [.int .i64 qi, .int .i64 qb] true) := AHeap.get_add_self _ _
  have x0 := (Ext.refl hw).add (.cells [.int .i64 qi, .int .i64 qb] true)
  generalize hh1 : h.add (.cells [.int .i64 qi, .int .i64 qb] true) = h1 at b0 g0 x0
  have l0 : loadA tab h1 3 (.ptr h.next 0) = some (.int .i64 qi) := loadA_cell ty3 rfl g0 rfl
  have l1 : loadA tab h1 3 (.ptr h.next 1) = some (.int .i64 qb) := loadA_cell ty3 rfl g0 rfl
  by_cases hc : qi < 1 ∨ 1048576 < qi ∨ qb < 0 ∨ 1073741824 < qb
  · refine ⟨h1, x0, ?_⟩
    simp only [newT, hc, if_true]
    refine run7 0 ?_
    unfold F7
    simp only [b0, bothK_s, jn_a, fa26_00, fa26_01, l0, l1, valK_s, abin_lss, abin_gtr]
    by_cases c1 : qi < 1
    · simp only [decide_eq_true c1, boolK_t]
    · by_cases c2 : 1048576 < qi
      · simp only [decide_eq_false c1, boolK_f, decide_eq_true c2, boolK_t]
      · by_cases c3 : qb < 0
        · simp only [decide_eq_false c1, boolK_f, decide_eq_false c2, decide_eq_true c3, boolK_t]
        · have c4 : 1073741824 < qb := by omega
          simp only [decide_eq_false c1, boolK_f, decide_eq_false c2, decide_eq_false c3, decide_eq_true c4, boolK_t]
  · have c1 : ¬ qi < 1 := by omega
    have c2 : ¬ 1048576 < qi := by omega
    have c3 : ¬ qb < 0 := by omega
    have c4 : ¬ 1073741824 < qb := by omega
    -- the root's entries
    have n1 : newMapA h1 = some (.map h1.next, h1.add (.map [] 0)) := rfl
    have x1 := x0.add (.map [] 0)
    have e1 : (h1.add (.map [] 0)).get h1.next = some (.map (strE []) 0) := AHeap.get_add_self _ _
    have f1 : h.get h1.next = none := x0.new
    generalize hh2 : h1.add (.map [] 0) = h2 at n1 x1 e1
    -- the root
    have n2 : boxA h2 (.agg [.int .i64 2, .int .i64 493, .str [], .int .i64 1, .int .i64 1, .map h1.next]) = some (.ptr h2.next 0, h2.add (.cells [.int .i64 2, .int .i64 493, .str [], .int .i64 1, .int .i64 1, .map h1.next] true)) := rfl
    have x2 := x1.add (.cells [.int .i64 2, .int .i64 493, .str [], .int .i64 1, .int .i64 1, .map h1.next] true)
    have e2 : (h2.add (.cells [.int .i64 2, .int .i64 493, .str [], .int .i64 1, .int .i64 1, .map h1.next] true)).get h2.next = some (.cells [.int .i64 2, .int .i64 493, .str [], .int .i64 1, .int .i64 1, .map h1.next] true) := AHeap.get_add_self _ _
    have f2 : h.get h2.next = none := x1.new
    have y2 : Ext h2 (h2.add (.cells [.int .i64 2, .int .i64 493, .str [], .int .i64 1, .int .i64 1, .map h1.next] true)) := (Ext.refl x1.wf).add _
    generalize hh3 : h2.add (.cells [.int .i64 2, .int .i64 493, .str [], .int .i64 1, .int .i64 1, .map h1.next] true) = h3 at n2 x2 e2 y2
    -- the inodes
    have n3 : newMapA h3 = some (.map h3.next, h3.add (.map [] 0)) := rfl
    have y3 : Ext h3 (h3.add (.map [] 0)) := (Ext.refl x2.wf).add _
    have x3 := x2.add (.map [] 0)
    have e3 : (h3.add (.map [] 0)).get h3.next = some (.map (intE []) 0) := AHeap.get_add_self _ _
    have f3 : h.get h3.next = none := x2.new
    have f3' : h3.get h3.next = none := x2.wf.new
    generalize hh4 : h3.add (.map [] 0) = h4 at n3 x3 e3 y3
    have u4 := update_int (T := tab) (h := h4) (m := h3.next) (key := 1) ty66 e3 (by simp) rfl (.ptr h2.next 0)
    have e4 : (h4.put h3.next (.map (intE ([] ++ [(1, .ptr h2.next 0, 0)])) (0 + 1))).get h3.next = some (.map (intE [(1, .ptr h2.next 0, 0)]) 1) := AHeap.get_put_self _ _ _
    have y4 : Ext h3 (h4.put h3.next (.map (intE ([] ++ [(1, .ptr h2.next 0, 0)])) (0 + 1))) := y3.put f3' e3 _
    have x4 := x3.put f3 e3 (.map (intE ([] ++ [(1, .ptr h2.next 0, 0)])) (0 + 1))
    generalize hh5 : h4.put h3.next (.map (intE ([] ++ [(1, .ptr h2.next 0, 0)])) (0 + 1)) = h5 at u4 e4 x4 y4
    -- the table
    have n5 : boxA h5 (.agg [.int .i64 qi, .int .i64 qb, .int .i64 1, .int .i64 0, .map h3.next, .int .i64 1]) = some (.ptr h5.next 0, h5.add (.cells [.int .i64 qi, .int .i64 qb, .int .i64 1, .int .i64 0, .map h3.next, .int .i64 1] true)) := rfl
    have y5 : Ext h5 (h5.add (.cells [.int .i64 qi, .int .i64 qb, .int .i64 1, .int .i64 0, .map h3.next, .int .i64 1] true)) := (Ext.refl x4.wf).add _
    have x5 := x4.add (.cells [.int .i64 qi, .int .i64 qb, .int .i64 1, .int .i64 0, .map h3.next, .int .i64 1] true)
    have e5 : (h5.add (.cells [.int .i64 qi, .int .i64 qb, .int .i64 1, .int .i64 0, .map h3.next, .int .i64 1] true)).get h5.next = some (.cells [.int .i64 qi, .int .i64 qb, .int .i64 1, .int .i64 0, .map h3.next, .int .i64 1] true) := AHeap.get_add_self _ _
    have f5 : h.get h5.next = none := x4.new
    have f5' : h5.get h5.next = none := x4.wf.new
    generalize hh6 : h5.add (.cells [.int .i64 qi, .int .i64 qb, .int .i64 1, .int .i64 0, .map h3.next, .int .i64 1] true) = h6 at n5 x5 e5 y5
    have p2 := y5.keep _ _ (y4.keep _ _ e2)
    have p1 := y5.keep _ _ (y4.keep _ _ (y2.keep _ _ e1))
    have p3 := y5.keep _ _ e4
    refine ⟨h6, x5, ?_⟩
    simp only [newT, hc, if_false]
    refine ⟨fun j => j = h5.next ∨ j = h3.next ∨ j = h2.next ∨ j = h1.next, h5.next, ⟨h3.next, fun _ => h2.next, fun _ => h1.next⟩, run7 0 ?_, ?_, ?_⟩
    · unfold F7
      have l2 : loadA tab h3 26 (.ptr h.next 0) = some (.agg [.int .i64 qi, .int .i64 qb]) := by
        have t26 : ∃ ty, tab.get 26 = some ty ∧ ty.size = 2 ∧ ty.agg = true := ⟨_, rfl, rfl, rfl⟩
        obtain ⟨ty, t1, t2, t3⟩ := t26
        have q1 : h2.get h.next = some (.cells [.int .i64 qi, .int .i64 qb] true) := by rw [← hh2]; exact ((Ext.refl x0.wf).add _).keep _ _ g0
        simp only [loadA, aload, y2.keep _ _ q1, t1, t2, t3, cond_true]
        rfl
      have a1 : abuild tab 35 [(0, .int .i64 2), (1, .int .i64 493), (3, .int .i64 1)] = some (.agg [.int .i64 2, .int .i64 493, .str [], .int .i64 1]) := rfl
      have a2 : abuild tab 65 [(0, .agg [.int .i64 2, .int .i64 493, .str [], .int .i64 1]), (1, .int .i64 1), (2, .map h1.next)] = some (.agg [.int .i64 2, .int .i64 493, .str [], .int .i64 1, .int .i64 1, .map h1.next]) := rfl
      have a3 : abuild tab 26 [(0, .int .i64 1)] = some (.agg [.int .i64 1, .int .i64 0]) := rfl
      have a4 : abuild tab 68 [(0, .agg [.int .i64 qi, .int .i64 qb]), (1, .agg [.int .i64 1, .int .i64 0]), (2, .map h3.next), (3, .int .i64 1)] = some (.agg [.int .i64 qi, .int .i64 qb, .int .i64 1, .int .i64 0, .map h3.next, .int .i64 1]) := rfl
      simp only [b0, bothK_s, jn_a, fa26_00, fa26_01, l0, l1, valK_s, abin_lss, abin_gtr, decide_eq_false c1, boolK_f, decide_eq_false c2, decide_eq_false c3, decide_eq_false c4, a1, n1, a2, n2, l2, a3, n3, u4, hpK_s, a4, n5, unmark_nil]
    · have one : ∀ k nd, upd (fun _ => none) 1 (some (⟨2, 493, [], 1, 1, []⟩ : Nd)) k = some nd → k = 1 ∧ nd = ⟨2, 493, [], 1, 1, []⟩ := fun k nd h => by
        rcases upd_cases h with ⟨rfl, hx⟩ | ⟨_, hx⟩
        · cases hx; exact ⟨rfl, rfl⟩
        · cases hx
      exact {
        top := e5
        map := ⟨_, _, p3, by simp, fun k => by
          by_cases e : k = 1
          · subst e; rfl
          · simp [getI, upd, e]⟩
        node := fun k nd hk => by obtain ⟨rfl, rfl⟩ := one k nd hk; exact p2
        ents := fun k nd hk _ => by obtain ⟨rfl, rfl⟩ := one k nd hk; exact ⟨[], 0, p1, rfl, by simp, List.Pairwise.nil⟩
        noEnts := fun k nd hk hne => by obtain ⟨rfl, rfl⟩ := one k nd hk; rfl
        inj := fun k j nd nd' hk hj _ => by rw [(one k nd hk).1, (one j nd' hj).1]
        injE := fun k j nd nd' hk hj _ _ _ => by rw [(one k nd hk).1, (one j nd' hj).1]
        apart := fun k nd hk e => by
          have : h5.get h5.next = some (.cells [.int .i64 2, .int .i64 493, .str [], .int .i64 1, .int .i64 1, .map h1.next] true) := by rw [← show h2.next = h5.next from e]; exact y4.keep _ _ e2
          rw [f5'] at this; cases this
        apartE := fun k nd hk _ e => by
          have : h3.get h3.next = some (.map (strE []) 0) := by rw [← show h1.next = h3.next from e]; exact y2.keep _ _ e1
          rw [f3'] at this; cases this
        inO := .inl rfl
        inM := .inr (.inl rfl)
        inN := fun _ _ _ => .inr (.inr (.inl rfl))
        inE := fun _ _ _ _ => .inr (.inr (.inr rfl))
        there := fun j hj => by
          rcases hj with rfl | rfl | rfl | rfl
          · rw [e5]; simp
          · rw [p3]; simp
          · rw [p2]; simp
          · rw [p1]; simp }
    · rintro j (rfl | rfl | rfl | rfl)
      · exact f5
      · exact f3
      · exact f2
      · exact f1

/-! ### Make -/

def addE (f : Int → Option Nd) (d : Int) (s : Bs) (n : Int) : Int → Option Nd := match f d with
  | some nd => upd f d (some { nd with ents := nd.ents ++ [(s, n)] })
  | none => f
def delE (f : Int → Option Nd) (d : Int) (s : Bs) : Int → Option Nd := match f d with
  | some nd => upd f d (some { nd with ents := delN s nd.ents })
  | none => f
theorem addE_some {f : Int → Option Nd} {d : Int} {nd : Nd} (h : f d = some nd) (s : Bs) (n : Int) : addE f d s n = upd f d (some { nd with ents := nd.ents ++ [(s, n)] }) := by simp only [addE, h]
theorem delE_some {f : Int → Option Nd} {d : Int} {nd : Nd} (h : f d = some nd) (s : Bs) : delE f d s = upd f d (some { nd with ents := delN s nd.ents }) := by simp only [delE, h]

def makeE (tb : Tb) (dir : Int) (name : Bs) (kind mode : Int) (data : Bs) : Int := firstE [0, dirE tb dir, nameE name, likeE kind mode data, freeE tb dir name, roomE tb 1 data.length]
def freshNd (dir kind mode : Int) (data : Bs) : Nd := ⟨kind, mode, data, 1, if kind = 2 then dir else 0, []⟩
def madeT (tb : Tb) (dir : Int) (name : Bs) (kind mode : Int) (data : Bs) : Tb :=
  { tb with ui := tb.ui + 1, ub := tb.ub + data.length, last := tb.last + 1, nodes := addE (upd tb.nodes (tb.last + 1) (some (freshNd dir kind mode data))) dir name (tb.last + 1) }
def makeT (tb : Tb) (dir : Int) (name : Bs) (kind mode : Int) (data : Bs) : Tb := if makeE tb dir name kind mode data = 0 then madeT tb dir name kind mode data else tb

def Fresh (tb : Tb) : Prop := ∀ k, tb.last < k → tb.nodes k = none

section
variable {S : Nat → Prop} {h : AHeap} {o : Nat} {tb : Tb} {L : Lay}

/-- The second half of Make. -/
theorem make_rest {hb : AHeap} (a : TR S h o tb L) (hw : h.WF) (kb : Step S hb S h) (hs : Small tb) {dir : Int} {name data : Bs} {nd dnd : Nd} {b0 b6 x e : Nat} (hl : 0 ≤ tb.last ∧ tb.last < 1152921504606846976) (hk : tb.nodes tb.last = none) (hd : tb.nodes dir = some dnd) (hd2 : dnd.kind = 2) (hn : getN name dnd.ents = none)
    (hdl : data.length < 1152921504606846976)
    (g0 : h.get b0 = some (.cells [.ptr o 0] true)) (n0 : ¬ S b0) (g6 : h.get b6 = some (.cells [.str data] true)) (n6 : ¬ S b6) (hx : h.get x = some (.cells (ndCells (L.set tb.last x e) tb.last nd) true)) (hxS : ¬ S x) (he : nd.kind = 2 → EntR h e nd.ents ∧ ¬ S e) (hne : nd.kind ≠ 2 → nd.ents = []) (hbx : hb.get x = none) (hbe : nd.kind = 2 → hb.get e = none) (hb0 : b0 ≠ x ∧ b0 ≠ e) (hb6 : b6 ≠ x ∧ b6 ≠ e) :
    ∃ S' h', (valK (loadA tab h 23 (.ptr b0 0)) fun x46 =>
      valK (nilA x46) fun x47 =>
      valK (afieldAddr tab 68 x47 2) fun x48 =>
      valK (loadA tab h 66 x48) fun x49 =>
      valK (loadA tab h 23 (.ptr b0 0)) fun x50 =>
      valK (nilA x50) fun x51 =>
      valK (afieldAddr tab 68 x51 3) fun x52 =>
      valK (loadA tab h 3 x52) fun x53 =>
      hpK (amapUpdate tab h 66 x49 x53 (.ptr x 0)) fun h54 =>
      valK (loadA tab h54 23 (.ptr b0 0)) fun x55 =>
      valK (nilA x55) fun x56 =>
      valK (afieldAddr tab 68 x56 2) fun x57 =>
      valK (loadA tab h54 66 x57) fun x58 =>
      valK (alookup tab h54 66 x58 (.int .i64 dir) false) fun x59 =>
      valK (nilA x59) fun x60 =>
      valK (afieldAddr tab 65 x60 2) fun x61 =>
      valK (loadA tab h54 63 x61) fun x62 =>
      valK (loadA tab h54 23 (.ptr b0 0)) fun x63 =>
      valK (nilA x63) fun x64 =>
      valK (afieldAddr tab 68 x64 3) fun x65 =>
      valK (loadA tab h54 3 x65) fun x66 =>
      hpK (amapUpdate tab h54 63 x62 (.str name) x66) fun h67 =>
      valK (loadA tab h67 23 (.ptr b0 0)) fun x68 =>
      valK (nilA x68) fun x69 =>
      valK (afieldAddr tab 68 x69 1) fun x70 =>
      valK (afieldAddr tab 26 x70 0) fun x71 =>
      valK (loadA tab h67 3 x71) fun x72 =>
      valK (abin tab .add 3 x72 (.int .i64 1)) fun x73 =>
      valK (nilA x68) fun x74 =>
      valK (afieldAddr tab 68 x74 1) fun x75 =>
      valK (afieldAddr tab 26 x75 0) fun x76 =>
      hpK (storeA tab h67 3 x76 x73) fun h77 =>
      valK (loadA tab h77 23 (.ptr b0 0)) fun x78 =>
      valK (nilA x78) fun x79 =>
      valK (afieldAddr tab 68 x79 1) fun x80 =>
      valK (afieldAddr tab 26 x80 1) fun x81 =>
      valK (loadA tab h77 3 x81) fun x82 =>
      valK (loadA tab h77 9 (.ptr b6 0)) fun x83 =>
      valK (alen tab h77 9 x83) fun x84 =>
      valK (abin tab .add 3 x82 x84) fun x85 =>
      valK (nilA x78) fun x86 =>
      valK (afieldAddr tab 68 x86 1) fun x87 =>
      valK (afieldAddr tab 26 x87 1) fun x88 =>
      hpK (storeA tab h77 3 x88 x85) fun h89 =>
      valK (loadA tab h89 23 (.ptr b0 0)) fun x90 =>
      valK (nilA x90) fun x91 =>
      valK (afieldAddr tab 68 x91 3) fun x92 =>
      valK (loadA tab h89 3 x92) fun x93 =>
      hpK (unmark h89 []) fun h94 =>
      some (AV.tuple [x93, (.int .i64 0)], h94)) = some (.tuple [.int .i64 tb.last, .int .i64 0], h') ∧
      TR S' h' o { tb with ui := tb.ui + 1, ub := tb.ub + data.length, nodes := addE (upd tb.nodes tb.last (some nd)) dir name tb.last } (L.set tb.last x e) ∧ Step S hb S' h' := by
  obtain ⟨l, c, q1, q2, q3⟩ := a.map
  have u1 := update_int (T := tab) (h := h) (m := L.m) (key := tb.last) ty66 q1 q2 (by rw [q3, hk]; rfl) (.ptr x 0)
  have a1 := a.addNode q1 q2 q3 hk hx hxS he hne
  have w1 : (h.put L.m (.map (intE (l ++ [(tb.last, .ptr x 0, c)])) (c + 1))).WF := hw.put q1 _
  have g0' : (h.put L.m (.map (intE (l ++ [(tb.last, .ptr x 0, c)])) (c + 1))).get b0 = some (.cells [.ptr o 0] true) := keepP g0 n0 a.inM
  have g6' : (h.put L.m (.map (intE (l ++ [(tb.last, .ptr x 0, c)])) (c + 1))).get b6 = some (.cells [.str data] true) := keepP g6 n6 a.inM
  have k1 : Step S h S (h.put L.m (.map (intE (l ++ [(tb.last, .ptr x 0, c)])) (c + 1))) := (Step.refl hw).put a.inM q1 _
  have n0' : ¬ (S b0 ∨ b0 = x ∨ (nd.kind = 2 ∧ b0 = e)) := by rintro (q | q | q); exact n0 q; exact hb0.1 q; exact hb0.2 q.2
  have n6' : ¬ (S b6 ∨ b6 = x ∨ (nd.kind = 2 ∧ b6 = e)) := by rintro (q | q | q); exact n6 q; exact hb6.1 q; exact hb6.2 q.2
  generalize hh1 : h.put L.m (.map (intE (l ++ [(tb.last, .ptr x 0, c)])) (c + 1)) = h1 at u1 a1 w1 g0' g6' k1
  have hdl' : dir ≠ tb.last := fun e => by rw [e, hk] at hd; cases hd
  have hd1 : upd tb.nodes tb.last (some nd) dir = some dnd := by rw [upd_ne _ _ hdl']; exact hd
  obtain ⟨y, e2, ⟨z, gz⟩, a2⟩ := a1.enter (k := dir) hd1 hd2 hn tb.last
  have hin := a1.inE dir dnd hd1 hd2
  have g0'' := keepP (S := fun j => S j ∨ j = x ∨ (nd.kind = 2 ∧ j = e)) (z := y) g0' n0' hin
  have g6'' := keepP (S := fun j => S j ∨ j = x ∨ (nd.kind = 2 ∧ j = e)) (z := y) g6' n6' hin
  generalize hh2 : h1.put ((L.set tb.last x e).ent dir) y = h2 at e2 a2 g0'' g6''
  have e3 := a2.s_ui (tb.ui + 1)
  have a3 := a2.setTop (tb' := { tb with ui := tb.ui + 1, nodes := addE (upd tb.nodes tb.last (some nd)) dir name tb.last }) (by rw [addE_some hd1])
  have g03 := keepP (S := fun j => S j ∨ j = x ∨ (nd.kind = 2 ∧ j = e)) (z := .cells (tbCells (L.set tb.last x e) { tb with ui := tb.ui + 1, nodes := addE (upd tb.nodes tb.last (some nd)) dir name tb.last }) true) g0'' n0' a2.inO
  have g63 := keepP (S := fun j => S j ∨ j = x ∨ (nd.kind = 2 ∧ j = e)) (z := .cells (tbCells (L.set tb.last x e) { tb with ui := tb.ui + 1, nodes := addE (upd tb.nodes tb.last (some nd)) dir name tb.last }) true) g6'' n6' a2.inO
  replace e3 : storeA tab h2 3 (.ptr o 2) (.int .i64 (tb.ui + 1)) = some (h2.put o (.cells (tbCells (L.set tb.last x e) { tb with ui := tb.ui + 1, nodes := addE (upd tb.nodes tb.last (some nd)) dir name tb.last }) true)) := e3
  generalize hh3 : h2.put o (.cells (tbCells (L.set tb.last x e) { tb with ui := tb.ui + 1, nodes := addE (upd tb.nodes tb.last (some nd)) dir name tb.last }) true) = h3 at e3 a3 g03 g63
  have e4 := a3.s_ub (tb.ub + data.length)
  have a4 := a3.setTop (tb' := { tb with ui := tb.ui + 1, ub := tb.ub + data.length, nodes := addE (upd tb.nodes tb.last (some nd)) dir name tb.last }) rfl
  have g04 := keepP (S := fun j => S j ∨ j = x ∨ (nd.kind = 2 ∧ j = e)) (z := .cells (tbCells (L.set tb.last x e) { tb with ui := tb.ui + 1, ub := tb.ub + data.length, nodes := addE (upd tb.nodes tb.last (some nd)) dir name tb.last }) true) g03 n0' a3.inO
  replace e4 : storeA tab h3 3 (.ptr o 3) (.int .i64 (tb.ub + data.length)) = some (h3.put o (.cells (tbCells (L.set tb.last x e) { tb with ui := tb.ui + 1, ub := tb.ub + data.length, nodes := addE (upd tb.nodes tb.last (some nd)) dir name tb.last }) true)) := e4
  have k3 : Step (fun j => S j ∨ j = x ∨ (nd.kind = 2 ∧ j = e)) h1 (fun j => S j ∨ j = x ∨ (nd.kind = 2 ∧ j = e)) (h3.put o (.cells (tbCells (L.set tb.last x e) { tb with ui := tb.ui + 1, ub := tb.ub + data.length, nodes := addE (upd tb.nodes tb.last (some nd)) dir name tb.last }) true)) := by
    have s1 := (Step.refl (S := fun j => S j ∨ j = x ∨ (nd.kind = 2 ∧ j = e)) w1).put hin gz y
    rw [hh2] at s1
    have s2 := s1.put a2.inO a2.top (.cells (tbCells (L.set tb.last x e) { tb with ui := tb.ui + 1, nodes := addE (upd tb.nodes tb.last (some nd)) dir name tb.last }) true)
    rw [hh3] at s2
    exact s2.put a3.inO a3.top _
  generalize hh4 : h3.put o (.cells (tbCells (L.set tb.last x e) { tb with ui := tb.ui + 1, ub := tb.ub + data.length, nodes := addE (upd tb.nodes tb.last (some nd)) dir name tb.last }) true) = h4 at e4 a4 g04 k3
  have hev : evOf (L.set tb.last x e) dir dnd = .map ((L.set tb.last x e).ent dir) := by simp only [evOf, hd2, if_true]
  have s1 := hs.ui; have s2 := hs.ub
  refine ⟨fun j => S j ∨ j = x ∨ (nd.kind = 2 ∧ j = e), h4, ?_, a4, ?_⟩
  · simp only [ld23 g0, ld23 g0', ld23 g0'', ld23 g03, ld23 g04, valK_s, nil_ptr, fa68_2, fa68_3, fa68_1, fa26_20, fa26_21, a.l_m, a.l_last, u1, hpK_s, show loadA tab h1 66 (.ptr o 4) = some (.map (L.set tb.last x e).m) from a1.l_m, a1.look_some hd1, fa65_2, a1.l_ents hd1, hev, a1.l_last, e2, a2.l_ui,
      abin_add (show -9223372036854775808 ≤ tb.ui + 1 by omega) (show tb.ui + 1 ≤ 9223372036854775807 by omega), e3, a3.l_ub, ld9 g63, alen9, abin_add (show -9223372036854775808 ≤ tb.ub + data.length by omega) (show tb.ub + data.length ≤ 9223372036854775807 by omega), e4, a4.l_last, unmark_nil]
  · refine ((kb.trans k1).wider fun j hj => ?_).trans k3
    rcases hj with hj | rfl | ⟨h2, rfl⟩
    · exact .inl hj
    · exact .inr (.inr hbx)
    · exact .inr (.inr (hbe h2))
end
end Go.Am
