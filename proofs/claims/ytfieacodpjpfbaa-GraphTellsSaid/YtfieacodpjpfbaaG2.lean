/-
  graph.refs, graph.reached, Closure, Dead: what they answer.
-/
import Derived.Test.YtfieacodpjpfbaaG1
set_option linter.unusedVariables false
set_option linter.unusedSimpArgs false
namespace Go.Am
open Go Go.Proofs

/-! ### Paths -/

def pcells (l : List (Bs × AV)) : List AV := l.flatMap fun e => [.str e.1, e.2, .str [], .str []]

theorem pcells_length : ∀ (l : List (Bs × AV)), (pcells l).length = l.length * 4
  | [] => rfl
  | e :: l => by
    have := pcells_length l
    simp only [pcells] at this
    simp [pcells, this]; omega

theorem pcells_append (a b : List (Bs × AV)) : pcells (a ++ b) = pcells a ++ pcells b := by simp [pcells]

theorem pcells_at : ∀ (l : List (Bs × AV)) (i : Nat) (e : Bs × AV), l[i]? = some e → ((pcells l).drop (i * 4)).take 4 = [.str e.1, e.2, .str [], .str []]
  | [], i, e, h => by simp at h
  | x :: l, 0, e, h => by simp at h; subst h; rfl
  | x :: l, i + 1, e, h => by
    have := pcells_at l i e (by simpa using h)
    rw [← this]
    show ((AV.str x.1 :: x.2 :: AV.str [] :: AV.str [] :: pcells l).drop ((i + 1) * 4)).take 4 = _
    rw [show (i + 1) * 4 = i * 4 + 1 + 1 + 1 + 1 by omega]
    simp only [List.drop_succ_cons]

/-- Paths with what they refer to. -/
abbrev Gr := List (Bs × List Bs)

def Rel2 (h : AHeap) : List (Bs × AV) → Gr → Prop
  | [], [] => True
  | a :: l, b :: G => (a.1 = b.1 ∧ SRow h a.2 b.2) ∧ Rel2 h l G
  | _, _ => False

theorem Rel2.ext {h h' : AHeap} (e : Ext h h') : ∀ {l : List (Bs × AV)} {G : Gr}, Rel2 h l G → Rel2 h' l G
  | [], [], _ => trivial
  | a :: l, b :: G, ⟨h1, h2⟩ => ⟨⟨h1.1, h1.2.ext e⟩, Rel2.ext e h2⟩
  | [], _ :: _, h => h.elim
  | _ :: _, [], h => h.elim

theorem Rel2.length {h : AHeap} : ∀ {l : List (Bs × AV)} {G : Gr}, Rel2 h l G → l.length = G.length
  | [], [], _ => rfl
  | a :: l, b :: G, ⟨_, h2⟩ => by simp [Rel2.length h2]
  | [], _ :: _, h => h.elim
  | _ :: _, [], h => h.elim

theorem Rel2.get {h : AHeap} : ∀ {l : List (Bs × AV)} {G : Gr}, Rel2 h l G → ∀ {i : Nat} {e : Bs × AV}, l[i]? = some e → ∃ b, G[i]? = some b ∧ e.1 = b.1 ∧ SRow h e.2 b.2
  | a :: l, b :: G, ⟨h1, h2⟩, 0, e, he => by simp at he; subst he; exact ⟨b, by simp, h1⟩
  | a :: l, b :: G, ⟨h1, h2⟩, i + 1, e, he => by simpa using Rel2.get h2 (by simpa using he)
  | [], [], _, i, e, he => by simp at he
  | [], _ :: _, h, _, _, _ => h.elim
  | _ :: _, [], h, _, _, _ => h.elim

theorem Rel2.push {h : AHeap} {a : Bs × AV} {b : Bs × List Bs} (hab : a.1 = b.1 ∧ SRow h a.2 b.2) : ∀ {l : List (Bs × AV)} {G : Gr}, Rel2 h l G → Rel2 h (l ++ [a]) (G ++ [b])
  | [], [], _ => ⟨hab, trivial⟩
  | x :: l, y :: G, ⟨h1, h2⟩ => ⟨h1, Rel2.push hab h2⟩
  | [], _ :: _, h => h.elim
  | _ :: _, [], h => h.elim

def PRep (h : AHeap) (v : AV) (G : Gr) : Prop := ∃ pl : List (Bs × AV), Row h v pl.length 4 (pcells pl) ∧ Rel2 h pl G

theorem PRep.ext {h h' : AHeap} {v : AV} {G : Gr} (a : PRep h v G) (e : Ext h h') : PRep h' v G := by
  obtain ⟨pl, h1, h2⟩ := a
  exact ⟨pl, h1.ext e, h2.ext e⟩

def thereG : Gr → Bs → Option (List Bs)
  | [], _ => none
  | e :: G, p => if p = e.1 then some e.2 else thereG G p

/-- The map that refs makes. -/
def refsE : List (Bs × AV) → SE → SE
  | [], es => es
  | e :: l, es => refsE l (if hasS e.1 es = true then es else es ++ [(e.1, e.2, es.length)])

theorem refsE_append : ∀ (a b : List (Bs × AV)) (es : SE), refsE (a ++ b) es = refsE b (refsE a es)
  | [], b, es => rfl
  | e :: a, b, es => by simp only [List.cons_append, refsE]; exact refsE_append a b _

theorem hasS_iff {s : Bs} : ∀ {l : SE}, hasS s l = true ↔ s ∈ l.map (·.1)
  | [] => by simp [hasS]
  | e :: l => by
    simp only [hasS, List.map_cons, List.mem_cons]
    by_cases h : s = e.1
    · simp [h]
    · simp [h, hasS_iff (l := l)]

theorem getS_none {s : Bs} : ∀ {l : SE}, getS s l = none ↔ s ∉ l.map (·.1)
  | [] => by simp [getS]
  | e :: l => by
    simp only [getS, List.map_cons, List.mem_cons, not_or]
    by_cases h : s = e.1
    · simp [h]
    · simp [h, getS_none (l := l)]

theorem getS_append {s : Bs} : ∀ {a b : SE}, getS s (a ++ b) = match getS s a with | some v => some v | none => getS s b
  | [], b => rfl
  | e :: a, b => by
    simp only [List.cons_append, getS]
    by_cases h : s = e.1
    · simp [h]
    · simp [h, getS_append (a := a)]

/-- Keys once each; stamps are places. -/
def Idx (l : SE) : Prop := (l.map (·.1)).Nodup ∧ ∀ (i : Nat) (e : Bs × AV × Nat), l[i]? = some e → e.2.2 = i

theorem Idx.once {l : SE} (a : Idx l) : Once l l.length := by
  refine ⟨fun e he => ?_, ?_⟩
  · obtain ⟨i, hi, h⟩ := List.getElem_of_mem he
    have := a.2 i e (by rw [List.getElem?_eq_getElem hi, h])
    omega
  · rw [List.pairwise_iff_getElem]
    intro i j hi hj hij
    refine ⟨fun e => ?_, fun e => ?_⟩
    · have h1 := a.1
      rw [List.nodup_iff_pairwise_ne, List.pairwise_iff_getElem] at h1
      have := h1 i j (by simpa using hi) (by simpa using hj) hij
      simp at this
      exact this e
    · have e1 := a.2 i _ (List.getElem?_eq_getElem hi)
      have e2 := a.2 j _ (List.getElem?_eq_getElem hj)
      omega

theorem Idx.push {l : SE} (a : Idx l) {s : Bs} (hs : s ∉ l.map (·.1)) (v : AV) : Idx (l ++ [(s, v, l.length)]) := by
  refine ⟨?_, fun i e h => ?_⟩
  · rw [List.map_append, List.nodup_append]
    exact ⟨a.1, by simp, fun x hx y hy => by simp at hy; subst hy; exact fun e => hs (e ▸ hx)⟩
  · rcases Nat.lt_or_ge i l.length with hi | hi
    · rw [List.getElem?_append_left hi] at h; exact a.2 i e h
    · rw [List.getElem?_append_right hi] at h
      have : i - l.length = 0 := by
        have := (List.getElem?_eq_some_iff.1 h).1
        simp at this; omega
      rw [this] at h
      simp at h
      subst h
      simp; omega

theorem refsE_idx : ∀ (l : List (Bs × AV)) {es : SE}, Idx es → Idx (refsE l es)
  | [], es, h => h
  | e :: l, es, h => by
    simp only [refsE]
    by_cases hk : hasS e.1 es = true
    · rw [if_pos hk]; exact refsE_idx l h
    · rw [if_neg hk]; exact refsE_idx l (h.push (fun hc => hk (hasS_iff.2 hc)) _)

theorem refsE_get (p : Bs) : ∀ (l : List (Bs × AV)) (es : SE), getS p (refsE l es) = match getS p es with | some v => some v | none => (l.find? fun e => decide (p = e.1)).map (·.2)
  | [], es => by simp only [refsE]; cases getS p es <;> rfl
  | e :: l, es => by
    simp only [refsE]
    rw [refsE_get p l]
    by_cases hk : hasS e.1 es = true
    · rw [if_pos hk]
      cases hg : getS p es with
      | some v => rfl
      | none =>
        have : ¬ p = e.1 := fun h => by
          rw [getS_none] at hg
          exact hg (h ▸ hasS_iff.1 hk)
        simp [List.find?_cons, this]
    · rw [if_neg hk, getS_append]
      cases hg : getS p es with
      | some v => rfl
      | none =>
        by_cases h : p = e.1
        · simp [getS, List.find?_cons, h]
        · simp [getS, List.find?_cons, h]

/-- The keys, each where it comes first. -/
def keysG : Gr → List Bs → List Bs
  | [], ks => ks
  | e :: G, ks => keysG G (if e.1 ∈ ks then ks else ks ++ [e.1])

theorem refsE_keys {h : AHeap} : ∀ {l : List (Bs × AV)} {G : Gr}, Rel2 h l G → ∀ es : SE, (refsE l es).map (·.1) = keysG G (es.map (·.1))
  | [], [], _, es => rfl
  | a :: l, b :: G, ⟨hab, t⟩, es => by
    simp only [refsE, keysG]
    rw [refsE_keys t]
    congr 1
    by_cases hk : hasS a.1 es = true
    · rw [if_pos hk, if_pos (by rw [← hab.1]; exact hasS_iff.1 hk)]
    · rw [if_neg hk, if_neg (by rw [← hab.1]; exact fun hc => hk (hasS_iff.2 hc))]
      simp [hab.1]
  | [], _ :: _, h, _ => h.elim
  | _ :: _, [], h, _ => h.elim

theorem find_rel {h : AHeap} (p : Bs) : ∀ {l : List (Bs × AV)} {G : Gr}, Rel2 h l G →
    ((l.find? fun e => decide (p = e.1)).map (·.2) = none ∧ thereG G p = none) ∨ ∃ rv rs, (l.find? fun e => decide (p = e.1)).map (·.2) = some rv ∧ thereG G p = some rs ∧ SRow h rv rs
  | [], [], _ => .inl ⟨rfl, rfl⟩
  | a :: l, b :: G, ⟨hab, t⟩ => by
    by_cases e : p = a.1
    · exact .inr ⟨a.2, b.2, by simp [List.find?_cons, e], by simp [thereG, e, hab.1], hab.2⟩
    · have e' : ¬ p = b.1 := by rw [← hab.1]; exact e
      rcases find_rel p t with ⟨h1, h2⟩ | ⟨rv, rs, h1, h2, h3⟩
      · exact .inl ⟨by simp only [List.find?_cons, e, decide_false]; exact h1, by simp only [thereG, e', if_false]; exact h2⟩
      · exact .inr ⟨rv, rs, by simp only [List.find?_cons, e, decide_false]; exact h1, by simp only [thereG, e', if_false]; exact h2, h3⟩
  | [], _ :: _, h => h.elim
  | _ :: _, [], h => h.elim

/-- What stands in a map of references. -/
def MRep (h : AHeap) (m : Nat) (l : SE) (G : Gr) : Prop :=
  h.get m = some (.map (strE l) l.length) ∧ Idx l ∧ l.map (·.1) = keysG G [] ∧ ∀ p, (getS p l = none ∧ thereG G p = none) ∨ ∃ rv rs, getS p l = some rv ∧ thereG G p = some rs ∧ SRow h rv rs

theorem MRep.ext {h h' : AHeap} {m : Nat} {l : SE} {G : Gr} (a : MRep h m l G) (e : Ext h h') : MRep h' m l G := by
  refine ⟨e.keep _ _ a.1, a.2.1, a.2.2.1, fun p => ?_⟩
  rcases a.2.2.2 p with h1 | ⟨rv, rs, h1, h2, h3⟩
  · exact .inl h1
  · exact .inr ⟨rv, rs, h1, h2, h3.ext e⟩

theorem fa28_0 {o i : Nat} : afieldAddr tab 28 (.ptr o i) 0 = some (.ptr o i) := rfl
theorem fa28_1 {o i : Nat} : afieldAddr tab 28 (.ptr o i) 1 = some (.ptr o (i + 1)) := rfl

theorem refs_run {h : AHeap} (hw : h.WF) {v : AV} {G : Gr} (a : PRep h v G) (hn : G.length < 1000000) :
    ∃ m h' l, EG (.fn 28) [v] h = some (.map m, h') ∧ MRep h' m l G ∧ Ext h h' ∧ h.get m = none := by
  obtain ⟨pl, hr, hf⟩ := a
  have hpl : pl.length = G.length := hf.length
  have hone : ∀ (i : Nat) (e : Bs × AV), pl[i]? = some e → e.2.one = true := fun i e he => by
    obtain ⟨b, _, _, hb⟩ := hf.get he
    rcases hb.2 with ⟨h1, _⟩ | ⟨h1, _⟩ | ⟨o, off, ws, rw, h1, _⟩ <;> rw [h1] <;> rfl
  have main : ∃ h', EG (.fn 28) [v] h = some (.map h.next, h') ∧ h'.get h.next = some (.map (strE (refsE pl [])) (refsE pl []).length) ∧ Ext h h' := by
    have hr0 := hr.ext ((Ext.refl hw).add (.map [] 0))
    suffices ∃ h', F28 EG (pl.length + 1) v h = some (.map h.next, h') ∧ h'.get h.next = some (.map (strE (refsE pl [])) (refsE pl []).length) ∧ Ext h h' by
      obtain ⟨h', e, q⟩ := this
      exact ⟨h', run28 _ e, q⟩
    unfold F28
    simp only [newMapA, bothK_s, hr0.len ty24, valK_s]
    refine loop_rule (σ := AV × AV × AV × AV × Unit) (R := AV × AHeap) (total := pl.length) (I := fun i st hh => i ≤ pl.length ∧ Ext h hh ∧ st = (.map h.next, v, .int .i64 (pl.length : Int), .int .i64 (i : Int), ()) ∧ hh.get h.next = some (.map (strE (refsE (pl.take i) [])) (refsE (pl.take i) []).length))
      (Q := fun o => ∃ h', o = some (.map h.next, h') ∧ h'.get h.next = some (.map (strE (refsE pl [])) (refsE pl []).length) ∧ Ext h h') ?_ _ 0 _ _ ⟨by omega, (Ext.refl hw).add _, rfl, AHeap.get_add_self _ _⟩ (by omega) (by omega)
    rintro i st hh nx ⟨hi, he, rfl, hm⟩
    simp only [F28_b3, abin_lss, valK_s]
    by_cases hlt : i < pl.length
    · left
      have hei : pl[i]? = some pl[i] := List.getElem?_eq_getElem hlt
      have hxo := hone i _ hei
      obtain ⟨o, off, h1, h2, _⟩ := (hr.ext he).getAgg ty24 ty28 rfl rfl hlt (k := .i64)
      rw [pcells_at pl i _ hei] at h2
      -- the path in a cell of its own
      have n0 : newCells hh [.str [], .nilslice, .str [], .str []] (fun o => .ptr o 0) = some (.ptr hh.next 0, hh.add (.cells [.str [], .nilslice, .str [], .str []] true)) := rfl
      have s0 : storeA tab (hh.add (.cells [.str [], .nilslice, .str [], .str []] true)) 28 (.ptr hh.next 0) (.agg [.str pl[i].1, pl[i].2, .str [], .str []]) = some ((hh.add (.cells [.str [], .nilslice, .str [], .str []] true)).put hh.next (.cells [.str pl[i].1, pl[i].2, .str [], .str []] true)) := by
        have h1s : ∀ s, (AV.str s).one = true := fun _ => rfl
        simp only [storeA, astore, AHeap.get_add_self, ty28, AV.cells, allOne, hxo, h1s, splice]
        simp [Nat.beq, ble_dec]
      obtain ⟨hh2, e2⟩ : ∃ hh2, hh2 = (hh.add (.cells [.str [], .nilslice, .str [], .str []] true)).put hh.next (.cells [.str pl[i].1, pl[i].2, .str [], .str []] true) := ⟨_, rfl⟩
      rw [← e2] at s0
      have x2 : Ext hh hh2 := by rw [e2]; exact ((Ext.refl he.wf).add _).put he.wf.new (AHeap.get_add_self _ _) _
      have g2 : hh2.get hh.next = some (.cells [.str pl[i].1, pl[i].2, .str [], .str []] true) := by rw [e2]; exact AHeap.get_put_self _ _ _
      have l0 : loadA tab hh2 9 (.ptr hh.next 0) = some (.str pl[i].1) := loadA_cell ty9 rfl g2 rfl
      have l1 : loadA tab hh2 26 (.ptr hh.next 1) = some pl[i].2 := loadA_cell ty26 rfl g2 rfl
      have hm2 := x2.keep _ _ hm
      have htk : refsE (pl.take (i + 1)) [] = (if hasS pl[i].1 (refsE (pl.take i) []) = true then refsE (pl.take i) [] else refsE (pl.take i) [] ++ [(pl[i].1, pl[i].2, (refsE (pl.take i) []).length)]) := by
        rw [List.take_succ_eq_append_getElem hlt, refsE_append]; rfl
      simp only [ltT hlt, boolK_t, h1, h2, valK_s, n0, bothK_s, s0, hpK_s, fa28_0, fa28_1, l0, lookup_str ty48 ty26 hm2]
      cases hg : hasS pl[i].1 (refsE (pl.take i) []) with
      | true =>
        obtain ⟨w, hgw⟩ : ∃ w, getS pl[i].1 (refsE (pl.take i) []) = some w := by
          cases e : getS pl[i].1 (refsE (pl.take i) []) with
          | some w => exact ⟨w, rfl⟩
          | none => exact absurd (hasS_iff.1 hg) (getS_none.1 e)
        simp only [hgw, cond_true, extractA_0, extractA_1, valK_s, aun_not, Bool.not_true, boolK_f, abin_inc (show i < 4611686018427387904 by omega)]
        refine ⟨hlt, _, _, rfl, by omega, he.trans x2, rfl, ?_⟩
        rw [htk, if_pos hg]; exact hm2
      | false =>
        have hgw : getS pl[i].1 (refsE (pl.take i) []) = none := getS_none.2 fun hc => by rw [hasS_iff.2 hc] at hg; cases hg
        simp only [hgw, cond_true, extractA_0, extractA_1, valK_s, aun_not, Bool.not_false, boolK_t, l1, update_str ty48 hm2, hpK_s, hg, cond_false, setS_new hg, abin_inc (show i < 4611686018427387904 by omega)]
        refine ⟨hlt, _, _, rfl, by omega, (he.trans x2).put (Ext.refl hw).new hm2 _, rfl, ?_⟩
        rw [htk, if_neg (by rw [hg]; simp), AHeap.get_put_self]
        simp
    · right
      simp only [ltF hlt, boolK_f, unmark_nil, hpK_s]
      rw [List.take_of_length_le (by omega)] at hm
      exact ⟨_, rfl, hm, he⟩
  obtain ⟨h', e1, e2, e3⟩ := main
  refine ⟨h.next, h', refsE pl [], e1, ⟨e2, refsE_idx pl ⟨by simp, by simp⟩, refsE_keys hf [], fun p => ?_⟩, e3, (Ext.refl hw).new⟩
  rw [refsE_get]
  rcases find_rel p hf with ⟨h1, h2⟩ | ⟨rv, rs, h1, h2, h3⟩
  · exact .inl ⟨h1, h2⟩
  · exact .inr ⟨rv, rs, h1, h2, h3.ext e3⟩

end Go.Am
