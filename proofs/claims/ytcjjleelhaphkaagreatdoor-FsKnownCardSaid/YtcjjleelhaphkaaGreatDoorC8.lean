/-
  Functions: calls and rounds of the model out of the abstract machine's.
-/
import Derived.Test.YtcjjleelhaphkaaGreatDoorC7
set_option linter.unusedVariables false
set_option linter.unusedSimpArgs false
namespace Go.Am
open Classical

section
variable {P : Program} {T : Tab} {E : Env}

theorem initFrame_get : ∀ (xs : List AV) (i t : Nat) (v : AV), (initFrame xs i).get t = some v → ∃ k, t = i + k ∧ xs[k]? = some v
  | [], i, t, v, h => by simp [initFrame, PT.get] at h
  | x :: xs, i, t, v, h => by
    simp only [initFrame, PT.get_set] at h
    by_cases e : t = i
    · rw [if_pos e] at h
      exact ⟨0, by omega, by simpa using h⟩
    · rw [if_neg e] at h
      obtain ⟨k, h1, h2⟩ := initFrame_get xs (i + 1) t v h
      exact ⟨k + 1, by omega, by simpa using h2⟩

def resF (tmps : Array Value) : ResultVar → Sem Value
  | .tmp t => pure (tmps.getD t undef)
  | .cell a t => do loadVar t (← asAddr (tmps.getD a undef))

theorem resultsOf_sim {w0 : World} {β : Inj} {h : AHeap} {w : World} (hT : TabOK P T) (hw : WR w0 β h w) {fr : AFrame} {tmps : Array Value} (hf : FR β fr tmps) :
    ∀ (rs : List ResultVar) {vs : List AV}, resultsOf T fr h rs = some vs → ∃ Vs : List Value, (rs.mapM (resF tmps)).run P w = .ok Vs w ∧ VRL β vs Vs
  | [], vs, hr => by
    simp only [resultsOf, Option.some.injEq] at hr
    subst hr
    exact ⟨[], by simp, VRL.nil⟩
  | .tmp t :: rs, vs, hr => by
    simp only [resultsOf] at hr
    split at hr
    · rename_i v vs' hv hvs
      cases hr
      obtain ⟨V, h1, h2⟩ := hf t v hv
      obtain ⟨Vs, h3, h4⟩ := resultsOf_sim hT hw hf rs hvs
      refine ⟨V :: Vs, ?_, VRL.cons h2 h4⟩
      simp [List.mapM_cons, Sem.run_bind, resF, h1, h3]
    · cases hr
  | .cell x t :: rs, vs, hr => by
    simp only [resultsOf] at hr
    split at hr
    · rename_i o i hp
      split at hr
      · rename_i v vs' hv hvs
        cases hr
        obtain ⟨X, h1, h2⟩ := hf x _ hp
        simp only [VR] at h2
        obtain ⟨L, hL, rfl⟩ := h2
        obtain ⟨V, h5, h6⟩ := aload_sim w hT hw hv hL
        obtain ⟨Vs, h3, h4⟩ := resultsOf_sim hT hw hf rs hvs
        refine ⟨V :: Vs, ?_, VRL.cons h6 h4⟩
        simp [List.mapM_cons, Sem.run_bind, resF, h1, h3, asAddr, h5]
      · cases hr
    · cases hr

theorem results_sim {w0 : World} {β : Inj} {h : AHeap} {w : World} (hT : TabOK P T) (hw : WR w0 β h w) {fr : AFrame} {tmps : Array Value} (hf : FR β fr tmps) {fn : Func} {vs : List AV} (hr : resultsOf T fr h fn.results.toList = some vs) :
    ∃ V, (results fn tmps).run P w = .ok V w ∧ VR β (tupled vs) V := by
  obtain ⟨Vs, h1, h2⟩ := resultsOf_sim hT hw hf _ hr
  have hm : results fn tmps = (do
      let vs ← fn.results.mapM (resF tmps)
      pure (if h : vs.size = 1 then vs[0] else .tuple vs)) := by
    unfold results
    congr 1
  rw [hm, Array.mapM_eq_mapM_toList]
  simp only [Sem.run_bind, Sem.run_map, h1, Result.andThen_ok, Sem.run_pure]
  refine ⟨_, rfl, ?_⟩
  cases vs with
  | nil =>
    have := h2.nil_inv
    subst this
    simp [tupled, VR, VRL]
  | cons v vs =>
    obtain ⟨V, Vs', e1, e2, rfl⟩ := h2.cons_inv
    cases vs with
    | nil =>
      have := e2.nil_inv
      subst this
      simpa [tupled] using e1
    | cons v' vs =>
      obtain ⟨V', Vs'', e3, e4, rfl⟩ := e2.cons_inv
      simp only [tupled, VR]
      exact ⟨_, h2, by simp⟩

theorem unmark_sim {F : Fence} {n : Nat} {fn : Func} {tmps : Array Value} {R : Ending → World → Prop} {w0 : World} {β : Inj} : ∀ (ms : List Nat) {ds : List Deferred} {h h1 : AHeap} {w : World}, WR w0 β h w → DR β ms ds → unmark h ms = some h1 →
    (∀ w1, WR w0 β h1 w1 → Goes β h β h1 → ∃ v, (results fn tmps).run P w1 = .ok v w1 ∧ R (.returned v) w1) → LeavesInM F n P fn tmps R ds .returning w
  | [], ds, h, h1, w, hw, hd, hu, hR => by
    simp only [unmark, Option.some.injEq] at hu
    subst hu
    simp only [DR] at hd
    subst hd
    exact hR w hw (Goes.refl _ _)
  | m :: ms, ds, h, h1, w, hw, hd, hu, hR => by
    obtain ⟨L, ds', hL, rfl, hd'⟩ := hd
    simp only [unmark] at hu
    split at hu
    · rename_i hm
      have hx := hw.obj m _ L hm hL
      have hlt := hx.lt (by simp)
      obtain ⟨d1, d2⟩ := hw.turn hm rfl hL (y := .dead) (w' := { w with heap := w.heap.setIfInBounds L.b (.deferred none) }) trivial rfl rfl rfl (by simp) fun k hk => by
        simp [Array.getElem?_setIfInBounds, Ne.symm hk]
      refine ⟨by simp, .inl ⟨L.b, _, rfl, ?_, unmark_sim ms d1 hd' hu fun w1 q1 q2 => hR w1 q1 (d2.trans q2)⟩⟩
      have hb : w.heap[L.b]? = some (.deferred (some [])) := hx.1
      simp [Instr.takeDeferred, getObj, setObj, Sem.run, Sem.run_bind, Result.andThen, hb]
    · cases hu

/-- A call. -/
theorem callFn_sound (hT : TabOK P T) (hE : EnvOK P E) (hm : P.follows .mixedOrders = true) {A : AFn} {fid n : Nat} (hf : P.funcs[fid]? = some A.fn) {args : List AV} {h h' : AHeap} {r : AV} (hc : callFn E T A fid n args h = some (r, h'))
    {w0 : World} {β : Inj} {w : World} {vals : List Value} (hw : WR w0 β h w) (hv : VRL β args vals) : (∃ c, A.fn.body = some c) ∧ CallsIn (FW none) 0 P fid vals.toArray w (RetPost w0 β h r h') := by
  unfold callFn at hc
  split at hc
  case h_2 => cases hc
  rename_i c hb
  refine ⟨⟨c, hb⟩, ?_⟩
  cases hl : Nat.ble args.length A.fn.ntmps with
  | false => rw [hl] at hc; cases hc
  | true =>
    rw [hl] at hc
    simp only [cond_true] at hc
    have hlen : args.length ≤ A.fn.ntmps := Nat.le_of_ble_eq_true hl
    have hvl : vals.length = args.length := hv.length
    refine callsIn_of_wp_marks hf hb trivial ?_
    have hs : ST w0 β A.fn.ntmps { fr := initFrame args 0, ms := [], h := h } { tmps := vals.toArray ++ Array.replicate (A.fn.ntmps - vals.toArray.size) undef, defers := [] } w := by
      refine ⟨⟨hw, fun t v ht => ?_, ?_⟩, rfl⟩
      · obtain ⟨k, e, hk⟩ := initFrame_get _ _ _ _ ht
        rw [Nat.zero_add] at e
        subst e
        obtain ⟨V, h1, h2⟩ := hv.get _ _ hk
        refine ⟨V, ?_, h2⟩
        have hlt : t < vals.length := by
          rcases Nat.lt_or_ge t vals.length with hh | hh
          · exact hh
          · rw [List.getElem?_eq_none hh] at h1; cases h1
        rw [Array.getElem?_append_left (by simpa using hlt)]
        simpa using h1
      · simp; omega
    have fin : ∀ {s : ASt}, finish T A.fn s = some (r, h') → ∀ β' a' w', ST w0 β' A.fn.ntmps s a' w' → Goes β h β' s.h → LeavesInM (FW none) 0 P A.fn a'.tmps (RetPost w0 β h r h') a'.defers .returning w' := by
      intro s hfin β' a' w' hs' hg
      unfold finish at hfin
      split at hfin
      case h_2 => cases hfin
      rename_i h1 hu
      split at hfin
      case h_2 => cases hfin
      rename_i vs hvs
      cases hfin
      refine unmark_sim s.ms hs'.wr hs'.dr hu fun w1 q1 q2 => ?_
      obtain ⟨V, k1, k2⟩ := results_sim hT q1 hs'.fr hvs
      exact ⟨V, k1, β', V, rfl, k2, q1, hg.trans q2⟩
    split at hc
    · rename_i s he
      exact exec_sound (r := none) hT hE hm c he hs fun β' a' w' q1 q2 => fin hc β' a' w' q1 q2
    · rename_i s he
      exact exec_sound (r := none) hT hE hm c he hs fun β' a' w' q1 q2 => fin hc β' a' w' q1 q2
    · cases hc

theorem setParams_sim {β : Inj} {nt : Nat} : ∀ (ps : List Nat) (xs : List AV) (Xs : List Value) {fr : AFrame} {tmps : Array Value}, FR β fr tmps → tmps.size = nt → inBounds nt ps = true → VRL β xs Xs → xs.length = ps.length →
    FR β (setParams fr ps xs) ((ps.zip Xs).foldl (fun tmps (t, a) => tmps.setIfInBounds t a) tmps) ∧ ((ps.zip Xs).foldl (fun tmps (t, a) => tmps.setIfInBounds t a) tmps).size = nt
  | [], xs, Xs, fr, tmps, hf, hs, hb, hx, hl => by
    have : setParams fr [] xs = fr := by cases xs <;> rfl
    rw [this]
    exact ⟨hf, hs⟩
  | p :: ps, [], Xs, fr, tmps, hf, hs, hb, hx, hl => by simp at hl
  | p :: ps, x :: xs, Xs, fr, tmps, hf, hs, hb, hx, hl => by
    obtain ⟨X, Xs', h1, h2, rfl⟩ := hx.cons_inv
    simp only [inBounds, Bool.and_eq_true] at hb
    have hp : p < tmps.size := by rw [hs]; simpa using hb.1
    simp only [setParams, List.zip_cons_cons, List.foldl_cons]
    refine setParams_sim ps xs Xs' (fun t v ht => ?_) (by simpa using hs) hb.2 h2 (by simpa using hl)
    rw [PT.get_set] at ht
    by_cases e : t = p
    · rw [if_pos e] at ht
      cases ht
      subst e
      exact ⟨X, by simp [hp], h1⟩
    · rw [if_neg e] at ht
      obtain ⟨V, k1, k2⟩ := hf t v ht
      exact ⟨V, by rw [Array.getElem?_setIfInBounds, if_neg (fun h => e h.symm)]; exact k1, k2⟩

/-- A round. -/
theorem callRound_sound (hT : TabOK P T) (hE : EnvOK P E) (hm : P.follows .mixedOrders = true) {Fs : PT AFn} {l n : Nat} {args : List AV} {h h' : AHeap} {r : AV} (hc : callRound E T Fs n l args h = some (r, h'))
    {w0 : World} {β : Inj} {w : World} {vals : List Value} (hw : WR w0 β h w) (hv : VRL β args vals) {Ll : Loc} (hL : β l = some Ll) :
    ∃ fn tmps assign body, (Instr.yield Ll.b vals.toArray).run P w = .ok (.round Ll.b fn tmps assign body) w ∧ RoundIn (FW none) 0 P Ll.b fn tmps assign body w (RetPost w0 β h r h') := by
  unfold callRound at hc
  split at hc
  case h_2 => cases hc
  rename_i L hl
  split at hc
  case h_2 => cases hc
  rename_i A hA
  cases hlen : Nat.beq args.length L.params.length && inBounds L.nt L.params with
  | false => rw [hlen] at hc; cases hc
  | true =>
  rw [hlen] at hc
  simp only [cond_true] at hc
  simp only [Bool.and_eq_true] at hlen
  have hn := Nat.eq_of_beq_eq_true hlen.1
  split at hc
  case h_2 => cases hc
  rename_i s1 he1
  split at hc
  case h_2 => cases hc
  rename_i L1 hl1
  split at hc
  case h_2 => cases hc
  rename_i hst
  split at hc
  case h_2 => cases hc
  rename_i e s2 he2
  split at hc
  case h_2 => cases hc
  rename_i L2 hl2
  obtain ⟨rec, r1, r2, _⟩ := hw.obj _ _ Ll hl hL
  have hsz : vals.toArray.size = rec.params.size := by
    have := hv.length
    have hp : rec.params.size = L.params.length := by rw [← r2.params]; simp
    simp; omega
  refine ⟨rec.fn, ((L.params.zip vals).foldl (fun tmps (t, a) => tmps.setIfInBounds t a) rec.tmps), rec.assign, rec.body, ?_, ?_⟩
  · simp only [Instr.yield, Sem.run_bind, run_getLoop r1, Result.andThen_ok]
    rw [if_neg (by simp only [ne_eq, Decidable.not_not]; exact hsz)]
    simp only [Sem.run_pure, Result.andThen_ok]
    rw [← Array.foldl_toList, Array.toList_zip, r2.params]
  · refine roundIn_of_wpIn trivial ?_
    obtain ⟨p1, p2⟩ := setParams_sim L.params args vals r2.fr r2.nt hlen.2 hv hn
    have hs : ST w0 β L.nt { fr := setParams L.fr L.params args, ms := [], h := h } { tmps := ((L.params.zip vals).foldl (fun tmps (t, a) => tmps.setIfInBounds t a) rec.tmps), defers := [] } w := ⟨⟨hw, p1, p2⟩, rfl⟩
    rw [r2.assign, r2.body]
    refine exec_sound (r := some Ll.b) hT hE hm _ he1 hs fun β1 a1 w1 q1 g1 => ?_
    have hL1 : β1 l = some Ll := hw.le g1 _ _ hL
    obtain ⟨rec1, t1, t2, _⟩ := q1.wr.obj _ _ Ll hl1 hL1
    obtain ⟨u1, u2, u3⟩ := q1.wr.putLoop (P := P) (l' := { L1 with state := .busy }) (r' := { rec1 with state := .busy }) hl1 hL1 t1 { t2 with state := rfl }
    have hst1 : rec1.state = .ready := by rw [t2.state, hst]; rfl
    have hbr : (Instr.beginRound Ll.b).run P w1 = .ok () { w1 with heap := w1.heap.setIfInBounds Ll.b (.loop { rec1 with state := .busy }) } := by
      simp only [Instr.beginRound, Sem.run_bind, run_getLoop t1, Result.andThen_ok, u1, hst1, Sem.run_pure]
    refine ⟨_, hbr, ?_⟩
    refine exec_sound (r := some Ll.b) hT hE hm _ he2 (s := { s1 with h := s1.h.put l (.loop { L1 with state := .busy }) }) ⟨⟨u2, q1.fr, q1.size⟩, q1.dr⟩ fun β2 a2 w2 q2 g2 => ?_
    have hg : Goes β h β2 s2.h := (g1.trans u3).trans g2
    have hL2 : β2 l = some Ll := hw.le hg _ _ hL
    obtain ⟨rec2, x1, x2, _⟩ := q2.wr.obj _ _ Ll hl2 hL2
    have fin : ∀ (j : AExit) (st : ALoopState) (b : Bool), (jumpOf j).isNone = b → stateOf st = (if b then LoopState.ready else LoopState.done) → r = .bool b → h' = s2.h.put l (.loop { L2 with state := st, pending := j }) →
        ∃ v w', (Instr.endRound Ll.b (jumpOf j)).run P w2 = .ok v w' ∧ RetPost w0 β h r h' (.returned v) w' := by
      intro j st b hb hst hr hh
      subst hr hh
      obtain ⟨y1, y2, y3⟩ := q2.wr.putLoop (P := P) (l' := { L2 with state := st, pending := j }) (r' := { rec2 with state := (if b = true then .ready else .done), pending := jumpOf j }) hl2 hL2 x1 { x2 with state := by rw [hst], pending := rfl }
      refine ⟨.bool b, _, ?_, β2, .bool b, rfl, by simp [VR], y2, hg.trans y3⟩
      simp only [Instr.endRound, Sem.run_bind, run_getLoop x1, Result.andThen_ok, y1, Sem.run_pure, hb]
    cases e with
    | normal =>
      cases hc
      exact fin .normal .ready true rfl rfl rfl rfl
    | exit id =>
      cases hc
      exact fin (.exit id) .done false rfl rfl rfl rfl
    | ret =>
      cases hc
      exact fin .ret .done false rfl rfl rfl rfl

/-- What is asked of a library function told by what it does. -/
def PrimOK (P : Program) (f : Nat) (p : Env → List AV → AHeap → Option (AV × AHeap)) : Prop :=
  (∃ fn c, P.funcs[f]? = some fn ∧ fn.body = some c ∧ ¬ fn.name = "runtime.NumGoroutine") ∧
    ∀ E, EnvOK P E → ∀ args h r h', p E args h = some (r, h') → ∀ w0 β w vals, WR w0 β h w → VRL β args vals → CallsIn (FW none) 0 P f vals.toArray w (RetPost w0 β h r h')

/-- Of one without a body: the model's own entry. -/
def ExtOK (P : Program) (f : Nat) (p : Env → List AV → AHeap → Option (AV × AHeap)) : Prop :=
  ∀ E, EnvOK P E → ∀ args h r h', p E args h = some (r, h') → ∀ w0 β w vals, WR w0 β h w → VRL β args vals → ∃ V w', (callFunc f vals.toArray).run P w = .ok (.value V) w' ∧ RetPost w0 β h r h' (.returned V) w'

/-- **What the abstract machine hands back, the model hands back.** -/
theorem mkE_sound (hT : TabOK P T) (hm : P.follows .mixedOrders = true) {Fs : PT AFn} (hFs : ∀ f A, Fs.get f = some A → P.funcs[f]? = some A.fn ∧ ¬ A.fn.name = "runtime.NumGoroutine") {Pr : Prims} (hPr : ∀ f p, Pr f = some p → PrimOK P f p ∨ ExtOK P f p) :
    ∀ n, EnvOK P (mkE T Fs Pr n)
  | 0 => fun c args h r h' he => by cases he
  | n + 1 => by
    have ih := mkE_sound hT hm hFs hPr n
    intro c args h r h' he w0 β w vals hw hv
    cases c with
    | fn f =>
      simp only [mkE] at he
      split at he
      · rename_i p hp
        rcases hPr f p hp with hP | hP
        · exact .inl ⟨hP.1, hP.2 _ ih args h r h' he w0 β w vals hw hv⟩
        · exact .inr (hP _ ih args h r h' he w0 β w vals hw hv)
      · split at he
        · rename_i A hA
          obtain ⟨h1, h2⟩ := hFs f A hA
          obtain ⟨⟨c, hb⟩, hC⟩ := callFn_sound hT ih hm h1 he hw hv
          exact .inl ⟨⟨A.fn, c, h1, hb, h2⟩, hC⟩
        · cases he
    | enter f =>
      simp only [mkE] at he
      split at he
      · cases he
      · split at he
        · rename_i A hA
          obtain ⟨h1, h2⟩ := hFs f A hA
          obtain ⟨⟨c, hb⟩, hC⟩ := callFn_sound hT ih hm h1 he hw hv
          exact ⟨⟨A.fn, c, h1, hb, h2⟩, hC⟩
        · cases he
    | yield l =>
      intro L hL
      exact callRound_sound hT ih hm he hw hv hL
end
end Go.Am
