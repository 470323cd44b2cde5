/-
  Regions in their order: a walk of the model's region out of the abstract machine's run.
  What a plan says; operations that do not hang on the heap, or make one block.
  What a plan that is right says.
  A region that draws its order: in whatever order the model takes its operations, it comes to what the abstract machine's run by the plan tells.
  A region that draws its order: the plan's run goes ahead; the model's order follows.
  A region that draws its order: the walk.
  Code: a walk of the model's code out of the abstract machine's run.
  Functions: calls and rounds of the model out of the abstract machine's.
  Tables: of types, checked; of functions.
  More rounds and calls in one another change no answer; the limit of the abstract machine's environments.
  The abstract machine's runs with what comes behind handed in: so that a run over code that is known comes, by reckoning alone, to a plain text.
-/
import Derived.CallsIn
import Derived.RangeFuncIn
import Derived.RangeFuncLeaves
import Derived.OrdersIn
import Derived.LoopNIn
import Derived.Scope
import Derived.Test.YtaolgkpabgmnkaaMA

set_option linter.unusedVariables false
set_option linter.unusedSimpArgs false
namespace Go.Am

/-- A fence that keeps nobody out, with the round that its frames are of. -/
def FW (r : Option Nat) : Fence := { fn := fun _ => True, depth := none, alive := false, round := r }

/-- What a call hands back. -/
def RetPost (w0 : World) (β : Inj) (h : AHeap) (r : AV) (h' : AHeap) : Ending → World → Prop := fun e w' =>
  ∃ β' V, e = .returned V ∧ VR β' r V ∧ WR w0 β' h' w' ∧ Goes β h β' h'

/-- What calls come to, holds of the model. -/
def EnvOK (P : Program) (E : Env) : Prop := ∀ c args h r h', E c args h = some (r, h') → ∀ w0 β w vals, WR w0 β h w → VRL β args vals →
  match c with
  | .fn f => ((∃ fn c, P.funcs[f]? = some fn ∧ fn.body = some c ∧ ¬ fn.name = "runtime.NumGoroutine") ∧ CallsIn (FW none) 0 P f vals.toArray w (RetPost w0 β h r h')) ∨
      ∃ V w', (callFunc f vals.toArray).run P w = .ok (.value V) w' ∧ RetPost w0 β h r h' (.returned V) w'
  | .enter f => (∃ fn c, P.funcs[f]? = some fn ∧ fn.body = some c ∧ ¬ fn.name = "runtime.NumGoroutine") ∧ CallsIn (FW none) 0 P f vals.toArray w (RetPost w0 β h r h')
  | .yield o => ∀ L, β o = some L → ∃ fn tmps assign body, (Instr.yield L.b vals.toArray).run P w = .ok (.round L.b fn tmps assign body) w ∧ RoundIn (FW none) 0 P L.b fn tmps assign body w (RetPost w0 β h r h')

section
variable {P : Program} {T : Tab} {E : Env}

theorem callsIn_any {r : Option Nat} {n : Nat} {f : FuncId} {args : Array Value} {w : World} {R : Ending → World → Prop} (h : CallsIn (FW none) n P f args w R) : CallsIn (FW r) n P f args w R := h

theorem roundIn_any {r : Option Nat} {n l : Nat} {f : FuncId} {tmps : Array Value} {assign body : Code} {w : World} {R : Ending → World → Prop} (h : RoundIn (FW none) n P l f tmps assign body w R) : RoundIn (FW r) n P l f tmps assign body w R := h

/-- What an operation comes to, calls and all. -/
def opRes (E : Env) (T : Tab) (ρ : Operand → Option AV) (o : Oper) (h : AHeap) : Option (Option AV × AHeap) :=
  match aop T ρ h o.op with
  | some (.val v h') => some (v, h')
  | some (.call c args) => match E c args h with
    | some (r, h') => some (some r, h')
    | none => none
  | none => none

theorem op_wp {w0 : World} {β : Inj} {h h' : AHeap} {w : World} {a : Act} (hT : TabOK P T) (hE : EnvOK P E) (hw : WR w0 β h w) {ρ : Operand → Option AV} (hr : RhoR β ρ a.eval) {o : Oper} {v : Option AV} (ho : opRes E T ρ o h = some (v, h'))
    {rd : Option Nat} {next : Act → World → Prop} {Q : Exit → Act → World → Prop}
    (hn : ∀ β' V w', (∀ x, v = some x → VR β' x V) → WR w0 β' h' w' → Goes β h β' h' → next (a.put o.dst V) w') :
    o.wpIn (FW rd) 0 P a w next Q := by
  refine ⟨fun _ _ => trivial, ?_⟩
  have hnd : ∀ c, o.op ≠ .defer c := by
    intro c hc
    simp [opRes, hc, aop] at ho
  rw [Oper.semAt_eq _ _ _ hnd]
  unfold opRes at ho
  split at ho
  · rename_i v' h'' hop
    cases ho
    obtain ⟨β', w', nx, r1, r2, r3, r4⟩ := aop_val hT hw hr hop
    rw [r1]
    rcases r2 with ⟨rfl, rfl⟩ | ⟨V, rfl, hv⟩
    · exact hn β' undef w' (fun x hx => by cases hx) r3 r4
    · exact hn β' V w' hv r3 r4
  · rename_i c args hop
    split at ho
    · rename_i r h'' hEc
      cases ho
      obtain ⟨cc, f, g, as, e1, e2, e3, e4, e5⟩ := aop_call_inv hop
      have hV := aevL_sim hr e4
      obtain ⟨d, vals, d1, d2, d3⟩ := acallV_sim e5 (hr _ _ e3) hV w
      have hmap : cc.args.map a.eval = (cc.args.toList.map a.eval).toArray := by apply Array.ext'; simp
      have hres : (execOp a.eval o).run P w = (invoke d.target d.args).run P w := by
        unfold execOp
        rw [e1]
        simp only [resolve, e2, Sem.run_bind]
        rw [hmap, d1]
        rfl
      rw [hres]
      have hcall := hEc
      rcases d3 with ⟨f', rfl, hinv⟩ | ⟨o', L, rfl, hL, hinv⟩
      · rcases hE _ _ _ _ _ hEc w0 β w vals hw d2 with hX | ⟨V, w', hcf, β', V', hVV, q1, q2, q3⟩
        case inr =>
          rw [hinv, hcf]
          cases hVV
          exact hn β' V w' (fun x hx => by cases hx; exact q1) q2 q3
        obtain ⟨⟨fn, body, p1, p2, p3⟩, hC⟩ := hX
        have hcf : (callFunc f' vals.toArray).run P w = .ok (.enter f' vals.toArray) w := by
          simp [callFunc, p1, p2, p3]
        rw [hinv, hcf]
        refine ⟨fun hh => by simp [FW] at hh, (callsIn_any hC).mono ?_⟩
        rintro e w' ⟨β', V, rfl, q1, q2, q3⟩
        exact hn β' V w' (fun x hx => by cases hx; exact q1) q2 q3
      · obtain ⟨fn, tmps, assign, body, y1, y2⟩ := hE _ _ _ _ _ hEc w0 β w vals hw d2 L hL
        rw [hinv, y1]
        refine ⟨fun hh => by simp [FW] at hh, (roundIn_any y2).mono ?_⟩
        rintro e w' ⟨β', V, rfl, q1, q2, q3⟩
        exact hn β' V w' (fun x hx => by cases hx; exact q1) q2 q3
    · cases ho
  · cases ho

theorem size_put (a : Act) (dst : Option Tmp) (V : Value) : (a.put dst V).tmps.size = a.tmps.size := by
  cases dst <;> simp [Act.put]

theorem defers_put (a : Act) (dst : Option Tmp) (V : Value) : (a.put dst V).defers = a.defers := by
  cases dst <;> simp [Act.put]

theorem FR.put {β : Inj} {fr fr' : AFrame} {a : Act} {nt : Nat} {dst : Option Tmp} {v : Option AV} {V : Value} (hf : FR β fr a.tmps) (hs : a.tmps.size = nt) (hp : putT nt fr dst v = some fr') (hv : ∀ x, v = some x → VR β x V) :
    FR β fr' (a.put dst V).tmps := by
  unfold putT at hp
  cases dst with
  | none => cases hp; exact hf
  | some d =>
    cases hb : Nat.blt d nt with
    | false => simp only [hb, cond_false] at hp; cases hp
    | true =>
      simp only [hb, cond_true, Option.some.injEq] at hp
      subst hp
      have hlt : d < a.tmps.size := by rw [hs]; simpa using hb
      intro t x hx
      rw [PT.get_set] at hx
      by_cases ht : t = d
      · subst ht
        rw [if_pos rfl] at hx
        exact ⟨V, by simp [Act.put, hlt], hv x hx⟩
      · rw [if_neg ht] at hx
        obtain ⟨X, h1, h2⟩ := hf t x hx
        refine ⟨X, ?_, h2⟩
        simp only [Act.put]
        rw [Array.getElem?_setIfInBounds, if_neg (fun e => ht e.symm)]
        exact h1

theorem opGo_eq {nt : Nat} {o : Oper} {fr fr' : AFrame} {h h' : AHeap} (hg : opGo E T nt o fr h = some (fr', h')) : ∃ v, opRes E T (aev fr) o h = some (v, h') ∧ putT nt fr o.dst v = some fr' := by
  unfold opGo at hg
  unfold opRes
  split at hg
  · rename_i v h1 hop
    split at hg
    · rename_i fr1 hp
      cases hg
      exact ⟨v, by rw [hop], hp⟩
    · cases hg
  · rename_i c args hop
    split at hg
    · rename_i r h1 hE
      split at hg
      · rename_i fr1 hp
        cases hg
        exact ⟨some r, by rw [hop]; simp [hE], hp⟩
      · cases hg
    · cases hg
  · cases hg

/-- The guard, as the model asks it. -/
theorem guardBy_sim {β : Inj} {ops : Array Oper} {g : Tmp → Option AV} {tmps : Array Value} {o : Oper} {b : Bool} (hf : ∀ t v, g t = some v → ∃ V, tmps[t]? = some V ∧ VR β v V) (hg : guardBy ops.toList g o = some b) : Region.wanted o (yielded ops tmps) = b := by
  unfold guardBy at hg
  unfold Region.wanted
  split at hg
  · rename_i e
    cases hg
    rw [e]
  · rename_i j want e
    rw [e]
    split at hg
    · rename_i oj hj
      split at hg
      · rename_i t ht
        split at hg
        · rename_i b' hb
          cases hg
          obtain ⟨V, h1, h2⟩ := hf t _ hb
          simp only [VR] at h2; subst h2
          have hj' : ops[j]? = some oj := by simpa using hj
          simp [yielded, hj', ht, h1]
        · rename_i hb
          cases hg
          obtain ⟨V, h1, h2⟩ := hf t _ hb
          simp only [VR] at h2
          obtain ⟨vs, h3, rfl⟩ := h2
          have hj' : ops[j]? = some oj := by simpa using hj
          simp [yielded, hj', ht, h1]
        · cases hg
      · cases hg
    · cases hg

theorem guard_sim {β : Inj} {ops : Array Oper} {fr : AFrame} {a : Act} {o : Oper} {b : Bool} (hf : FR β fr a.tmps) (hg : guardOf ops.toList fr o = some b) : Region.wanted o (yielded ops a.tmps) = b :=
  guardBy_sim hf hg

/-- What stands of a frame, a heap, and a world. -/
structure SR (w0 : World) (β : Inj) (nt : Nat) (fr : AFrame) (h : AHeap) (a : Act) (w : World) : Prop where
  wr : WR w0 β h w
  fr : FR β fr a.tmps
  size : a.tmps.size = nt

theorem opStep_wp {w0 : World} {β : Inj} {nt : Nat} {fr fr' : AFrame} {h h' : AHeap} {w : World} {a : Act} {ops : Array Oper} (hT : TabOK P T) (hE : EnvOK P E) (hs : SR w0 β nt fr h a w) {o : Oper} (ho : opStep E T nt ops.toList o fr h = some (fr', h'))
    {rd : Option Nat} {next : Act → World → Prop} {Q : Exit → Act → World → Prop}
    (hn : ∀ β' a' w', SR w0 β' nt fr' h' a' w' → Goes β h β' h' → a'.defers = a.defers → next a' w') :
    (if Region.wanted o (yielded ops a.tmps) then o.wpIn (FW rd) 0 P a w next Q else (∀ f, o.about P w a.eval = some f → (FW rd).fn f) ∧ next (a.put o.dst undef) w) := by
  unfold opStep at ho
  split at ho
  · rename_i hg
    rw [guard_sim hs.fr hg, if_pos rfl]
    obtain ⟨v, h1, h2⟩ := opGo_eq ho
    refine op_wp hT hE hs.wr hs.fr.rho h1 fun β' V w' q1 q2 q3 => hn β' _ w' ⟨q2, ?_, by rw [size_put]; exact hs.size⟩ q3 (defers_put _ _ _)
    exact (hs.fr.mono (hs.wr.le q3)).put hs.size h2 q1
  · rename_i hg
    rw [guard_sim hs.fr hg, if_neg (by simp)]
    split at ho
    · rename_i fr1 hp
      cases ho
      refine ⟨fun _ _ => trivial, hn β _ w ⟨hs.wr, ?_, by rw [size_put]; exact hs.size⟩ (Goes.refl _ _) (defers_put _ _ _)⟩
      exact hs.fr.put hs.size hp (fun x hx => by cases hx; simp only [VR]; exact ⟨[], VRL.nil, rfl⟩)
    · cases ho
  · cases ho

theorem runSeq_wp (hT : TabOK P T) (hE : EnvOK P E) {w0 : World} {nt : Nat} {ops : Array Oper} {rd : Option Nat} {Q : Exit → Act → World → Prop} :
    ∀ (d k : Nat), k + d = ops.size → ∀ {β : Inj} {fr fr' : AFrame} {h h' : AHeap} {w : World} {a : Act}, SR w0 β nt fr h a w → runSeq E T nt ops.toList (ops.toList.drop k) fr h = some (fr', h') →
      (∀ β' a' w', SR w0 β' nt fr' h' a' w' → Goes β h β' h' → a'.defers = a.defers → Q .normal a' w') →
      wpOpsIn (FW rd) 0 P ops Q ((List.range ops.size).drop k) a w := by
  intro d
  induction d with
  | zero =>
    intro k hk β fr fr' h h' w a hs hr hQ
    rw [List.drop_of_length_le (by simp; omega)] at hr ⊢
    simp only [runSeq, Option.some.injEq, Prod.mk.injEq] at hr
    obtain ⟨rfl, rfl⟩ := hr
    exact hQ β a w hs (Goes.refl _ _) rfl
  | succ d ih =>
    intro k hk β fr fr' h h' w a hs hr hQ
    have hlt : k < ops.size := by omega
    rw [List.drop_eq_getElem_cons (by simpa using hlt)] at hr ⊢
    simp only [runSeq] at hr
    simp only [List.getElem_range, wpOpsIn]
    have hget : ops[k]? = some ops[k] := Array.getElem?_eq_getElem hlt
    rw [hget]
    split at hr
    · rename_i fr1 h1 hst
      refine opStep_wp hT hE hs (by simpa using hst) fun β1 a1 w1 s1 g1 d1 => ?_
      exact ih (k + 1) (by omega) s1 hr fun β2 a2 w2 s2 g2 d2 => hQ β2 a2 w2 s2 (g1.trans g2) (d2.trans d1)
    · cases hr

theorem region_wp (hT : TabOK P T) (hE : EnvOK P E) {w0 : World} {nt : Nat} {ops : Array Oper} {id : Nat} {rd : Option Nat} {Q : Exit → Act → World → Prop} {β : Inj} {fr fr' : AFrame} {h h' : AHeap} {w : World} {a : Act} (hs : SR w0 β nt fr h a w)
    (hr : runSeq E T nt ops.toList ops.toList fr h = some (fr', h')) (hQ : ∀ β' a' w', SR w0 β' nt fr' h' a' w' → Goes β h β' h' → a'.defers = a.defers → Q .normal a' w') :
    (Code.region id ops false).wpIn (FW rd) 0 P Q a w :=
  wpIn_region (by simpa using runSeq_wp hT hE ops.size 0 (by omega) hs (by simpa using hr) hQ)
end
end Go.Am

set_option linter.unusedVariables false
set_option linter.unusedSimpArgs false
namespace Go.Am

section congr
variable {T : Tab}

theorem aevL_congr {ρ ρ' : Operand → Option AV} : ∀ {xs : List Operand}, (∀ x ∈ xs, ρ x = ρ' x) → aevL ρ xs = aevL ρ' xs
  | [], _ => rfl
  | x :: xs, h => by
    simp only [aevL]
    rw [h x List.mem_cons_self, aevL_congr fun y hy => h y (List.mem_cons_of_mem _ hy)]

theorem parts_congr {ρ ρ' : Operand → Option AV} : ∀ {xs : List (Nat × Operand)}, (∀ x ∈ xs, ρ x.2 = ρ' x.2) → parts ρ xs = parts ρ' xs
  | [], _ => rfl
  | (i, x) :: xs, h => by
    simp only [parts]
    rw [h (i, x) List.mem_cons_self, parts_congr fun y hy => h y (List.mem_cons_of_mem _ hy)]

theorem map_congr' {ρ ρ' : Operand → Option AV} {x : Option Operand} (h : ∀ y, x = some y → ρ y = ρ' y) : x.map ρ = x.map ρ' := by
  cases x with
  | none => rfl
  | some y => simp [h y rfl]

theorem aop_congr {ρ ρ' : Operand → Option AV} (h : AHeap) (op : Op) (hr : ∀ x ∈ op.operands, ρ x = ρ' x) : aop T ρ h op = aop T ρ' h op := by
  cases op <;> simp only [aop]
  case move x => rw [hr x (by simp [Op.operands])]
  case assign x => rw [hr x (by simp [Op.operands])]
  case pick c a b => rw [hr c (by simp [Op.operands]), hr a (by simp [Op.operands]), hr b (by simp [Op.operands])]
  case box e x => rw [hr x (by simp [Op.operands])]
  case build t ps => rw [parts_congr (ρ := ρ) (ρ' := ρ') fun x hx => hr x.2 (by simp only [Op.operands, List.mem_toArray, List.mem_map]; exact ⟨x, hx, rfl⟩)]
  case buildSlice t n ps => rw [parts_congr (ρ := ρ) (ρ' := ρ') fun x hx => hr x.2 (by simp only [Op.operands, List.mem_toArray, List.mem_map]; exact ⟨x, hx, rfl⟩)]
  case insert t m k x => rw [hr m (by simp [Op.operands]), hr k (by simp [Op.operands]), hr x (by simp [Op.operands])]
  case load t a => rw [hr a (by simp [Op.operands])]
  case store t a x => rw [hr a (by simp [Op.operands]), hr x (by simp [Op.operands])]
  case nilCheck x => rw [hr x (by simp [Op.operands])]
  case binOp op t x y yt => rw [hr x (by simp [Op.operands]), hr y (by simp [Op.operands])]
  case unOp op t x => rw [hr x (by simp [Op.operands])]
  case convert s d x => rw [hr x (by simp [Op.operands])]
  case makeFunc fn first captured =>
    rw [aevL_congr (ρ := ρ) (ρ' := ρ') (xs := first.toList) fun x hx => hr x (by simp only [Op.operands, Array.mem_append]; exact .inl (by simpa using hx)),
      aevL_congr (ρ := ρ) (ρ' := ρ') (xs := captured.toList) fun x hx => hr x (by simp only [Op.operands, Array.mem_append]; exact .inr (by simpa using hx))]
  case makeMap t r =>
    cases r with
    | none => rfl
    | some r => simp only; rw [hr r (by simp [Op.operands])]
  case makeSlice t l c => rw [hr l (by simp [Op.operands]), hr c (by simp [Op.operands])]
  case slice t x lo hi mx =>
    rw [hr x (by simp [Op.operands]), map_congr' (ρ := ρ) (ρ' := ρ') (x := lo) fun y hy => hr y (by subst hy; simp [Op.operands]), map_congr' (ρ := ρ) (ρ' := ρ') (x := hi) fun y hy => hr y (by subst hy; simp [Op.operands])]
  case fieldAddr s x f => rw [hr x (by simp [Op.operands])]
  case field s x f => rw [hr x (by simp [Op.operands])]
  case indexAddr t x i => rw [hr x (by simp [Op.operands]), hr i (by simp [Op.operands])]
  case index t x i => rw [hr x (by simp [Op.operands]), hr i (by simp [Op.operands])]
  case lookup t x i ok => rw [hr x (by simp [Op.operands]), hr i (by simp [Op.operands])]
  case mapUpdate t m k x => rw [hr m (by simp [Op.operands]), hr k (by simp [Op.operands]), hr x (by simp [Op.operands])]
  case mapEntry t m k => rw [hr m (by simp [Op.operands]), hr k (by simp [Op.operands])]
  case entryStore t m s x => rw [hr m (by simp [Op.operands]), hr s (by simp [Op.operands]), hr x (by simp [Op.operands])]
  case extract x i => rw [hr x (by simp [Op.operands])]
  case call c =>
    rw [aevL_congr (ρ := ρ) (ρ' := ρ') (xs := c.args.toList) fun x hx => hr x (by simp only [Op.operands, Call.operands, Array.mem_append]; exact .inr (by simpa using hx))]
    cases hc : c.callee with
    | value f => simp only; rw [hr f (by simp [Op.operands, Call.operands, hc])]
    | invoke r m => rfl
    | builtin b => rfl

/-- What is pure does not hang on the heap. -/
theorem aop_pure {ρ : Operand → Option AV} {h h1 : AHeap} {op : Op} {v : Option AV} (hc : clsOf T op = .pure) (ha : aop T ρ h op = some (.val v h1)) : h1 = h ∧ ∀ h2, aop T ρ h2 op = some (.val v h2) := by
  have r1 : ∀ {r}, ret1 h r = some (.val v h1) → h1 = h ∧ ∀ h2, ret1 h2 r = some (.val v h2) := by
    intro r hr
    obtain ⟨x, rfl, rfl, rfl⟩ := ret1_inv hr
    exact ⟨rfl, fun _ => rfl⟩
  cases op <;> simp only [clsOf, reduceCtorEq] at hc <;> simp only [aop] at ha ⊢
  case move => cases ha; exact ⟨rfl, fun _ => rfl⟩
  case assign => cases ha; exact ⟨rfl, fun _ => rfl⟩
  case pick => split at ha <;> cases ha; exact ⟨rfl, fun _ => rfl⟩
  case build => split at ha <;> first | exact r1 ha | cases ha
  case nilCheck => split at ha <;> cases ha <;> exact ⟨rfl, fun _ => rfl⟩
  case binOp => split at ha <;> first | exact r1 ha | cases ha
  case unOp => split at ha <;> first | exact r1 ha | cases ha
  case makeFunc => split at ha <;> first | (split at ha <;> cases ha; exact ⟨rfl, fun _ => rfl⟩) | cases ha
  case slice => split at ha <;> first | exact r1 ha | cases ha
  case fieldAddr => split at ha <;> first | exact r1 ha | cases ha
  case field => split at ha <;> first | exact r1 ha | cases ha
  case indexAddr => split at ha <;> first | exact r1 ha | cases ha
  case index => split at ha <;> first | exact r1 ha | cases ha
  case extract => split at ha <;> first | exact r1 ha | cases ha
  case convert s d x =>
    split at hc
    · rename_i k _ _ _ _ hd
      split at ha
      · rename_i a hx
        obtain ⟨z, h2, rfl⟩ := ret2_inv ha
        unfold aconvert at h2 ⊢
        rw [hd] at h2 ⊢
        cases hs : T.get s with
        | none => rw [hs] at h2; cases h2
        | some st =>
          obtain ⟨ds, _, _, _, _⟩ := st
          rw [hs] at h2
          cases a <;> simp only [reduceCtorEq, Option.some.injEq, Prod.mk.injEq] at h2
          obtain ⟨rfl, rfl⟩ := h2
          exact ⟨rfl, fun _ => rfl⟩
      · cases ha
    · cases hc
    · cases hc
  case call c =>
    split at ha
    · rename_i as hargs
      cases hcal : c.callee with
      | value f => rw [hcal] at hc; cases hc
      | invoke r m => rw [hcal] at ha; cases ha
      | builtin b =>
        rw [hcal] at hc ha
        cases b <;> simp only [reduceCtorEq] at hc <;> simp only at ha ⊢
        all_goals split at ha <;> first | exact r1 ha | contradiction | (cases ha; done)
    · cases ha

/-- What is converted to a text, is read. -/
theorem aconvert_str {h h1 : AHeap} {s d : Nat} {a z : AV} {n b : Nat} {g : Bool} {zz : AV} (hd : T.get d = some ⟨.str, n, b, g, zz⟩) (ha : aconvert T h s d a = some (z, h1)) :
    h1 = h ∧ ∀ h2 : AHeap, (∀ o y, h.get o = some y → h2.get o = some y) → aconvert T h2 s d a = some (z, h2) := by
  unfold aconvert at ha ⊢
  rw [hd] at ha ⊢
  cases hs : T.get s with
  | none => rw [hs] at ha; cases ha
  | some ts =>
    obtain ⟨ds, _, _, _, _⟩ := ts
    rw [hs] at ha
    simp only at ha ⊢
    have row : ∀ {x : AV} {cs : List AV} {h2 : AHeap}, (∀ o y, h.get o = some y → h2.get o = some y) → rowOf h x 1 = some cs → rowOf h2 x 1 = some cs := by
      intro x cs h2 hh hr
      cases x <;> simp only [rowOf] at hr ⊢ <;> try exact hr
      rename_i o off len e
      cases hb : Nat.beq e 1 with
      | false => rw [hb] at hr; cases hr
      | true =>
        rw [hb] at hr
        simp only [cond_true] at hr ⊢
        cases ho : h.get o with
        | none => rw [ho] at hr; cases hr
        | some y =>
          rw [ho] at hr
          rw [hh o y ho]
          exact hr
    cases a
    case str t => cases ha; exact ⟨rfl, fun _ _ => rfl⟩
    all_goals
      cases ds <;> simp only [reduceCtorEq] at ha ⊢
      rename_i e
      cases he : T.get e with
      | none => rw [he] at ha; cases ha
      | some te =>
        rw [he] at ha
        try simp only at ha ⊢
        split at ha
        · rename_i hte
          split at ha
          · rename_i cs hcs
            split at ha
            · rename_i bs hbs
              cases ha
              refine ⟨rfl, fun h2 hh => ?_⟩
              simp only [hte, row hh hcs, hbs]
            · cases ha
          · cases ha
        · cases ha

/-- What reads leaves the heap as it is. -/
theorem aop_read {ρ : Operand → Option AV} {h h1 : AHeap} {op : Op} {v : Option AV} (hc : clsOf T op = .read) (ha : aop T ρ h op = some (.val v h1)) : h1 = h := by
  have r1 : ∀ {r}, ret1 h r = some (.val v h1) → h1 = h := by
    intro r hr
    obtain ⟨x, rfl, rfl, rfl⟩ := ret1_inv hr
    rfl
  cases op <;> simp only [clsOf, reduceCtorEq] at hc <;> simp only [aop] at ha
  case load => split at ha <;> first | exact r1 ha | cases ha
  case lookup => split at ha <;> first | exact r1 ha | cases ha
  case convert s d x =>
    split at hc
    · cases hc
    · rename_i hd
      split at ha
      · obtain ⟨z, h2, rfl⟩ := ret2_inv ha
        exact (aconvert_str hd h2).1
      · cases ha
    · cases hc
  case call c =>
    split at ha
    · rename_i as hargs
      cases hcal : c.callee with
      | value f => rw [hcal] at hc; cases hc
      | invoke r m => rw [hcal] at ha; cases ha
      | builtin b =>
        rw [hcal] at hc ha
        cases b <;> simp only [reduceCtorEq] at hc <;> simp only at ha
        all_goals split at ha <;> first | exact r1 ha | contradiction | (cases ha; done)
    · cases ha

/-- What reads reads the same in a heap that has an object more. -/
theorem aop_read_add {ρ : Operand → Option AV} {h : AHeap} {op : Op} {v : Option AV} (x : AObj) (hwf : h.get h.next = none) (hc : clsOf T op = .read) (ha : aop T ρ h op = some (.val v h)) : aop T ρ (h.add x) op = some (.val v (h.add x)) := by
  have hget : ∀ o y, h.get o = some y → (h.add x).get o = some y := fun o y e => by
    rw [AHeap.get_add_ne _ _ (fun e' => by subst e'; rw [hwf] at e; cases e)]; exact e
  have r1 : ∀ {r r'}, (∀ z, r = some z → r' = some z) → ret1 h r = some (.val v h) → ret1 (h.add x) r' = some (.val v (h.add x)) := by
    intro r r' hrr hr
    obtain ⟨z, rfl, rfl, _⟩ := ret1_inv hr
    rw [hrr z rfl]; rfl
  cases op <;> simp only [clsOf, reduceCtorEq] at hc <;> simp only [aop] at ha ⊢
  case load t a =>
    split at ha
    · refine r1 (fun z hz => ?_) ha
      unfold aload at hz ⊢
      split at hz
      · rename_i vs rw' ty ho ht
        rw [hget _ _ ho, ht]
        exact hz
      · cases hz
    · cases ha
  case lookup t a i ok =>
    split at ha
    · rename_i x k hx hk
      refine r1 (fun z hz => ?_) ha
      unfold alookup at hz ⊢
      cases ht : T.get t with
      | none => rw [ht] at hz; cases hz
      | some ty =>
        rw [ht] at hz
        obtain ⟨d, _, _, _, _⟩ := ty
        cases d <;> simp only [reduceCtorEq] at hz
        rename_i kind e
        simp only
        cases hok : keyOk kind k with
        | false => rw [hok] at hz; cases hz
        | true =>
          rw [hok] at hz
          simp only [cond_true] at hz ⊢
          cases he : T.get e with
          | none => rw [he] at hz; cases hz
          | some te =>
            rw [he] at hz
            simp only at hz ⊢
            cases x <;> simp only [reduceCtorEq] at hz ⊢
            case nilmap => exact hz
            case map o =>
              cases ho : h.get o with
              | none => rw [ho] at hz; cases hz
              | some y =>
                rw [ho] at hz
                rw [hget _ _ ho]
                exact hz
    · cases ha
  case convert s d y =>
    split at hc
    · cases hc
    · rename_i hd
      split at ha
      · rename_i a hx
        obtain ⟨z, h2, rfl⟩ := ret2_inv ha
        rw [(aconvert_str hd h2).2 (h.add x) hget]
        rfl
      · cases ha
    · cases hc
  case call c =>
    split at ha
    · rename_i as hargs
      cases hcal : c.callee with
      | value f => rw [hcal] at hc; cases hc
      | invoke r m => rw [hcal] at ha; cases ha
      | builtin b =>
        rw [hcal] at hc ha
        cases b <;> simp only [reduceCtorEq] at hc <;> simp only at ha ⊢
        split at ha <;> first | contradiction | skip
        · rename_i y t _ _
          refine r1 (fun z hz => ?_) ha
          unfold alen at hz ⊢
          cases ht : T.get t with
          | none => rw [ht] at hz; cases hz
          | some ty =>
            rw [ht] at hz
            obtain ⟨d, _, _, _, _⟩ := ty
            cases d <;> cases y <;> simp only [reduceCtorEq] at hz ⊢ <;> first | exact hz | skip
            rename_i o
            cases ho : h.get o with
            | none => rw [ho] at hz; cases hz
            | some y =>
              rw [ho] at hz
              rw [hget _ _ ho]
              exact hz
    · cases ha

/-- What makes a block: one object more; what it is, and its value by its number; and so it is in the model. -/
theorem aop_alloc {P : Program} (hT : TabOK P T) {ρ : Operand → Option AV} {h h1 : AHeap} {o : Oper} {v : Option AV} (hc : clsOf T o.op = .alloc) (ha : aop T ρ h o.op = some (.val v h1)) :
    ∃ x k, v = some (k h.next) ∧ h1 = h.add x ∧ ∀ β (w : World) σ, RhoR β ρ σ → ∃ S : Sem Value, execOp σ o = (do pure (.value (← S))) ∧ AllocSim P β w S x k := by
  obtain ⟨dst, op, ty, pos, after, guard⟩ := o
  simp only at hc ha
  unfold execOp
  simp only
  cases op <;> simp only [clsOf, reduceCtorEq] at hc <;> simp only [aop] at ha ⊢
  case alloc e =>
    split at ha
    · rename_i te he
      obtain ⟨x, h2, rfl⟩ := ret2_inv ha
      obtain ⟨hone, rfl, rfl⟩ := newCells_inv h2
      exact ⟨.cells te.zero.cells true, fun o => .ptr o 0, rfl, rfl, fun β w σ _ => ⟨_, rfl, alloc_alloc w hT he hone⟩⟩
    · cases ha
  case box e x =>
    split at ha
    · rename_i xv hx
      obtain ⟨y, h2, rfl⟩ := ret2_inv ha
      obtain ⟨hone, rfl, rfl⟩ := newCells_inv h2
      exact ⟨.cells xv.cells true, fun o => .ptr o 0, rfl, rfl, fun β w σ hr => ⟨_, rfl, alloc_box w e (hr x _ hx) hone⟩⟩
    · cases ha
  case buildSlice t len ps =>
    split at ha
    · rename_i qs hq
      obtain ⟨x, h2, rfl⟩ := ret2_inv ha
      obtain ⟨ob, k, rfl, rfl, hA⟩ := alloc_buildSlice hT h2
      exact ⟨ob, k, rfl, rfl, fun β w σ hr => ⟨_, rfl, hA β w _ (by simpa using parts_sim hr hq)⟩⟩
    · cases ha
  case makeMap t r =>
    split at ha
    · rename_i hty
      have hd := (hT t _ hty).desc
      obtain ⟨key, hkey, _⟩ := hd
      have mk : ∀ (β : Inj) (w : World) k, (Instr.makeMap t k).run P w = .ok (.map (some w.heap.size)) (w.alloc (.map #[] 0)) → AllocSim P β w (Instr.makeMap t k) (.map [] 0) (fun o => .map o) := fun β w k hk =>
        ⟨.map #[] 0, _, 0, hk, fun β' o hle ho => ⟨by simp only [VR]; exact ⟨_, ho, rfl⟩, fun B0 hB => ⟨#[], heap_push_new, rfl, hB⟩⟩⟩
      split at ha
      · cases ha
        exact ⟨.map [] 0, fun o => .map o, rfl, rfl, fun β w σ _ => ⟨_, rfl, mk β w none rfl⟩⟩
      · rename_i r'
        split at ha
        · rename_i k n h1
          cases ha
          refine ⟨.map [] 0, fun o => .map o, rfl, rfl, fun β w σ hr => ⟨_, rfl, mk β w _ ?_⟩⟩
          have := hr _ _ h1
          simp only [VR] at this
          simp [Instr.makeMap, run_und w hkey, asInt, asIntOf, this]
        · cases ha
    · cases ha
  case convert => split at hc <;> cases hc
  case call c =>
    cases hcal : c.callee with
    | value f => rw [hcal] at hc; cases hc
    | invoke r m => rw [hcal] at hc; cases hc
    | builtin b =>
      rw [hcal] at hc
      cases b <;> cases hc
end congr

end Go.Am

set_option linter.unusedVariables false
set_option linter.unusedSimpArgs false
namespace Go.Am

/-- k stands ahead of i. -/
def Bef (bef : List Nat) (i k : Nat) : Prop := Nat.testBit (bef.getD i 0) k = true

def dstAt (ops : Array Oper) (i : Nat) : Option Tmp := (ops[i]?).bind (·.dst)

theorem befOf_bit (acc : List Nat) (k : Nat) : ∀ (l : List Edge), Nat.testBit (befOf l acc) k = true ↔ ∃ e ∈ l, Region.binds .any e = true ∧ (k = e.on ∨ Nat.testBit (acc.getD e.on 0) k = true)
  | [] => by simp [befOf]
  | e :: es => by
    simp only [befOf]
    cases hb : Region.binds .any e with
    | false =>
      simp only [cond_false]
      rw [befOf_bit acc k es]
      simp [hb]
    | true =>
      simp only [cond_true]
      show Nat.testBit (((2 ^ e.on) ||| (acc.getD e.on 0)) ||| befOf es acc) k = true ↔ _
      rw [Nat.testBit_or, Nat.testBit_or, Nat.testBit_two_pow]
      simp only [Bool.or_eq_true, decide_eq_true_eq]
      rw [befOf_bit acc k es]
      simp only [List.mem_cons, exists_eq_or_imp, hb, true_and]
      constructor
      · rintro ((h | h) | h)
        · exact .inl (.inl h.symm)
        · exact .inl (.inr h)
        · exact .inr h
      · rintro ((h | h) | h)
        · exact .inl (.inl h.symm)
        · exact .inl (.inr h)
        · exact .inr h

theorem land_sub {a b : Nat} (h : Nat.beq (Nat.land a b) a = true) (k : Nat) (hk : Nat.testBit a k = true) : Nat.testBit b k = true := by
  have e : a &&& b = a := Nat.eq_of_beq_eq_true h
  rw [← e, Nat.testBit_and] at hk
  simp only [Bool.and_eq_true] at hk
  exact hk.2

theorem lor_bit (a i k : Nat) : Nat.testBit (Nat.lor a (2 ^ i)) k = true ↔ Nat.testBit a k = true ∨ k = i := by
  show Nat.testBit (a ||| 2 ^ i) k = true ↔ _
  rw [Nat.testBit_or, Nat.testBit_two_pow]
  simp only [Bool.or_eq_true, decide_eq_true_eq]
  exact ⟨fun h => h.imp id Eq.symm, fun h => h.imp id Eq.symm⟩

theorem orderOk_spec {T : Tab} {ops : List Oper} {bef : List Nat} : ∀ (l : List Nat) (done effs : Nat), orderOk T ops bef done effs l = true → ∀ pre i suf, l = pre ++ i :: suf →
    ∃ o, ops[i]? = some o ∧ ¬ Nat.testBit done i = true ∧ i ∉ pre ∧ (∀ k, Bef bef i k → Nat.testBit done k = true ∨ k ∈ pre) ∧
      (∀ k, (Nat.testBit effs k = true ∨ (k ∈ pre ∧ ∃ p, ops[k]? = some p ∧ isEff T p = true)) → Bef bef i k)
  | [], _, _, _, pre, i, suf, e => by cases pre <;> cases e
  | j :: l, done, effs, h, pre, i, suf, e => by
    simp only [orderOk] at h
    split at h
    · cases h
    · rename_i o ho
      simp only [Bool.and_eq_true, Bool.not_eq_true'] at h
      obtain ⟨⟨⟨h1, h2⟩, h3⟩, h4⟩ := h
      cases pre with
      | nil =>
        simp only [List.nil_append, List.cons.injEq] at e
        obtain ⟨rfl, rfl⟩ := e
        refine ⟨o, ho, by rw [h1]; simp, by simp, fun k hk => .inl (land_sub h2 k hk), fun k hk => ?_⟩
        rcases hk with hk | ⟨hk, _⟩
        · exact land_sub h3 k hk
        · cases hk
      | cons x pre =>
        simp only [List.cons_append, List.cons.injEq] at e
        obtain ⟨rfl, rfl⟩ := e
        obtain ⟨o', q1, q2, q3, q4, q5⟩ := orderOk_spec _ _ _ h4 pre i suf rfl
        rw [lor_bit] at q2
        refine ⟨o', q1, fun hh => q2 (.inl hh), ?_, fun k hk => ?_, fun k hk => ?_⟩
        · simp only [List.mem_cons, not_or]
          exact ⟨fun hh => q2 (.inr hh), q3⟩
        · rcases q4 k hk with hh | hh
          · rw [lor_bit] at hh
            rcases hh with hh | rfl
            · exact .inl hh
            · exact .inr List.mem_cons_self
          · exact .inr (List.mem_cons_of_mem _ hh)
        · refine q5 k ?_
          cases he : isEff T o with
          | true =>
            simp only [cond_true, lor_bit]
            rcases hk with hk | ⟨hk, p, hp, hpe⟩
            · exact .inl (.inl hk)
            · rcases List.mem_cons.1 hk with rfl | hk
              · exact .inl (.inr rfl)
              · exact .inr ⟨hk, p, hp, hpe⟩
          | false =>
            simp only [cond_false]
            rcases hk with hk | ⟨hk, p, hp, hpe⟩
            · exact .inl hk
            · rcases List.mem_cons.1 hk with rfl | hk
              · rw [ho] at hp; cases hp; rw [he] at hpe; cases hpe
              · exact .inr ⟨hk, p, hp, hpe⟩

structure PlanOK (T : Tab) (ops : Array Oper) (order bef : List Nat) : Prop where
  all : ∀ i, i < ops.size → i ∈ order
  edge : ∀ i o, ops[i]? = some o → ∀ e ∈ o.after, Region.binds .any e = true → e.on < i ∧ Bef bef i e.on
  clos : ∀ i o k, ops[i]? = some o → Bef bef i k → ∃ e ∈ o.after, Region.binds .any e = true ∧ (k = e.on ∨ Bef bef e.on k)
  ord : ∀ pre i suf, order = pre ++ i :: suf → i < ops.size ∧ i ∉ pre ∧ (∀ k, Bef bef i k → k ∈ pre) ∧ (∀ k ∈ pre, ∀ p, ops[k]? = some p → isEff T p = true → Bef bef i k)
  pair : ∀ i k o p t, i ≠ k → ops[i]? = some o → ops[k]? = some p → p.dst = some t → (t ∈ o.looksAt ops → Bef bef i k ∨ Bef bef k i) ∧ o.dst ≠ some t ∧ (isRead T o = true → Operand.tmp t ∈ o.op.operands → Bef bef i k)
  self : ∀ (i : Nat) (o : Oper) (t : Tmp), ops[i]? = some o → o.dst = some t → isRead T o = true → ¬ Operand.tmp t ∈ o.op.operands

theorem planOk_spec {T : Tab} {ops : Array Oper} {order bef : List Nat} (h : planOk T ops.toList order bef = true) : PlanOK T ops order bef := by
  simp only [planOk, Bool.and_eq_true, List.all_eq_true] at h
  obtain ⟨⟨h1, h2⟩, h3⟩ := h
  have mem : ∀ {i o}, ops[i]? = some o → (o, i) ∈ ops.toList.zipIdx := fun {i o} hi => by
    rw [List.mk_mem_zipIdx_iff_getElem?]
    simpa using hi
  have hbef : ∀ i o, ops[i]? = some o → bef.getD i 0 = befOf o.after.toList bef := fun i o hi => Nat.eq_of_beq_eq_true (h1 _ (mem hi)).1.1.1
  refine ⟨fun i hi => ?_, fun i o hi e he hb => ?_, fun i o k hi hk => ?_, fun pre i suf e => ?_, fun i k o p t hik hi hk ht => ?_, fun i o t hi ht hr hin => ?_⟩
  · have := (h1 _ (mem (Array.getElem?_eq_getElem hi))).1.2
    simpa using this
  · have hlt := (h1 _ (mem hi)).1.1.2 e (by simpa using he)
    rw [hb] at hlt
    simp only [Bool.not_true, Bool.false_or] at hlt
    refine ⟨by simpa using hlt, ?_⟩
    unfold Bef
    rw [hbef i o hi, befOf_bit]
    exact ⟨e, by simpa using he, hb, .inl rfl⟩
  · unfold Bef at hk
    rw [hbef i o hi, befOf_bit] at hk
    obtain ⟨e, he, hb, hk⟩ := hk
    exact ⟨e, by simpa using he, hb, hk⟩
  · obtain ⟨o, q1, q2, q3, q4, q5⟩ := orderOk_spec order 0 0 h2 pre i suf e
    refine ⟨?_, q3, fun k hk => ?_, fun k hk p hp hpe => q5 k (.inr ⟨hk, p, by simpa using hp, hpe⟩)⟩
    · rcases Nat.lt_or_ge i ops.size with hh | hh
      · exact hh
      · rw [List.getElem?_eq_none (by simpa using hh)] at q1; cases q1
    · rcases q4 k hk with hh | hh
      · simp at hh
      · exact hh
  · have := h3 _ (mem hi) _ (mem hk)
    simp only [pairOk, ht, Bool.or_eq_true, Bool.and_eq_true, Bool.not_eq_true', Array.toArray_toList] at this
    rcases this with hh | ⟨⟨a1, a2⟩, a3⟩
    · exact absurd (Nat.eq_of_beq_eq_true hh) hik
    · refine ⟨fun hin => ?_, fun e => ?_, fun hr hin => ?_⟩
      · rcases a1 with (a1 | a1) | a1
        · rw [List.contains_eq_mem] at a1
          simp [hin] at a1
        · exact .inl a1
        · exact .inr a1
      · rw [e] at a2; simp at a2
      · rcases a3 with (a3 | a3) | a3
        · rw [hr] at a3; cases a3
        · have : t ∈ tmpsOfOp o := by
            unfold tmpsOfOp
            rw [List.mem_filterMap]
            exact ⟨.tmp t, by simpa using hin, rfl⟩
          rw [List.contains_eq_mem] at a3
          simp [this] at a3
        · exact a3
  · have := (h1 _ (mem hi)).2
    simp only [selfOk, ht, hr, Bool.not_true, Bool.false_or] at this
    have hm : t ∈ tmpsOfOp o := by
      unfold tmpsOfOp
      rw [List.mem_filterMap]
      exact ⟨.tmp t, by simpa using hin, rfl⟩
    rw [List.contains_eq_mem] at this
    simp [hm] at this

end Go.Am

set_option linter.unusedVariables false
set_option linter.unusedSimpArgs false
namespace Go.Am
open Classical

section
variable {P : Program} {T : Tab} {E : Env}

/-- What the run does at one operation of the plan. -/
inductive PStep (E : Env) (T : Tab) (nt : Nat) (ops : Array Oper) (bef : List Nat) (i : Nat) (o : Oper) (fr : AFrame) (h : AHeap) (rds : List (Nat × Option AV)) : AFrame → AHeap → List (Nat × Option AV) → Prop
  | skip {fr'} (hg : guardOf ops.toList fr o = some false) (hp : putT nt fr o.dst (some (.tuple [])) = some fr') : PStep E T nt ops bef i o fr h rds fr' h rds
  | quiet {fr' h' v} (hg : guardOf ops.toList fr o = some true) (hc : clsOf T o.op = .pure ∨ clsOf T o.op = .alloc) (ha : aop T (aev fr) h o.op = some (.val v h')) (hp : putT nt fr o.dst v = some fr') : PStep E T nt ops bef i o fr h rds fr' h' rds
  | read {fr' h' v} (hg : guardOf ops.toList fr o = some true) (hc : clsOf T o.op = .read) (ha : aop T (aev fr) h o.op = some (.val v h')) (hp : putT nt fr o.dst v = some fr') : PStep E T nt ops bef i o fr h rds fr' h' ((i, v) :: rds)
  | eff {fr' h'} (hg : guardOf ops.toList fr o = some true) (hc : clsOf T o.op = .eff) (ho : opGo E T nt o fr h = some (fr', h')) (hag : again T ops.toList fr' h' (bef.getD i 0) rds = true) : PStep E T nt ops bef i o fr h rds fr' h' rds

theorem runPlan_cons {nt : Nat} {ops : Array Oper} {bef : List Nat} {i : Nat} {rest : List Nat} {fr frN : AFrame} {h hN : AHeap} {rds : List (Nat × Option AV)} (hr : runPlan E T nt ops.toList bef (i :: rest) fr h rds = some (frN, hN)) :
    ∃ o fr' h' rds', ops[i]? = some o ∧ PStep E T nt ops bef i o fr h rds fr' h' rds' ∧ runPlan E T nt ops.toList bef rest fr' h' rds' = some (frN, hN) := by
  simp only [runPlan] at hr
  split at hr
  · cases hr
  · rename_i o ho
    have ho' : ops[i]? = some o := by simpa using ho
    split at hr
    · cases hr
    · rename_i hg
      split at hr
      · rename_i fr' hp
        exact ⟨o, fr', h, rds, ho', .skip hg hp, hr⟩
      · cases hr
    · rename_i hg
      split at hr
      · rename_i hc
        split at hr
        · rename_i v h' ha
          split at hr
          · rename_i fr' hp
            exact ⟨o, fr', h', rds, ho', .quiet hg (.inl hc) ha hp, hr⟩
          · cases hr
        · cases hr
      · rename_i hc
        split at hr
        · rename_i v h' ha
          split at hr
          · rename_i fr' hp
            exact ⟨o, fr', h', rds, ho', .quiet hg (.inr hc) ha hp, hr⟩
          · cases hr
        · cases hr
      · rename_i hc
        split at hr
        · rename_i v h' ha
          split at hr
          · rename_i fr' hp
            exact ⟨o, fr', h', (i, v) :: rds, ho', .read hg hc ha hp, hr⟩
          · cases hr
        · cases hr
      · rename_i hc
        split at hr
        · rename_i fr' h' hgo
          cases hag : again T ops.toList fr' h' (bef.getD i 0) rds with
          | false => rw [hag] at hr; cases hr
          | true => rw [hag] at hr; exact ⟨o, fr', h', rds, ho', .eff hg hc hgo hag, hr⟩
        · cases hr

theorem putT_ne {nt : Nat} {fr fr' : AFrame} {dst : Option Tmp} {v : Option AV} (hp : putT nt fr dst v = some fr') {t : Tmp} (ht : dst ≠ some t) : fr'.get t = fr.get t := by
  unfold putT at hp
  cases dst with
  | none => cases hp; rfl
  | some d =>
    cases hb : Nat.blt d nt with
    | false => simp only [hb, cond_false] at hp; cases hp
    | true =>
      simp only [hb, cond_true, Option.some.injEq] at hp
      subst hp
      exact PT.get_set_ne _ _ (fun e => ht (by rw [e]))

theorem putT_eq {nt : Nat} {fr fr' : AFrame} {dst : Option Tmp} {v : Option AV} (hp : putT nt fr dst v = some fr') {t : Tmp} (ht : dst = some t) : fr'.get t = v ∧ t < nt := by
  subst ht
  unfold putT at hp
  cases hb : Nat.blt t nt with
  | false => simp only [hb, cond_false] at hp; cases hp
  | true =>
    simp only [hb, cond_true, Option.some.injEq] at hp
    subst hp
    exact ⟨PT.get_set_self _ _ _, by simpa using hb⟩

/-- What a step leaves in its place, and elsewhere. -/
theorem PStep.frame {nt : Nat} {ops : Array Oper} {bef : List Nat} {i : Nat} {o : Oper} {fr fr' : AFrame} {h h' : AHeap} {rds rds' : List (Nat × Option AV)} (hs : PStep E T nt ops bef i o fr h rds fr' h' rds') : ∃ v, putT nt fr o.dst v = some fr' := by
  cases hs with
  | skip hg hp => exact ⟨_, hp⟩
  | quiet hg hc ha hp => exact ⟨_, hp⟩
  | read hg hc ha hp => exact ⟨_, hp⟩
  | eff hg hc ho hag => obtain ⟨v, _, hp⟩ := opGo_eq ho; exact ⟨v, hp⟩

theorem runPlan_keeps {nt : Nat} {ops : Array Oper} {bef : List Nat} {frN : AFrame} {hN : AHeap} {t : Tmp} : ∀ (rest : List Nat) {fr : AFrame} {h : AHeap} {rds : List (Nat × Option AV)}, runPlan E T nt ops.toList bef rest fr h rds = some (frN, hN) →
    (∀ i ∈ rest, dstAt ops i ≠ some t) → frN.get t = fr.get t
  | [], fr, h, rds, hr, _ => by simp only [runPlan, Option.some.injEq, Prod.mk.injEq] at hr; rw [hr.1]
  | i :: rest, fr, h, rds, hr, hd => by
    obtain ⟨o, fr', h', rds', ho, hs, hr'⟩ := runPlan_cons hr
    obtain ⟨v, hp⟩ := hs.frame
    rw [runPlan_keeps rest hr' fun j hj => hd j (List.mem_cons_of_mem _ hj)]
    refine putT_ne hp fun e => hd i List.mem_cons_self ?_
    simp [dstAt, ho, e]

/-- The operands of an operation, as they are in whatever order. -/
noncomputable def rhoOf (ops : Array Oper) (bef : List Nat) (fr0 frN : AFrame) (i : Nat) (o : Oper) : Operand → Option AV
  | .tmp t => if t ∈ o.looksAt ops then (if ∃ k, Bef bef i k ∧ dstAt ops k = some t then frN.get t else fr0.get t) else none
  | x => aev .leaf x

/-- An operation that the plan's run has behind it, but not the model. -/
inductive Ahead (P : Program) (T : Tab) (ops : Array Oper) (bef : List Nat) (fr0 frN : AFrame) (i : Nat) (o : Oper) (h : AHeap) (β : Inj) (rds : List (Nat × Option AV)) (id : Nat) : Prop
  | skip (hg : guardBy ops.toList (fun t => rhoOf ops bef fr0 frN i o (.tmp t)) o = some false) (hd : ∀ t, o.dst = some t → frN.get t = some (.tuple []))
  | pure {v} (hg : guardBy ops.toList (fun t => rhoOf ops bef fr0 frN i o (.tmp t)) o = some true) (hc : clsOf T o.op = .pure) (ha : ∀ h2, aop T (rhoOf ops bef fr0 frN i o) h2 o.op = some (.val v h2)) (hd : ∀ t, o.dst = some t → frN.get t = v)
  | read {v} (hg : guardBy ops.toList (fun t => rhoOf ops bef fr0 frN i o (.tmp t)) o = some true) (hc : clsOf T o.op = .read) (ha : aop T (rhoOf ops bef fr0 frN i o) h o.op = some (.val v h)) (hm : (i, v) ∈ rds) (hd : ∀ t, o.dst = some t → frN.get t = v)
  | alloc {x k} (hg : guardBy ops.toList (fun t => rhoOf ops bef fr0 frN i o (.tmp t)) o = some true) (hc : clsOf T o.op = .alloc) (ha : ∀ β (w : World) σ, RhoR β (rhoOf ops bef fr0 frN i o) σ → ∃ S : Sem Value, execOp σ o = (do pure (.value (← S))) ∧ AllocSim P β w S x k)
      (hlt : id < h.next) (hb : β id = none) (hx : h.get id = some x) (hd : ∀ t, o.dst = some t → frN.get t = some (k id))

/-- Between two operations of the model's order X. -/
structure DInv (P : Program) (T : Tab) (E : Env) (nt : Nat) (ops : Array Oper) (order bef : List Nat) (w0 : World) (β0 : Inj) (fr0 : AFrame) (h0 : AHeap) (a0 : Act) (frN : AFrame) (hN : AHeap)
    (X : Array Bool) (done rest : List Nat) (fr : AFrame) (h : AHeap) (rds : List (Nat × Option AV)) (ids : Nat → Nat) (β : Inj) (a : Act) (w : World) : Prop where
  split : order = done ++ rest
  run : runPlan E T nt ops.toList bef rest fr h rds = some (frN, hN)
  xs : X.size = ops.size
  closed : ∀ i, X.getD i false = true → ∀ k, Bef bef i k → X.getD k false = true
  sub : ∀ i, X.getD i false = true → i ∈ done
  effs : ∀ i ∈ done, ∀ o, ops[i]? = some o → isEff T o = true → X.getD i false = true
  wr : WR w0 β h w
  size : a.tmps.size = nt
  defers : a.defers = a0.defers
  goes : Goes β0 h0 β h
  t1 : ∀ t, (∃ i, X.getD i false = true ∧ dstAt ops i = some t) → ∀ v, frN.get t = some v → ∃ V, a.tmps[t]? = some V ∧ VR β v V
  t2 : ∀ t, (¬ ∃ i, X.getD i false = true ∧ dstAt ops i = some t) → ∀ v, fr0.get t = some v → ∃ V, a.tmps[t]? = some V ∧ VR β v V
  f1 : ∀ t, (∃ k ∈ done, dstAt ops k = some t) → fr.get t = frN.get t
  f2 : ∀ t, (¬ ∃ k ∈ done, dstAt ops k = some t) → fr.get t = fr0.get t
  ahead : ∀ i ∈ done, X.getD i false = false → ∃ o, ops[i]? = some o ∧ Ahead P T ops bef fr0 frN i o h β rds (ids i)
  idlt : ∀ i ∈ done, ∀ o, ops[i]? = some o → clsOf T o.op = .alloc → guardBy ops.toList (fun t => rhoOf ops bef fr0 frN i o (.tmp t)) o = some true → h0.next ≤ ids i ∧ ids i < h.next
  idinj : ∀ i ∈ done, ∀ j ∈ done, ∀ o p, ops[i]? = some o → ops[j]? = some p → clsOf T o.op = .alloc → clsOf T p.op = .alloc → guardBy ops.toList (fun t => rhoOf ops bef fr0 frN i o (.tmp t)) o = some true →
    guardBy ops.toList (fun t => rhoOf ops bef fr0 frN j p (.tmp t)) p = some true → ids i = ids j → i = j

section inv
variable {nt : Nat} {ops : Array Oper} {order bef : List Nat} {w0 : World} {β0 : Inj} {fr0 : AFrame} {h0 : AHeap} {a0 : Act} {frN : AFrame} {hN : AHeap}
  {X : Array Bool} {done rest : List Nat} {fr : AFrame} {h : AHeap} {rds : List (Nat × Option AV)} {ids : Nat → Nat} {β : Inj} {a : Act} {w : World}

theorem Bef.mem (hp : PlanOK T ops order bef) {i k : Nat} (hi : i < ops.size) (hb : Bef bef i k) : k < ops.size := by
  obtain ⟨pre, suf, e⟩ := List.append_of_mem (hp.all i hi)
  have hk := (hp.ord pre i suf e).2.2.1 k hb
  obtain ⟨p1, p2, e2⟩ := List.append_of_mem hk
  exact (hp.ord p1 k (p2 ++ i :: suf) (by rw [e, e2]; simp)).1

/-- The plan's frame has the operands of its next operation. -/
theorem DInv.head (hp : PlanOK T ops order bef) {i : Nat} (I : DInv P T E nt ops order bef w0 β0 fr0 h0 a0 frN hN X done (i :: rest) fr h rds ids β a w) {o : Oper} (ho : ops[i]? = some o) :
    ∀ t ∈ o.looksAt ops, fr.get t = rhoOf ops bef fr0 frN i o (.tmp t) := by
  intro t ht
  obtain ⟨h1, h2, h3, h4⟩ := hp.ord done i rest I.split
  simp only [rhoOf, ht, if_true]
  by_cases hk : ∃ k, Bef bef i k ∧ dstAt ops k = some t
  · rw [if_pos hk]
    obtain ⟨k, hb, hd⟩ := hk
    exact I.f1 t ⟨k, h3 k hb, hd⟩
  · rw [if_neg hk]
    refine I.f2 t fun ⟨k, hkd, hd⟩ => ?_
    have hne : i ≠ k := fun e => h2 (e ▸ hkd)
    unfold dstAt at hd
    cases hpk : ops[k]? with
    | none => rw [hpk] at hd; cases hd
    | some p =>
      rw [hpk] at hd
      rcases (hp.pair i k o p t hne ho hpk hd).1 ht with hh | hh
      · exact hk ⟨k, hh, by unfold dstAt; rw [hpk]; exact hd⟩
      · obtain ⟨p1, p2, e2⟩ := List.append_of_mem hkd
        have := (hp.ord p1 k (p2 ++ i :: rest) (by rw [I.split, e2]; simp)).2.2.1 i hh
        exact h2 (by rw [e2]; simp [this])

/-- The model's frame has the operands of whatever comes up. -/
theorem DInv.rho (hp : PlanOK T ops order bef) (I : DInv P T E nt ops order bef w0 β0 fr0 h0 a0 frN hN X done rest fr h rds ids β a w) {i : Nat} {o : Oper} (ho : ops[i]? = some o) (hX : X.getD i false = false)
    (hb : ∀ k, Bef bef i k → X.getD k false = true) : RhoR β (rhoOf ops bef fr0 frN i o) a.eval := by
  intro x v hx
  cases x with
  | tmp t =>
    simp only [rhoOf] at hx
    split at hx
    · rename_i ht
      have fin : (∃ V, a.tmps[t]? = some V ∧ VR β v V) → VR β v (a.eval (.tmp t)) := fun ⟨V, e1, e2⟩ => by
        have : a.eval (.tmp t) = V := by simp [Act.eval, Array.getD_eq_getD_getElem?, e1]
        rw [this]; exact e2
      split at hx
      · rename_i hk
        obtain ⟨k, hbk, hd⟩ := hk
        exact fin (I.t1 t ⟨k, hb k hbk, hd⟩ v hx)
      · rename_i hk
        refine fin (I.t2 t (fun ⟨k, hkX, hd⟩ => ?_) v hx)
        have hne : i ≠ k := fun e => by subst e; rw [hX] at hkX; cases hkX
        have hd' := hd
        unfold dstAt at hd
        cases hpk : ops[k]? with
        | none => rw [hpk] at hd; cases hd
        | some p =>
          rw [hpk] at hd
          rcases (hp.pair i k o p t hne ho hpk hd).1 ht with hh | hh
          · exact hk ⟨k, hh, hd'⟩
          · have := I.closed k hkX i hh
            rw [hX] at this; cases this
    · cases hx
  | const V => exact absConst2_sim hx
  | global g => cases hx
  | func f => simp only [rhoOf, aev, Option.some.injEq] at hx; subst hx; simp only [VR]; exact ⟨[], [], VRL.nil, VRL.nil, rfl⟩

theorem rho_aev {i : Nat} {o : Oper} (hl : ∀ t ∈ o.looksAt ops, fr.get t = rhoOf ops bef fr0 frN i o (.tmp t)) : ∀ x ∈ o.op.operands, aev fr x = rhoOf ops bef fr0 frN i o x := by
  intro x hx
  cases x with
  | tmp t => exact hl t (by unfold Oper.looksAt; rw [List.mem_append]; exact .inl (by rw [List.mem_filterMap]; exact ⟨.tmp t, by simpa using hx, rfl⟩))
  | const V => rfl
  | global g => rfl
  | func f => rfl

theorem rho_guard {i : Nat} {o : Oper} (hl : ∀ t ∈ o.looksAt ops, fr.get t = rhoOf ops bef fr0 frN i o (.tmp t)) : guardOf ops.toList fr o = guardBy ops.toList (fun t => rhoOf ops bef fr0 frN i o (.tmp t)) o := by
  unfold guardOf guardBy
  cases hg : o.guard with
  | none => rfl
  | some jw =>
    obtain ⟨j, want⟩ := jw
    simp only
    cases hj : ops.toList[j]? with
    | none => rfl
    | some oj =>
      simp only
      cases hd : oj.dst with
      | none => rfl
      | some t =>
        simp only
        have : t ∈ o.looksAt ops := by
          unfold Oper.looksAt
          rw [List.mem_append]
          right
          rw [hg]
          have hj' : ops[j]? = some oj := by simpa using hj
          simp [hj', hd]
        rw [hl t this]
end inv
end
end Go.Am

set_option linter.unusedVariables false
set_option linter.unusedSimpArgs false
namespace Go.Am
open Classical

section
variable {P : Program} {T : Tab} {E : Env}
variable {nt : Nat} {ops : Array Oper} {order bef : List Nat} {w0 : World} {β0 : Inj} {fr0 : AFrame} {h0 : AHeap} {a0 : Act} {frN : AFrame} {hN : AHeap}
  {X : Array Bool} {done rest : List Nat} {fr : AFrame} {h : AHeap} {rds : List (Nat × Option AV)} {ids : Nat → Nat} {β : Inj} {a : Act} {w : World}

theorem dst_unique (hp : PlanOK T ops order bef) {i j : Nat} {t : Tmp} (hi : dstAt ops i = some t) (hj : dstAt ops j = some t) : i = j := by
  apply Classical.byContradiction
  intro hne
  unfold dstAt at hi hj
  cases ho : ops[i]? with
  | none => rw [ho] at hi; cases hi
  | some o =>
    cases hq : ops[j]? with
    | none => rw [hq] at hj; cases hj
    | some p =>
      rw [ho] at hi; rw [hq] at hj
      exact (hp.pair i j o p t hne ho hq hj).2.1 hi

theorem order_ne (hp : PlanOK T ops order bef) {i j : Nat} (hs : order = done ++ i :: rest) (hj : j ∈ rest) : j ≠ i := by
  obtain ⟨p1, p2, e⟩ := List.append_of_mem hj
  have := (hp.ord (done ++ i :: p1) j p2 (by rw [hs, e]; simp)).2.1
  intro he
  exact this (by rw [he]; simp)

theorem Ahead.mono {i : Nat} {o : Oper} {h' : AHeap} {β' : Inj} {rds' : List (Nat × Option AV)} {id : Nat} (A : Ahead P T ops bef fr0 frN i o h β rds id)
    (hread : ∀ v, clsOf T o.op = .read → (i, v) ∈ rds → aop T (rhoOf ops bef fr0 frN i o) h o.op = some (.val v h) → aop T (rhoOf ops bef fr0 frN i o) h' o.op = some (.val v h'))
    (hm : ∀ x, x ∈ rds → x ∈ rds') (hnx : h.next ≤ h'.next) (hb : clsOf T o.op = .alloc → id < h.next → β id = none → β' id = none) (hg : ∀ x, id < h.next → β id = none → h.get id = some x → h'.get id = some x) :
    Ahead P T ops bef fr0 frN i o h' β' rds' id := by
  cases A with
  | skip a1 a2 => exact .skip a1 a2
  | pure a1 a2 a3 a4 => exact .pure a1 a2 a3 a4
  | read a1 a2 a3 a4 a5 => exact .read a1 a2 (hread _ a2 a4 a3) (hm _ a4) a5
  | alloc a1 a2 a3 a4 a5 a6 a7 => exact .alloc a1 a2 a3 (Nat.lt_of_lt_of_le a4 hnx) (hb a2 a4 a5) (hg _ a4 a5 a6) a7

/-- The frame behind the plan's next operation. -/
theorem DInv.frames (hp : PlanOK T ops order bef) {i : Nat} (I : DInv P T E nt ops order bef w0 β0 fr0 h0 a0 frN hN X done (i :: rest) fr h rds ids β a w) {o : Oper} (ho : ops[i]? = some o) {fr' : AFrame} {h' : AHeap} {rds' : List (Nat × Option AV)} {v : Option AV}
    (hput : putT nt fr o.dst v = some fr') (hrun : runPlan E T nt ops.toList bef rest fr' h' rds' = some (frN, hN)) :
    (∀ t, (∃ k ∈ done ++ [i], dstAt ops k = some t) → fr'.get t = frN.get t) ∧ (∀ t, (¬ ∃ k ∈ done ++ [i], dstAt ops k = some t) → fr'.get t = fr0.get t) ∧ (∀ t, o.dst = some t → frN.get t = v) := by
  have hd : ∀ t, o.dst = some t ↔ dstAt ops i = some t := fun t => by simp [dstAt, ho]
  have hown : ∀ t, o.dst = some t → frN.get t = fr'.get t := fun t ht => runPlan_keeps rest hrun fun j hj e => order_ne hp I.split hj (dst_unique hp e ((hd t).1 ht))
  refine ⟨fun t ⟨k, hk, hkt⟩ => ?_, fun t hn => ?_, fun t ht => ?_⟩
  · by_cases ht : o.dst = some t
    · exact (hown t ht).symm
    · rw [putT_ne hput ht]
      rcases List.mem_append.1 hk with hk | hk
      · exact I.f1 t ⟨k, hk, hkt⟩
      · simp only [List.mem_singleton] at hk
        subst hk
        exact absurd ((hd t).2 hkt) ht
  · have ht : o.dst ≠ some t := fun e => hn ⟨i, by simp, (hd t).1 e⟩
    rw [putT_ne hput ht]
    exact I.f2 t fun ⟨k, hk, hkt⟩ => hn ⟨k, List.mem_append_left _ hk, hkt⟩
  · rw [hown t ht]; exact (putT_eq hput ht).1

theorem DInv.notX (hp : PlanOK T ops order bef) {i : Nat} (I : DInv P T E nt ops order bef w0 β0 fr0 h0 a0 frN hN X done (i :: rest) fr h rds ids β a w) : X.getD i false = false := by
  cases hX : X.getD i false with
  | false => rfl
  | true => exact absurd (I.sub i hX) (hp.ord done i rest I.split).2.1

theorem aop_congr_rho {i : Nat} {o : Oper} (hl : ∀ t ∈ o.looksAt ops, fr.get t = rhoOf ops bef fr0 frN i o (.tmp t)) (h : AHeap) : aop T (aev fr) h o.op = aop T (rhoOf ops bef fr0 frN i o) h o.op :=
  aop_congr h o.op (rho_aev hl)

/-- The plan's run takes a quiet operation. -/
theorem DInv.advance (hp : PlanOK T ops order bef) (hT : TabOK P T) {i : Nat} (I : DInv P T E nt ops order bef w0 β0 fr0 h0 a0 frN hN X done (i :: rest) fr h rds ids β a w) {o : Oper} (ho : ops[i]? = some o) (he : isEff T o = false) :
    ∃ fr' h' rds' ids', DInv P T E nt ops order bef w0 β0 fr0 h0 a0 frN hN X (done ++ [i]) rest fr' h' rds' ids' β a w := by
  obtain ⟨o', fr', h', rds', ho', hs, hrun⟩ := runPlan_cons I.run
  rw [ho] at ho'; cases ho'
  obtain ⟨v0, hput⟩ := hs.frame
  obtain ⟨F1, F2, F3⟩ := I.frames hp ho hput hrun
  have hl := I.head hp ho
  have hg0 := rho_guard hl
  have hXi := I.notX hp
  have hin : i ∉ done := (hp.ord done i rest I.split).2.1
  have hwf : h.get h.next = none := by
    cases hh : h.get h.next with
    | none => rfl
    | some x => exact absurd (I.wr.wf _ _ hh) (Nat.lt_irrefl _)
  have key : ∀ (ids' : Nat → Nat), (∀ j ∈ done, ids' j = ids j) → WR w0 β h' w → h.next ≤ h'.next → (∀ o, o < h0.next → β0 o = none → h'.get o = h0.get o) → (∀ j x, j < h.next → h.get j = some x → h'.get j = some x) → (∀ x, x ∈ rds → x ∈ rds') →
      (∀ j p v, ops[j]? = some p → clsOf T p.op = .read → aop T (rhoOf ops bef fr0 frN j p) h p.op = some (.val v h) → aop T (rhoOf ops bef fr0 frN j p) h' p.op = some (.val v h')) →
      Ahead P T ops bef fr0 frN i o h' β rds' (ids' i) →
      (clsOf T o.op = .alloc → guardBy ops.toList (fun t => rhoOf ops bef fr0 frN i o (.tmp t)) o = some true → ids' i = h.next ∧ h.next < h'.next) →
      ∃ fr' h' rds' ids', DInv P T E nt ops order bef w0 β0 fr0 h0 a0 frN hN X (done ++ [i]) rest fr' h' rds' ids' β a w := by
    intro ids' hids hwr hnx hfree hkeep hm hrd hA hal
    refine ⟨fr', h', rds', ids', ?_⟩
    refine ⟨by rw [I.split]; simp, hrun, I.xs, I.closed, fun j hj => List.mem_append_left _ (I.sub j hj), fun j hj p hpj hpe => ?_, hwr, I.size, I.defers, ⟨I.goes.old, Nat.le_trans I.goes.next hnx, hfree⟩, I.t1, I.t2, F1, F2, fun j hj hXj => ?_, fun j hj p hpj hc hg => ?_,
      fun j hj k hk p q hpj hqk hcp hcq hgp hgq hid => ?_⟩
    · rcases List.mem_append.1 hj with hj | hj
      · exact I.effs j hj p hpj hpe
      · simp only [List.mem_singleton] at hj
        subst hj
        rw [ho] at hpj; cases hpj
        rw [he] at hpe; cases hpe
    · rcases List.mem_append.1 hj with hj | hj
      · obtain ⟨p, hpj, A⟩ := I.ahead j hj hXj
        refine ⟨p, hpj, ?_⟩
        rw [hids j hj]
        exact A.mono (fun v hc _ => hrd j p v hpj hc) hm hnx (fun _ _ hb => hb) (fun x hlt _ hx => hkeep _ x hlt hx)
      · simp only [List.mem_singleton] at hj
        subst hj
        exact ⟨o, ho, hA⟩
    · rcases List.mem_append.1 hj with hj | hj
      · rw [hids j hj]
        have := I.idlt j hj p hpj hc hg
        exact ⟨this.1, Nat.lt_of_lt_of_le this.2 hnx⟩
      · simp only [List.mem_singleton] at hj
        subst hj
        rw [ho] at hpj; cases hpj
        obtain ⟨e1, e2⟩ := hal hc hg
        rw [e1]
        exact ⟨I.goes.next, e2⟩
    · rcases List.mem_append.1 hj with hj' | hj
      · have hj := hj'
        rcases List.mem_append.1 hk with hk | hk
        · rw [hids j hj, hids k hk] at hid
          exact I.idinj j hj k hk p q hpj hqk hcp hcq hgp hgq hid
        · simp only [List.mem_singleton] at hk
          subst hk
          rw [ho] at hqk; cases hqk
          have h1 := I.idlt j hj' p hpj hcp hgp
          rw [hids j hj', (hal hcq hgq).1] at hid
          omega
      · simp only [List.mem_singleton] at hj
        subst hj
        rcases List.mem_append.1 hk with hk | hk
        · rw [ho] at hpj; cases hpj
          have h1 := I.idlt k hk q hqk hcq hgq
          rw [hids k hk, (hal hcp hgp).1] at hid
          omega
        · simp only [List.mem_singleton] at hk
          exact hk.symm
  have same : ∀ (A : Ahead P T ops bef fr0 frN i o h β rds' (ids i)), h' = h → (∀ x, x ∈ rds → x ∈ rds') → (clsOf T o.op = .alloc → guardBy ops.toList (fun t => rhoOf ops bef fr0 frN i o (.tmp t)) o = some true → False) →
      ∃ fr' h' rds' ids', DInv P T E nt ops order bef w0 β0 fr0 h0 a0 frN hN X (done ++ [i]) rest fr' h' rds' ids' β a w := by
    intro A hh hm hno
    subst hh
    exact key ids (fun _ _ => rfl) I.wr (Nat.le_refl _) I.goes.free (fun _ _ _ hx => hx) hm (fun _ _ _ _ _ hv => hv) A (fun c g => (hno c g).elim)
  cases hs with
  | skip hg hpp =>
    have hv : v0 = some (.tuple []) ∨ o.dst = none := by
      cases hd : o.dst with
      | none => exact .inr rfl
      | some t => left; rw [← (putT_eq hput hd).1, ← (putT_eq hpp hd).1]
    refine same (.skip (by rw [← hg0]; exact hg) fun t ht => ?_) rfl (fun _ hx => hx) (fun _ g => by rw [← hg0, hg] at g; cases g)
    rcases hv with hv | hv
    · rw [F3 t ht, hv]
    · rw [hv] at ht; cases ht
  | @quiet _ v hg hc ha hpp =>
    have hv : ∀ t, o.dst = some t → frN.get t = v := fun t ht => by
      rw [F3 t ht, ← (putT_eq hput ht).1]; exact (putT_eq hpp ht).1
    rw [aop_congr_rho hl] at ha
    rcases hc with hc | hc
    · obtain ⟨rfl, hall⟩ := aop_pure hc ha
      exact same (.pure (by rw [← hg0]; exact hg) hc hall hv) rfl (fun _ hx => hx) (fun c _ => by rw [hc] at c; cases c)
    · obtain ⟨x, k, rfl, rfl, hall⟩ := aop_alloc hT hc ha
      have hnone : β h.next = none := by
        cases e : β h.next with
        | none => rfl
        | some M => exact absurd (I.wr.dom _ _ e) (Nat.lt_irrefl _)
      refine key (fun j => if j = i then h.next else ids j) (fun j hj => by have hne : j ≠ i := fun e => hin (by rw [← e]; exact hj); simp [hne]) (I.wr.unborn x) (Nat.le_succ _) (fun j hj hb => ?_) (fun j y hj hy => ?_) (fun _ hx => hx) (fun j p v hpj hcr hv => aop_read_add x hwf hcr hv) ?_ (fun _ _ => ⟨by simp, Nat.lt_succ_self _⟩)
      · rw [AHeap.get_add_ne _ _ (Nat.ne_of_lt (Nat.lt_of_lt_of_le hj I.goes.next))]
        exact I.goes.free j hj hb
      · rw [AHeap.get_add_ne _ _ (Nat.ne_of_lt hj)]; exact hy
      · refine .alloc (x := x) (k := k) (by rw [← hg0]; exact hg) hc hall ?_ ?_ ?_ ?_
        · simp
        · simpa using hnone
        · simpa using AHeap.get_add_self h x
        · simpa using hv
  | @read _ v hg hc ha hpp =>
    have hv : ∀ t, o.dst = some t → frN.get t = v := fun t ht => by
      rw [F3 t ht, ← (putT_eq hput ht).1]; exact (putT_eq hpp ht).1
    rw [aop_congr_rho hl] at ha
    have hh := aop_read hc ha
    subst hh
    exact same (.read (by rw [← hg0]; exact hg) hc ha List.mem_cons_self hv) rfl (fun _ hx => List.mem_cons_of_mem _ hx) (fun c _ => by rw [hc] at c; cases c)
  | eff hg hc _ _ => simp [isEff, hc] at he

/-- On to the next operation with an effect, or the end. -/
theorem DInv.advanceAll (hp : PlanOK T ops order bef) (hT : TabOK P T) : ∀ (rest : List Nat) {done : List Nat} {fr : AFrame} {h : AHeap} {rds : List (Nat × Option AV)} {ids : Nat → Nat}, DInv P T E nt ops order bef w0 β0 fr0 h0 a0 frN hN X done rest fr h rds ids β a w →
    ∃ done' rest' fr' h' rds' ids', DInv P T E nt ops order bef w0 β0 fr0 h0 a0 frN hN X done' rest' fr' h' rds' ids' β a w ∧ ∀ i r, rest' = i :: r → ∀ o, ops[i]? = some o → isEff T o = true
  | [], done, fr, h, rds, ids, I => ⟨done, [], fr, h, rds, ids, I, fun i r e => by cases e⟩
  | i :: rest, done, fr, h, rds, ids, I => by
    obtain ⟨h1, _⟩ := hp.ord done i rest I.split
    have ho : ops[i]? = some ops[i] := Array.getElem?_eq_getElem h1
    cases he : isEff T ops[i] with
    | true => exact ⟨done, i :: rest, fr, h, rds, ids, I, fun j r e o hoj => by cases e; rw [ho] at hoj; cases hoj; exact he⟩
    | false =>
      obtain ⟨fr', h', rds', ids', I'⟩ := I.advance hp hT ho he
      exact DInv.advanceAll hp hT rest I'
end
end Go.Am

set_option linter.unusedVariables false
set_option linter.unusedSimpArgs false
namespace Go.Am
open Classical

section
variable {P : Program} {T : Tab} {E : Env}
variable {nt : Nat} {ops : Array Oper} {order bef : List Nat} {w0 : World} {β0 : Inj} {fr0 : AFrame} {h0 : AHeap} {a0 : Act} {frN : AFrame} {hN : AHeap}
  {X : Array Bool} {done rest : List Nat} {fr : AFrame} {h : AHeap} {rds : List (Nat × Option AV)} {ids : Nat → Nat} {β : Inj} {a : Act} {w : World}

theorem runPlan_dst : ∀ (rest : List Nat) {fr : AFrame} {h : AHeap} {rds : List (Nat × Option AV)}, runPlan E T nt ops.toList bef rest fr h rds = some (frN, hN) → ∀ i ∈ rest, ∀ t, dstAt ops i = some t → t < nt
  | [], _, _, _, _, i, hi, _, _ => by cases hi
  | j :: rest, fr, h, rds, hr, i, hi, t, ht => by
    obtain ⟨o, fr', h', rds', ho, hs, hr'⟩ := runPlan_cons hr
    rcases List.mem_cons.1 hi with rfl | hi
    · obtain ⟨v, hp⟩ := hs.frame
      exact (putT_eq hp (by simpa [dstAt, ho] using ht)).2
    · exact runPlan_dst rest hr' i hi t ht

theorem again_spec {ops : List Oper} {mask : Nat} : ∀ {rds : List (Nat × Option AV)}, again T ops fr h mask rds = true → ∀ i v, (i, v) ∈ rds → ¬ Nat.testBit mask i = true → ∃ o x h', ops[i]? = some o ∧ aop T (aev fr) h o.op = some (.val (some x) h') ∧ v = some x
  | [], _, _, _, hm, _ => by cases hm
  | (j, u) :: rds, ha, i, v, hm, hn => by
    simp only [again, Bool.and_eq_true] at ha
    rcases List.mem_cons.1 hm with e | hm
    · cases e
      have h1 := ha.1
      cases hb : Nat.testBit mask j with
      | true => exact absurd hb hn
      | false =>
        rw [hb] at h1
        simp only [cond_false] at h1
        split at h1
        · rename_i o ho
          split at h1
          · rename_i x hp y heq
            rw [AV.eq_of_beq h1] at heq
            exact ⟨o, y, hp, ho, heq, rfl⟩
          · cases h1
        · cases h1
    · exact again_spec ha.2 i v hm hn

/-- The model's frame has the temporaries that whatever comes up looks at. -/
theorem DInv.rhoT (hp : PlanOK T ops order bef) (I : DInv P T E nt ops order bef w0 β0 fr0 h0 a0 frN hN X done rest fr h rds ids β a w) {i : Nat} {o : Oper} (ho : ops[i]? = some o) (hX : X.getD i false = false)
    (hb : ∀ k, Bef bef i k → X.getD k false = true) : ∀ t v, rhoOf ops bef fr0 frN i o (.tmp t) = some v → ∃ V, a.tmps[t]? = some V ∧ VR β v V := by
  intro t v hx
  simp only [rhoOf] at hx
  split at hx
  · rename_i ht
    split at hx
    · rename_i hk
      obtain ⟨k, hbk, hd⟩ := hk
      exact I.t1 t ⟨k, hb k hbk, hd⟩ v hx
    · rename_i hk
      refine I.t2 t (fun ⟨k, hkX, hd⟩ => ?_) v hx
      have hne : i ≠ k := fun e => by subst e; rw [hX] at hkX; cases hkX
      have hd' := hd
      unfold dstAt at hd
      cases hpk : ops[k]? with
      | none => rw [hpk] at hd; cases hd
      | some p =>
        rw [hpk] at hd
        rcases (hp.pair i k o p t hne ho hpk hd).1 ht with hh | hh
        · exact hk ⟨k, hh, hd'⟩
        · have := I.closed k hkX i hh
          rw [hX] at this; cases this
  · cases hx

theorem getD_set {X : Array Bool} {i : Nat} (hi : i < X.size) (j : Nat) : (X.setIfInBounds i true).getD j false = true ↔ j = i ∨ X.getD j false = true := by
  simp only [Array.getD_eq_getD_getElem?, Array.getElem?_setIfInBounds]
  by_cases e : i = j
  · subst e; simp [hi]
  · simp only [e, if_false]
    exact ⟨.inr, fun h => h.elim (fun h => absurd h.symm e) id⟩

/-- An operation is marked, its value put. -/
theorem put_tmps {v : Option AV} {V : Value} {o : Oper} (hsz : a.tmps.size = nt) (hd : ∀ t, o.dst = some t → t < nt) (t : Tmp) : (a.put o.dst V).tmps[t]? = if o.dst = some t then some V else a.tmps[t]? := by
  cases hdst : o.dst with
  | none => simp [Act.put]
  | some d =>
    simp only [Act.put, Option.some.injEq, Array.getElem?_setIfInBounds]
    by_cases e : d = t
    · subst e
      have hd' : d < a.tmps.size := by rw [hsz]; exact hd d hdst
      simp [hd']
    · simp [e]

/-- The marks and temporaries behind an operation. -/
theorem DInv.put (hp : PlanOK T ops order bef) (I : DInv P T E nt ops order bef w0 β0 fr0 h0 a0 frN hN X done rest fr h rds ids β a w) {i : Nat} {o : Oper} (ho : ops[i]? = some o) (hlt : i < ops.size)
    (hdst : ∀ t, o.dst = some t → t < nt) {β' : Inj} (hle : β.le β') {V : Value} (hV : ∀ t, o.dst = some t → ∀ v, frN.get t = some v → VR β' v V) :
    (∀ t, (∃ j, (X.setIfInBounds i true).getD j false = true ∧ dstAt ops j = some t) → ∀ v, frN.get t = some v → ∃ W, (a.put o.dst V).tmps[t]? = some W ∧ VR β' v W) ∧
      (∀ t, (¬ ∃ j, (X.setIfInBounds i true).getD j false = true ∧ dstAt ops j = some t) → ∀ v, fr0.get t = some v → ∃ W, (a.put o.dst V).tmps[t]? = some W ∧ VR β' v W) := by
  have hiX : i < X.size := by rw [I.xs]; exact hlt
  have hd : ∀ t, o.dst = some t ↔ dstAt ops i = some t := fun t => by simp [dstAt, ho]
  refine ⟨fun t ⟨j, hj, hjt⟩ v hv => ?_, fun t hn v hv => ?_⟩
  · rw [put_tmps (v := none) I.size hdst]
    by_cases ht : o.dst = some t
    · rw [if_pos ht]; exact ⟨V, rfl, hV t ht v hv⟩
    · rw [if_neg ht]
      rw [getD_set hiX] at hj
      rcases hj with rfl | hj
      · exact absurd ((hd t).2 hjt) ht
      · obtain ⟨W, e1, e2⟩ := I.t1 t ⟨j, hj, hjt⟩ v hv
        exact ⟨W, e1, e2.mono hle⟩
  · have ht : o.dst ≠ some t := fun e => hn ⟨i, (getD_set hiX i).2 (.inl rfl), (hd t).1 e⟩
    rw [put_tmps (v := none) I.size hdst, if_neg ht]
    obtain ⟨W, e1, e2⟩ := I.t2 t (fun ⟨j, hj, hjt⟩ => hn ⟨j, (getD_set hiX j).2 (.inr hj), hjt⟩) v hv
    exact ⟨W, e1, e2.mono hle⟩

/-- Behind an operation that the plan's run had already. -/
theorem DInv.mark (hp : PlanOK T ops order bef) (I : DInv P T E nt ops order bef w0 β0 fr0 h0 a0 frN hN X done rest fr h rds ids β a w) {i : Nat} {o : Oper} (ho : ops[i]? = some o) (hlt : i < ops.size) (hdone : i ∈ done)
    (hb : ∀ k, Bef bef i k → X.getD k false = true) (hdst : ∀ t, o.dst = some t → t < nt) {β' : Inj} {w' : World} (hwr : WR w0 β' h w') (hle : β.le β') (hold : ∀ o, o < h0.next → β' o = β0 o)
    (hal : ∀ j ∈ done, j ≠ i → ∀ p, ops[j]? = some p → clsOf T p.op = .alloc → guardBy ops.toList (fun t => rhoOf ops bef fr0 frN j p (.tmp t)) p = some true → β (ids j) = none → β' (ids j) = none)
    {V : Value} (hV : ∀ t, o.dst = some t → ∀ v, frN.get t = some v → VR β' v V) :
    DInv P T E nt ops order bef w0 β0 fr0 h0 a0 frN hN (X.setIfInBounds i true) done rest fr h rds ids β' (a.put o.dst V) w' := by
  have hiX : i < X.size := by rw [I.xs]; exact hlt
  obtain ⟨T1, T2⟩ := I.put hp ho hlt hdst hle hV
  refine ⟨I.split, I.run, by simp [I.xs], fun j hj k hk => ?_, fun j hj => ?_, fun j hj p hpj hpe => (getD_set hiX j).2 (.inr (I.effs j hj p hpj hpe)), hwr, by rw [size_put]; exact I.size, by rw [defers_put]; exact I.defers, ⟨hold, I.goes.next, I.goes.free⟩, T1, T2, I.f1, I.f2,
    fun j hj hXj => ?_, I.idlt, I.idinj⟩
  · rw [getD_set hiX] at hj ⊢
    rcases hj with rfl | hj
    · exact .inr (hb k hk)
    · exact .inr (I.closed j hj k hk)
  · rw [getD_set hiX] at hj
    rcases hj with rfl | hj
    · exact hdone
    · exact I.sub j hj
  · have hn : ¬ (j = i ∨ X.getD j false = true) := fun e => by rw [(getD_set hiX j).2 e] at hXj; cases hXj
    have hXj' : X.getD j false = false := by
      cases e : X.getD j false with
      | false => rfl
      | true => exact absurd (.inr e) hn
    obtain ⟨p, hpj, A⟩ := I.ahead j hj hXj'
    refine ⟨p, hpj, ?_⟩
    cases A with
    | skip a1 a2 => exact .skip a1 a2
    | pure a1 a2 a3 a4 => exact .pure a1 a2 a3 a4
    | read a1 a2 a3 a4 a5 => exact .read a1 a2 a3 a4 a5
    | alloc a1 a2 a3 a4 a5 a6 a7 => exact .alloc a1 a2 a3 a4 (hal j hj (fun e => hn (.inl e)) p hpj a2 a1 a5) a6 a7

/-- Between two of the model's operations, the plan's run as far as it goes. -/
def DGood (P : Program) (T : Tab) (E : Env) (nt : Nat) (ops : Array Oper) (order bef : List Nat) (w0 : World) (β0 : Inj) (fr0 : AFrame) (h0 : AHeap) (a0 : Act) (frN : AFrame) (hN : AHeap) (X : Array Bool) (a : Act) (w : World) : Prop :=
  ∃ done rest fr h rds ids β, DInv P T E nt ops order bef w0 β0 fr0 h0 a0 frN hN X done rest fr h rds ids β a w ∧ ∀ i r, rest = i :: r → ∀ o, ops[i]? = some o → isEff T o = true

theorem DInv.good (hp : PlanOK T ops order bef) (hT : TabOK P T) (I : DInv P T E nt ops order bef w0 β0 fr0 h0 a0 frN hN X done rest fr h rds ids β a w) : DGood P T E nt ops order bef w0 β0 fr0 h0 a0 frN hN X a w := by
  obtain ⟨done', rest', fr', h', rds', ids', I', he⟩ := I.advanceAll hp hT rest
  exact ⟨done', rest', fr', h', rds', ids', β, I', he⟩

theorem DGood.step (hp : PlanOK T ops order bef) (hT : TabOK P T) (hE : EnvOK P E) (hdst : ∀ i ∈ order, ∀ t, dstAt ops i = some t → t < nt) (G : DGood P T E nt ops order bef w0 β0 fr0 h0 a0 frN hN X a w) {i : Nat} (hi : i ∈ Region.ready .any ops X) {rd : Option Nat} {Q : Exit → Act → World → Prop} :
    wpOpIn (FW rd) 0 P ops Q i (fun a' w' => DGood P T E nt ops order bef w0 β0 fr0 h0 a0 frN hN (X.setIfInBounds i true) a' w') a w := by
  obtain ⟨done, rest, fr, h, rds, ids, β, I, hhead⟩ := G
  obtain ⟨hX0, o, ho, hedges⟩ := mem_ready.1 hi
  have hlt : i < ops.size := by
    rcases Nat.lt_or_ge i ops.size with hh | hh
    · exact hh
    · rw [Array.getElem?_eq_none hh] at ho; cases ho
  have hiX : i < X.size := by rw [I.xs]; exact hlt
  have hX : X.getD i false = false := by
    rw [Array.getD_eq_getD_getElem?, Array.getElem?_eq_getElem hiX] at hX0 ⊢
    exact hX0
  have hb : ∀ k, Bef bef i k → X.getD k false = true := fun k hk => by
    obtain ⟨e, he, hbe, hk⟩ := hp.clos i o k ho hk
    rcases hk with rfl | hk
    · exact hedges e he hbe
    · exact I.closed _ (hedges e he hbe) k hk
  have hdo : ∀ t, o.dst = some t → t < nt := fun t ht => hdst i (hp.all i hlt) t (by simp [dstAt, ho, ht])
  have hrho := I.rho hp ho hX hb
  have hrT := I.rhoT hp ho hX hb
  unfold wpOpIn
  rw [ho]
  simp only
  by_cases hdone : i ∈ done
  · -- the plan's run had it
    obtain ⟨o', ho', A⟩ := I.ahead i hdone hX
    rw [ho] at ho'; cases ho'
    have fin : ∀ {β' : Inj} {w' : World} {V : Value}, WR w0 β' h w' → β.le β' → (∀ o, o < h.next → o ≠ ids i → β' o = β o) → (β' (ids i) = β (ids i) ∨ (clsOf T o.op = .alloc ∧ guardBy ops.toList (fun t => rhoOf ops bef fr0 frN i o (.tmp t)) o = some true)) →
        (∀ t, o.dst = some t → ∀ v, frN.get t = some v → VR β' v V) → DGood P T E nt ops order bef w0 β0 fr0 h0 a0 frN hN (X.setIfInBounds i true) (a.put o.dst V) w' := by
      intro β' w' V hwr hle hoth hown hV
      refine (I.mark hp ho hlt hdone hb hdo hwr hle (fun j hj => ?_) (fun j hj hji p hpj hc hg hbn => ?_) hV).good hp hT
      · have hjn := Nat.lt_of_lt_of_le hj I.goes.next
        by_cases hji : j = ids i
        · rcases hown with hown | ⟨hc, hg⟩
          · rw [hji, hown, ← hji]; exact I.goes.old j hj
          · have := (I.idlt i hdone o ho hc hg).1
            omega
        · rw [hoth j hjn hji]; exact I.goes.old j hj
      · have hjlt := (I.idlt j hj p hpj hc hg).2
        by_cases hid : ids j = ids i
        · rcases hown with hown | ⟨hc', hg'⟩
          · rw [hid, hown, ← hid]; exact hbn
          · exact absurd (I.idinj j hj i hdone p o hpj ho hc hc' hg hg' hid) hji
        · rw [hoth _ hjlt hid]; exact hbn
    cases A with
    | skip hg hd =>
      rw [guardBy_sim hrT hg, if_neg (by simp)]
      exact ⟨fun _ _ => trivial, fin I.wr (Inj.le_refl _) (fun _ _ _ => rfl) (.inl rfl) fun t ht v hv => by rw [hd t ht] at hv; cases hv; simp only [VR]; exact ⟨[], VRL.nil, rfl⟩⟩
    | @pure v hg hc ha hd =>
      rw [guardBy_sim hrT hg, if_pos rfl]
      refine op_wp hT hE I.wr hrho (v := v) (h' := h) (by simp [opRes, ha h]) fun β' V w' q1 q2 q3 => fin q2 (I.wr.le q3) (fun j hj _ => q3.old j hj) ?_ fun t ht x hx => q1 x (by rw [← hd t ht]; exact hx)
      by_cases hid : ids i < h.next
      · exact .inl (q3.old _ hid)
      · left
        have n1 : β (ids i) = none := by
          cases e : β (ids i) with
          | none => rfl
          | some M => exact absurd (I.wr.dom _ _ e) hid
        have n2 : β' (ids i) = none := by
          cases e : β' (ids i) with
          | none => rfl
          | some M => exact absurd (q2.dom _ _ e) hid
        rw [n1, n2]
    | @read v hg hc ha hm hd =>
      rw [guardBy_sim hrT hg, if_pos rfl]
      refine op_wp hT hE I.wr hrho (v := v) (h' := h) (by simp [opRes, ha]) fun β' V w' q1 q2 q3 => fin q2 (I.wr.le q3) (fun j hj _ => q3.old j hj) ?_ fun t ht x hx => q1 x (by rw [← hd t ht]; exact hx)
      by_cases hid : ids i < h.next
      · exact .inl (q3.old _ hid)
      · left
        have n1 : β (ids i) = none := by
          cases e : β (ids i) with
          | none => rfl
          | some M => exact absurd (I.wr.dom _ _ e) hid
        have n2 : β' (ids i) = none := by
          cases e : β' (ids i) with
          | none => rfl
          | some M => exact absurd (q2.dom _ _ e) hid
        rw [n1, n2]
    | @alloc x k hg hc ha hlt' hbn hx hd =>
      rw [guardBy_sim hrT hg, if_pos rfl]
      obtain ⟨S, hS, ob, V, n, r1, r2⟩ := ha β w a.eval hrho
      have hnd : ∀ c, o.op ≠ .defer c := fun c e => by rw [e] at hc; cases hc
      refine ⟨fun _ _ => trivial, ?_⟩
      rw [Oper.semAt_eq _ _ _ hnd, hS]
      have hrun : (do pure (.value (← S)) : Sem Next).run P w = .ok (.value V) (w.alloc ob) := by simp [r1]
      rw [hrun]
      have hle : β.le (β.with (ids i) ⟨w.heap.size, 0, n⟩) := fun j M e => by
        by_cases hj : j = ids i
        · subst hj; rw [hbn] at e; cases e
        · rw [Inj.with_ne _ _ hj]; exact e
      obtain ⟨s1, s2⟩ := r2 _ (ids i) hle (Inj.with_self _ _ _)
      have hwr := I.wr.birth (L := ⟨w.heap.size, 0, n⟩) hx hbn rfl (s2 _ I.wr.below.size)
      exact fin hwr hle (fun j _ hj => Inj.with_ne _ _ hj) (.inr ⟨hc, hg⟩) fun t ht v hv => by
        rw [hd t ht] at hv; cases hv; exact s1
  · -- it is the plan's next one
    have hmem : i ∈ rest := by
      have := hp.all i hlt
      rw [I.split] at this
      rcases List.mem_append.1 this with hh | hh
      · exact absurd hh hdone
      · exact hh
    obtain ⟨e, r, rfl⟩ : ∃ e r, rest = e :: r := by
      cases rest with
      | nil => cases hmem
      | cons e r => exact ⟨e, r, rfl⟩
    obtain ⟨helt, hend, _, _⟩ := hp.ord done e r I.split
    have hoe : ops[e]? = some ops[e] := Array.getElem?_eq_getElem helt
    have hee := hhead e r rfl _ hoe
    have hie : i = e := by
      apply Classical.byContradiction
      intro hne
      have hir : i ∈ r := by
        rcases List.mem_cons.1 hmem with hh | hh
        · exact absurd hh hne
        · exact hh
      obtain ⟨p1, p2, ep⟩ := List.append_of_mem hir
      have := (hp.ord (done ++ e :: p1) i p2 (by rw [I.split, ep]; simp)).2.2.2 e (by simp) _ hoe hee
      exact hend (I.sub e (hb e this))
    subst hie
    rw [ho] at hoe
    have hoeq : o = ops[i] := Option.some.inj hoe
    rw [← hoeq] at hee
    obtain ⟨o', fr', h', rds', ho', hs, hrun⟩ := runPlan_cons I.run
    rw [ho] at ho'; cases ho'
    have hl := I.head hp ho
    obtain ⟨v0, hput⟩ := hs.frame
    obtain ⟨F1, F2, F3⟩ := I.frames hp ho hput hrun
    -- behind it
    have fin : rds' = rds → ∀ {β' : Inj} {w' : World} {V : Value}, WR w0 β' h' w' → Goes β h β' h' → (∀ j p v, j ∈ done → X.getD j false = false → ops[j]? = some p → clsOf T p.op = .read → (j, v) ∈ rds → aop T (rhoOf ops bef fr0 frN j p) h p.op = some (.val v h) → aop T (rhoOf ops bef fr0 frN j p) h' p.op = some (.val v h')) →
        (∀ t, o.dst = some t → ∀ v, frN.get t = some v → VR β' v V) → DGood P T E nt ops order bef w0 β0 fr0 h0 a0 frN hN (X.setIfInBounds i true) (a.put o.dst V) w' := by
      intro hrds β' w' V hwr hg hrd hV
      subst hrds
      obtain ⟨T1, T2⟩ := I.put hp ho hlt hdo (I.wr.le hg) hV
      have J : DInv P T E nt ops order bef w0 β0 fr0 h0 a0 frN hN (X.setIfInBounds i true) (done ++ [i]) r fr' h' rds' ids β' (a.put o.dst V) w' := by
        refine ⟨by rw [I.split]; simp, hrun, by simp [I.xs], fun j hj k hk => ?_, fun j hj => ?_, fun j hj p hpj hpe => ?_, hwr, by rw [size_put]; exact I.size, by rw [defers_put]; exact I.defers, I.goes.trans hg, T1, T2, F1, F2, fun j hj hXj => ?_, fun j hj p hpj hc hgu => ?_,
          fun j hj k hk p q hpj hqk hcp hcq hgp hgq hid => ?_⟩
        · rw [getD_set hiX] at hj ⊢
          rcases hj with rfl | hj
          · exact .inr (hb k hk)
          · exact .inr (I.closed j hj k hk)
        · rw [getD_set hiX] at hj
          rcases hj with rfl | hj
          · simp
          · exact List.mem_append_left _ (I.sub j hj)
        · rw [getD_set hiX]
          rcases List.mem_append.1 hj with hj | hj
          · exact .inr (I.effs j hj p hpj hpe)
          · exact .inl (by simpa using hj)
        · have hn : ¬ (j = i ∨ X.getD j false = true) := fun e => by rw [(getD_set hiX j).2 e] at hXj; cases hXj
          have hXj' : X.getD j false = false := by
            cases e : X.getD j false with
            | false => rfl
            | true => exact absurd (.inr e) hn
          rcases List.mem_append.1 hj with hj | hj
          · obtain ⟨p, hpj, A⟩ := I.ahead j hj hXj'
            exact ⟨p, hpj, A.mono (fun v hc hm hv => hrd j p v hj hXj' hpj hc hm hv) (fun _ hx => hx) hg.next (fun _ hlt' hbn => by rw [hg.old _ hlt']; exact hbn) (fun x hlt' hbn hx => by rw [hg.free _ hlt' hbn]; exact hx)⟩
          · exact absurd (.inl (by simpa using hj)) hn
        · rcases List.mem_append.1 hj with hj | hj
          · have := I.idlt j hj p hpj hc hgu
            exact ⟨this.1, Nat.lt_of_lt_of_le this.2 hg.next⟩
          · simp only [List.mem_singleton] at hj
            subst hj
            rw [ho] at hpj; cases hpj
            simp [isEff, hc] at hee
        · have hja : j ∈ done := by
            rcases List.mem_append.1 hj with hj | hj
            · exact hj
            · simp only [List.mem_singleton] at hj
              subst hj
              rw [ho] at hpj; cases hpj
              simp [isEff, hcp] at hee
          have hka : k ∈ done := by
            rcases List.mem_append.1 hk with hk | hk
            · exact hk
            · simp only [List.mem_singleton] at hk
              subst hk
              rw [ho] at hqk; cases hqk
              simp [isEff, hcq] at hee
          exact I.idinj j hja k hka p q hpj hqk hcp hcq hgp hgq hid
      exact J.good hp hT
    cases hs with
    | skip hg hpp =>
      rw [guardBy_sim hrT (by rw [← rho_guard hl]; exact hg), if_neg (by simp)]
      refine ⟨fun _ _ => trivial, fin rfl I.wr (Goes.refl _ _) (fun _ _ _ _ _ _ _ _ hv => hv) fun t ht v hv => ?_⟩
      have e1 := (putT_eq hput ht).1
      rw [(putT_eq hpp ht).1] at e1
      rw [F3 t ht, ← e1] at hv
      cases hv
      simp only [VR]; exact ⟨[], VRL.nil, rfl⟩
    | quiet hg hc ha hpp =>
      rcases hc with hc | hc <;> simp [isEff, hc] at hee
    | read hg hc ha hpp => simp [isEff, hc] at hee
    | eff hg hc hgo hag =>
      rw [guardBy_sim hrT (by rw [← rho_guard hl]; exact hg), if_pos rfl]
      obtain ⟨v, hv, hpv⟩ := opGo_eq hgo
      have hres : opRes E T (rhoOf ops bef fr0 frN i o) o h = some (v, h') := by
        unfold opRes at hv ⊢
        rw [aop_congr_rho hl] at hv
        exact hv
      refine op_wp hT hE I.wr hrho hres fun β' V w' q1 q2 q3 => fin rfl q2 q3 (fun j p u hj hXj hpj hc hm hu => ?_) fun t ht x hx => q1 x ?_
      · have hnb : ¬ Nat.testBit (bef.getD i 0) j = true := fun hh => by
          have := hb j hh
          rw [hXj] at this; cases this
        obtain ⟨p', x, h2, hp', ha', rfl⟩ := again_spec hag j u hm hnb
        have hp'' : ops[j]? = some p' := by simpa using hp'
        rw [hpj] at hp''; cases hp''
        have hh := aop_read hc ha'
        subst hh
        rw [← ha']
        refine (aop_congr _ _ fun y hy => ?_).symm
        cases y with
        | tmp t =>
          have htl : t ∈ p.looksAt ops := by
            unfold Oper.looksAt; rw [List.mem_append]
            exact .inl (by rw [List.mem_filterMap]; exact ⟨.tmp t, by simpa using hy, rfl⟩)
          simp only [rhoOf, htl, if_true]
          show fr'.get t = _
          by_cases hk : ∃ k, dstAt ops k = some t
          · obtain ⟨k, hk⟩ := hk
            have hjo : ∃ q, ops[k]? = some q ∧ q.dst = some t := by
              unfold dstAt at hk
              cases hq : ops[k]? with
              | none => rw [hq] at hk; cases hk
              | some q => rw [hq] at hk; exact ⟨q, rfl, hk⟩
            obtain ⟨q, hq, hqt⟩ := hjo
            have hne : j ≠ k := fun e => by
              subst e
              rw [hpj] at hq; cases hq
              exact hp.self j p t hpj hqt (by simp [isRead, hc]) hy
            have hbk := (hp.pair j k p q t hne hpj hq hqt).2.2 (by simp [isRead, hc]) hy
            rw [if_pos ⟨k, hbk, hk⟩]
            obtain ⟨b1, b2, eb⟩ := List.append_of_mem hj
            have := (hp.ord b1 j (b2 ++ i :: r) (by rw [I.split, eb]; simp)).2.2.1 k hbk
            exact F1 t ⟨k, by rw [eb]; simp [this], hk⟩
          · rw [if_neg (fun ⟨k, _, h2⟩ => hk ⟨k, h2⟩)]
            exact F2 t fun ⟨k, _, h2⟩ => hk ⟨k, h2⟩
        | const V => rfl
        | global g => rfl
        | func f => rfl
      · have e1 := (putT_eq hput ht).1
        rw [(putT_eq hpv ht).1] at e1
        rw [e1, ← F3 t ht]; exact hx

theorem count_set : ∀ (X : Array Bool) (i : Nat), X.getD i true = false → (X.setIfInBounds i true).toList.count false + 1 = X.toList.count false := by
  rintro ⟨l⟩ i h
  simp only [Array.getD_eq_getD_getElem?, List.getElem?_toArray, List.setIfInBounds_toArray] at h ⊢
  induction l generalizing i with
  | nil => simp at h
  | cons b l ih =>
    cases i with
    | zero => simp at h; subst h; simp
    | succ i =>
      simp only [List.getElem?_cons_succ] at h
      have := ih i h
      simp only [List.set_cons_succ, List.count_cons]
      omega

/-- All of the plan's run is behind: every operation is listed. -/
theorem DGood.end (hp : PlanOK T ops order bef) (G : DGood P T E nt ops order bef w0 β0 fr0 h0 a0 frN hN X a w) (hr : Region.ready .any ops X = []) :
    ∃ β, SR w0 β nt frN hN a w ∧ Goes β0 h0 β hN ∧ a.defers = a0.defers := by
  obtain ⟨done, rest, fr, h, rds, ids, β, I, hhead⟩ := G
  have hall : ∀ i, i < ops.size → X.getD i false = true := by
    intro i
    induction i using Nat.strongRecOn with
    | _ i ih =>
      intro hi
      apply Classical.byContradiction
      intro hX
      have hX' : X.getD i false = false := by simpa using hX
      have : i ∈ Region.ready .any ops X := by
        rw [mem_ready]
        refine ⟨?_, ops[i], Array.getElem?_eq_getElem hi, fun e he hb => ih _ (hp.edge i _ (Array.getElem?_eq_getElem hi) e he hb).1 (Nat.lt_trans (hp.edge i _ (Array.getElem?_eq_getElem hi) e he hb).1 hi)⟩
        have : i < X.size := by rw [I.xs]; exact hi
        simp only [Array.getD_eq_getD_getElem?, Array.getElem?_eq_getElem this, Option.getD_some] at hX' ⊢
        exact hX'
      rw [hr] at this; cases this
  have hrest : rest = [] := by
    cases rest with
    | nil => rfl
    | cons i r =>
      obtain ⟨hlt, hni, _, _⟩ := hp.ord done i r I.split
      exact absurd (I.sub i (hall i hlt)) hni
  subst hrest
  have hrun := I.run
  simp only [runPlan, Option.some.injEq, Prod.mk.injEq] at hrun
  obtain ⟨rfl, rfl⟩ := hrun
  refine ⟨β, ⟨I.wr, fun t v hv => ?_, I.size⟩, I.goes, I.defers⟩
  by_cases ht : ∃ j, X.getD j false = true ∧ dstAt ops j = some t
  · exact I.t1 t ht v hv
  · refine I.t2 t ht v ?_
    have hnone : ∀ j ∈ done, dstAt ops j ≠ some t := fun j hj e => by
      obtain ⟨p1, p2, ep⟩ := List.append_of_mem hj
      exact ht ⟨j, hall j (hp.ord p1 j p2 (by rw [I.split, ep]; simp)).1, e⟩
    rw [← I.f2 t (fun ⟨j, hj, e⟩ => hnone j hj e)]
    exact hv

theorem draw_any (hp : PlanOK T ops order bef) (hT : TabOK P T) (hE : EnvOK P E) (hdst : ∀ i ∈ order, ∀ t, dstAt ops i = some t → t < nt) {rd : Option Nat} {Q : Exit → Act → World → Prop}
    (hQ : ∀ β a' w', SR w0 β nt frN hN a' w' → Goes β0 h0 β hN → a'.defers = a0.defers → Q .normal a' w') :
    ∀ (fuel : Nat) (X : Array Bool) (a : Act) (w : World), X.toList.count false ≤ fuel → DGood P T E nt ops order bef w0 β0 fr0 h0 a0 frN hN X a w → wpAnyIn (FW rd) 0 P .any ops Q fuel X a w
  | 0, X, a, w, hc, G => by
    have hr : Region.ready .any ops X = [] := by
      apply List.eq_nil_iff_forall_not_mem.2
      intro i hi
      obtain ⟨hX, _⟩ := mem_ready.1 hi
      have := count_set X i hX
      omega
    refine ⟨hr, ?_⟩
    obtain ⟨β, h1, h2, h3⟩ := G.end hp hr
    exact hQ β a w h1 h2 h3
  | fuel + 1, X, a, w, hc, G => by
    refine ⟨fun hr => ?_, fun i hi => ?_⟩
    · obtain ⟨β, h1, h2, h3⟩ := G.end hp hr
      exact hQ β a w h1 h2 h3
    · refine wpOpIn_mono (fun a' w' G' => ?_) (G.step hp hT hE hdst hi)
      refine draw_any hp hT hE hdst hQ fuel _ a' w' ?_ G'
      have := count_set X i (mem_ready.1 hi).1
      omega

theorem draw_wp (hT : TabOK P T) (hE : EnvOK P E) (hm : P.follows .mixedOrders = true) (hpl : planOk T ops.toList order bef = true) (hs : SR w0 β0 nt fr0 h0 a0 w) (hr : runPlan E T nt ops.toList bef order fr0 h0 [] = some (frN, hN))
    {id : Nat} {rd : Option Nat} {Q : Exit → Act → World → Prop} (hQ : ∀ β a' w', SR w0 β nt frN hN a' w' → Goes β0 h0 β hN → a'.defers = a0.defers → Q .normal a' w') :
    (Code.region id ops true).wpIn (FW rd) 0 P Q a0 w := by
  have hp := planOk_spec hpl
  refine wpIn_region_any hm ?_
  refine draw_any (fr0 := fr0) hp hT hE (runPlan_dst order hr) hQ ops.size _ a0 _ (by simp) ?_
  have I : DInv P T E nt ops order bef w0 β0 fr0 h0 a0 frN hN (Array.replicate ops.size false) [] order fr0 h0 [] (fun _ => 0) β0 a0 { w with drawn := w.drawn + 1 } := by
    have hX : ∀ j, (Array.replicate ops.size false).getD j false = true → False := fun j h => by
      simp only [Array.getD_eq_getD_getElem?, Array.getElem?_replicate] at h
      split at h <;> cases h
    exact {
      split := rfl, run := hr, xs := by simp, closed := fun j hj => (hX j hj).elim, sub := fun j hj => (hX j hj).elim
      effs := fun j hj => absurd hj (List.not_mem_nil), size := hs.size, defers := rfl, goes := Goes.refl _ _
      t1 := fun t hh => by obtain ⟨j, hj, _⟩ := hh; exact (hX j hj).elim
      t2 := fun t _ v hv => hs.fr t v hv
      f1 := fun t hh => by obtain ⟨j, hj, _⟩ := hh; exact absurd hj (List.not_mem_nil)
      f2 := fun t _ => rfl
      ahead := fun j hj => absurd hj (List.not_mem_nil), idlt := fun j hj => absurd hj (List.not_mem_nil), idinj := fun j hj => absurd hj (List.not_mem_nil)
      wr := ⟨⟨hs.wr.below.os, hs.wr.below.tape, hs.wr.below.output, hs.wr.below.size, hs.wr.below.block⟩, hs.wr.dom, hs.wr.wf, hs.wr.obj, hs.wr.inj⟩ }
  exact I.good hp hT
end
end Go.Am

set_option linter.unusedVariables false
set_option linter.unusedSimpArgs false
namespace Go.Am
open Classical

section
variable {F : Fence} {n : Nat} {P : Program} {Q : Exit → Act → World → Prop} {a : Act} {w : World}

theorem stepR_scope' {b : Frame} {k : List Item} {cs : List Frame} {c : Code} : step P (lone (b.atR a (.code (.scope c) :: k)) cs w) = .next (lone (b.atR a (.code c :: .inScope c :: k)) cs w) :=
  step_lone_go (by simp [stepG, stepG.exec, Frame.atR])
theorem stepR_inScope' {b : Frame} {k : List Item} {cs : List Frame} {c : Code} : step P (lone (b.atR a (.inScope c :: k)) cs w) = .next (lone (b.atR a k) cs w) :=
  step_lone_go (by simp [stepG, stepG.exec, Frame.atR])

theorem wpIn_scope {c : Code} (h : c.wpIn F n P (Exit.noGoto Q) a w) : (Code.scope c).wpIn F n P Q a w := by
  intro b k cs hro hb hr
  have h0 : (lone (b.atR a (.code (.scope c) :: k)) cs w).fenced P F := fenced_calm hb hr rfl
  obtain ⟨e, a₁, w₁, hq, harr⟩ := h b (.inScope c :: k) cs hro hb hr
  cases e with
  | normal => exact ⟨.normal, a₁, w₁, hq, .head h0 stepR_scope' (StepsIn.trans harr (.one (fenced_calm hb hr rfl) stepR_inScope'))⟩
  | exit id =>
    have hx : exitTo id (.inScope c :: k) = exitTo id k := by simp [exitTo]
    exact ⟨.exit id, a₁, w₁, hq, fun k' hk => .head h0 stepR_scope' (harr.1 k' (by rw [hx]; exact hk)),
      fun hr' hk => let ⟨k₁, h1, h2⟩ := harr.2 hr' (by rw [hx]; exact hk); ⟨k₁, h1, .head h0 stepR_scope' h2⟩⟩
  | goto l => exact hq.elim
  | ret => exact ⟨_, a₁, w₁, hq, .of_steps (.one h0 stepR_scope') harr⟩
  | panic ch => exact ⟨_, a₁, w₁, hq, .of_steps (.one h0 stepR_scope') harr⟩
  | outgrown => exact ⟨_, a₁, w₁, hq, .of_steps (.one h0 stepR_scope') harr⟩
end

def exitOf : AExit → Exit
  | .normal => .normal
  | .exit id => .exit id
  | .ret => .ret

/-- The marks among an activation's deferred calls. -/
def DR (β : Inj) : List Nat → List Deferred → Prop
  | [], ds => ds = []
  | m :: ms, ds => ∃ L ds', β m = some L ∧ ds = { target := .collected L.b, args := #[] } :: ds' ∧ DR β ms ds'

theorem DR.mono {β β' : Inj} (hb : β.le β') : ∀ {ms : List Nat} {ds : List Deferred}, DR β ms ds → DR β' ms ds
  | [], _, h => h
  | _ :: _, _, ⟨L, ds', h1, h2, h3⟩ => ⟨L, ds', hb _ _ h1, h2, DR.mono hb h3⟩

theorem keepOnly_get (fr : AFrame) : ∀ (ts : List Nat) (t : Nat) (v : AV), (keepOnly fr ts).get t = some v → fr.get t = some v
  | [], t, v, h => by simp [keepOnly, PT.get] at h
  | u :: ts, t, v, h => by
    simp only [keepOnly, PT.get_set] at h
    by_cases e : t = u
    · rw [if_pos e] at h; rw [e]; exact h
    · rw [if_neg e] at h; exact keepOnly_get fr ts t v h

section
variable {P : Program} {T : Tab} {E : Env}

/-- What stands of a state of the abstract machine. -/
structure ST (w0 : World) (β : Inj) (nt : Nat) (s : ASt) (a : Act) (w : World) : Prop extends SR w0 β nt s.fr s.h a w where
  dr : DR β s.ms a.defers

theorem ST.clean {w0 : World} {β : Inj} {nt : Nat} {s : ASt} {a : Act} {w : World} (h : ST w0 β nt s a w) (A : AFn) (k : Nat) : ST w0 β nt (clean A k s) a w := by
  unfold Am.clean
  split
  · exact ⟨⟨h.wr, fun t v hv => h.fr t v (keepOnly_get _ _ _ _ hv), h.size⟩, h.dr⟩
  · exact h

theorem ST.cleanJ {w0 : World} {β : Inj} {nt : Nat} {s : ASt} {a : Act} {w : World} (h : ST w0 β nt s a w) (A : AFn) (k : Nat) : ST w0 β nt (cleanJ A k s) a w := by
  unfold Am.cleanJ
  split
  · exact ⟨⟨h.wr, fun t v hv => h.fr t v (keepOnly_get _ _ _ _ hv), h.size⟩, h.dr⟩
  · exact h

theorem cleanJ_h (A : AFn) (k : Nat) (s : ASt) : (cleanJ A k s).h = s.h := by
  unfold Am.cleanJ
  split <;> rfl

theorem keepR_get {A : AFn} {k : Nat} {fr : AFrame} {t : Nat} {v : AV} (h : (keepR A k fr).get t = some v) : fr.get t = some v := by
  unfold keepR at h
  split at h
  · exact keepOnly_get _ _ _ _ h
  · exact h

theorem clean_h (A : AFn) (k : Nat) (s : ASt) : (clean A k s).h = s.h := by
  unfold Am.clean
  split <;> rfl

/-- Behind a range over a function: a jump that a round has left. -/
theorem jump_wp {F : Fence} {n : Nat} {Q : Exit → Act → World → Prop} {a : Act} {w : World} (e : AExit) (h : Q (exitOf e) a w) :
    (match jumpOf e with
       | none => Q .normal a w
       | some c => c.wpIn F n P Q a w) := by
  cases e with
  | normal => exact h
  | exit id => exact wpIn_exit h
  | ret => exact wpIn_ret h

/-- The loop's record is turned. -/
theorem WR.putLoop {w0 : World} {β : Inj} {h : AHeap} {w : World} (hw : WR w0 β h w) {o : Nat} {l l' : ALoop} {L : Loc} {r r' : Loop} (ho : h.get o = some (.loop l)) (hL : β o = some L) (hr : w.heap[L.b]? = some (.loop r)) (hl : LR β l' r') :
    (setObj L.b (.loop r')).run P w = .ok () { w with heap := w.heap.setIfInBounds L.b (.loop r') } ∧ WR w0 β (h.put o (.loop l')) { w with heap := w.heap.setIfInBounds L.b (.loop r') } ∧ Goes β h β (h.put o (.loop l')) := by
  have hx := hw.obj o _ L ho hL
  have hlt := hx.lt (by simp)
  have hB := hx.owned rfl
  refine ⟨by simp [setObj, Sem.run, hr], hw.turn ho rfl hL ⟨r', by simp [hlt], hl, hB⟩ rfl rfl rfl (by simp) fun k hk => ?_⟩
  simp [Array.getElem?_setIfInBounds, Ne.symm hk]

theorem run_getLoop {w : World} {l : Nat} {r : Loop} (h : w.heap[l]? = some (.loop r)) : (Instr.getLoop l).run P w = .ok r w := by
  simp [Instr.getLoop, getObj, Sem.run, Result.andThen, h]

/-- The record of a range over a function, and the block for its rounds' deferred calls. -/
theorem enter_sim {w0 : World} {β : Inj} {nt : Nat} {fr : AFrame} {h : AHeap} {a : Act} {w : World} (hs : SR w0 β nt fr h a w) (fn fid : Nat) (ps : Array Tmp) (assign body : Code) :
    ∃ β2 Lm Ll, WR w0 β2 ((h.add .marks).add (.loop { state := .ready, pending := .normal, fn := fid, fr := fr, nt := nt, params := ps.toList, assign := assign, body := body }))
        ((w.alloc (.deferred (some []))).alloc (.loop { state := .ready, pending := none, fn := fn, tmps := a.tmps, params := ps, assign := assign, body := body, defers := w.heap.size })) ∧
      Goes β h β2 ((h.add .marks).add (.loop { state := .ready, pending := .normal, fn := fid, fr := fr, nt := nt, params := ps.toList, assign := assign, body := body })) ∧ β2 h.next = some Lm ∧ β2 (h.add .marks).next = some Ll ∧
      (Instr.enterLoop fn a.tmps ps assign body none).run P w = .ok (Ll.b, [{ target := .collected Lm.b, args := #[] }])
        ((w.alloc (.deferred (some []))).alloc (.loop { state := .ready, pending := none, fn := fn, tmps := a.tmps, params := ps, assign := assign, body := body, defers := w.heap.size })) := by
  have hsz : (w.alloc (.deferred (some []))).heap.size = w.heap.size + 1 := Array.size_push _
  obtain ⟨W1, G1⟩ := hs.wr.alloc (x := .marks) (ob := .deferred (some [])) (L := ⟨w.heap.size, 0, 0⟩) rfl ⟨heap_push_new, hs.wr.below.size⟩
  have hfr : ∀ β', β.le β' → LR β' { state := .ready, pending := .normal, fn := fid, fr := fr, nt := nt, params := ps.toList, assign := assign, body := body } { state := .ready, pending := none, fn := fn, tmps := a.tmps, params := ps, assign := assign, body := body, defers := w.heap.size } :=
    fun β' hle => ⟨rfl, rfl, hs.fr.mono hle, hs.size, rfl, rfl, rfl⟩
  have le1 : β.le (β.with h.next ⟨w.heap.size, 0, 0⟩) := hs.wr.le G1
  have hn : (β.with h.next ⟨w.heap.size, 0, 0⟩) (h.add .marks).next = none := by
    cases e : (β.with h.next ⟨w.heap.size, 0, 0⟩) (h.add .marks).next with
    | none => rfl
    | some M => exact absurd (W1.dom _ _ e) (Nat.lt_irrefl _)
  have le2 : (β.with h.next ⟨w.heap.size, 0, 0⟩).le ((β.with h.next ⟨w.heap.size, 0, 0⟩).with (h.add .marks).next ⟨(w.alloc (.deferred (some []))).heap.size, 0, 0⟩) := fun j M e => by
    by_cases hj : j = (h.add .marks).next
    · subst hj; rw [hn] at e; cases e
    · rw [Inj.with_ne _ _ hj]; exact e
  obtain ⟨W2, G2⟩ := W1.alloc (x := .loop { state := .ready, pending := .normal, fn := fid, fr := fr, nt := nt, params := ps.toList, assign := assign, body := body })
    (ob := .loop { state := .ready, pending := none, fn := fn, tmps := a.tmps, params := ps, assign := assign, body := body, defers := w.heap.size }) (L := ⟨(w.alloc (.deferred (some []))).heap.size, 0, 0⟩) rfl
    ⟨_, heap_push_new, hfr _ (le1.trans le2), by have := hs.wr.below.size; show w0.heap.size ≤ (w.alloc (.deferred (some []))).heap.size; omega⟩
  refine ⟨_, ⟨w.heap.size, 0, 0⟩, ⟨(w.alloc (.deferred (some []))).heap.size, 0, 0⟩, W2, G1.trans G2, le2 _ _ (Inj.with_self _ _ _), Inj.with_self _ _ _, ?_⟩
  simp [Instr.enterLoop, newObj, Sem.run, Sem.run_bind, Result.andThen]
  rfl

theorem exec_sound (hT : TabOK P T) (hE : EnvOK P E) (hm : P.follows .mixedOrders = true) {w0 : World} {nt fid n : Nat} {A : AFn} {r : Option Nat} :
    ∀ (c : Code) {s s' : ASt} {e : AExit}, exec E T A fid nt n r.isSome c s = some (e, s') → ∀ {β : Inj} {a : Act} {w : World}, ST w0 β nt s a w → ∀ {Q : Exit → Act → World → Prop},
      (∀ β' a' w', ST w0 β' nt s' a' w' → Goes β s.h β' s'.h → Q (exitOf e) a' w') → c.wpIn (FW r) 0 P Q a w := by
  intro c
  induction c with
  | skip =>
    intro s s' e he β a w hs Q hQ
    simp only [exec, Option.some.injEq, Prod.mk.injEq] at he
    obtain ⟨rfl, rfl⟩ := he
    exact wpIn_skip (hQ β a w hs (Goes.refl _ _))
  | label l =>
    intro s s' e he β a w hs Q hQ
    simp only [exec, Option.some.injEq, Prod.mk.injEq] at he
    obtain ⟨rfl, rfl⟩ := he
    exact wpIn_label (hQ β a w hs (Goes.refl _ _))
  | ret =>
    intro s s' e he β a w hs Q hQ
    simp only [exec, Option.some.injEq, Prod.mk.injEq] at he
    obtain ⟨rfl, rfl⟩ := he
    exact wpIn_ret (hQ β a w hs (Goes.refl _ _))
  | exit id =>
    intro s s' e he β a w hs Q hQ
    simp only [exec, Option.some.injEq, Prod.mk.injEq] at he
    obtain ⟨rfl, rfl⟩ := he
    exact wpIn_exit (hQ β a w hs (Goes.refl _ _))
  | region id ops draw =>
    intro s s' e he β a w hs Q hQ
    simp only [exec] at he
    cases draw with
    | false =>
      simp only at he
      split at he
      · rename_i fr h hr
        cases he
        exact region_wp hT hE hs.toSR hr fun β' a' w' q1 q2 q3 => hQ β' a' w' ⟨q1, by rw [q3]; exact hs.dr.mono (hs.wr.le q2)⟩ q2
      · cases he
    | true =>
      simp only at he
      split at he
      · rename_i order bef hpl
        cases hpo : planOk T ops.toList order bef with
        | false => rw [hpo] at he; cases he
        | true =>
          rw [hpo] at he
          simp only [cond_true] at he
          split at he
          · rename_i fr h hr
            cases he
            exact draw_wp hT hE hm hpo hs.toSR hr fun β' a' w' q1 q2 q3 => hQ β' a' w' ⟨q1, by rw [q3]; exact hs.dr.mono (hs.wr.le q2)⟩ q2
          · cases he
      · cases he
  | seq x y ihx ihy =>
    intro s s' e he β a w hs Q hQ
    simp only [exec] at he
    refine wpIn_seq ?_
    split at he
    · rename_i s1 hx
      refine ihx hx hs fun β1 a1 w1 q1 g1 => ?_
      refine ihy he (q1.cleanJ A (firstRegion y)) fun β2 a2 w2 q2 g2 => ?_
      rw [cleanJ_h] at g2
      exact hQ β2 a2 w2 q2 (g1.trans g2)
    · rename_i hx
      refine ihx he hs fun β1 a1 w1 q1 g1 => ?_
      cases e with
      | normal => exact absurd he (hx s')
      | exit id => exact hQ β1 a1 w1 q1 g1
      | ret => exact hQ β1 a1 w1 q1 g1
  | cond c x y ihx ihy =>
    intro s s' e he β a w hs Q hQ
    simp only [exec] at he
    split at he
    · rename_i t hc
      have := hs.fr.rho c _ hc
      simp only [VR] at this
      cases t with
      | true => exact wpIn_cond_true this (ihx he hs hQ)
      | false => exact wpIn_cond_false this (ihy he hs hQ)
    · cases he
  | block id b ih =>
    intro s s' e he β a w hs Q hQ
    simp only [exec] at he
    refine wpIn_block ?_
    split at he
    · rename_i id' s1 hb
      cases hbe : Nat.beq id' id with
      | true =>
        rw [hbe] at he
        cases he
        refine ih hb hs fun β1 a1 w1 q1 g1 => ?_
        simp only [exitOf, Exit.inBlock, Nat.eq_of_beq_eq_true hbe, if_true]
        exact hQ β1 a1 w1 q1 g1
      | false =>
        rw [hbe] at he
        cases he
        refine ih hb hs fun β1 a1 w1 q1 g1 => ?_
        simp only [exitOf, Exit.inBlock, Nat.ne_of_beq_eq_false hbe, if_false]
        exact hQ β1 a1 w1 q1 g1
    · rename_i hb
      refine ih he hs fun β1 a1 w1 q1 g1 => ?_
      cases e with
      | normal => exact hQ β1 a1 w1 q1 g1
      | exit id' => exact absurd he (hb id' s')
      | ret => exact hQ β1 a1 w1 q1 g1
  | loop b ih =>
    intro s s' e he β a w hs Q hQ
    simp only [exec] at he
    refine wpIn_loop_rounds n ?_
    have key : ∀ (m : Nat) {s : ASt} {β : Inj} {a : Act} {w : World}, iter (exec E T A fid nt n r.isSome b) (clean A (firstRegion b)) m s = some (e, s') → ST w0 β nt s a w → (∀ β' a' w', ST w0 β' nt s' a' w' → Goes β s.h β' s'.h → Q (exitOf e) a' w') → Code.roundsIn (FW r) 0 P b Q m a w := by
      intro m
      induction m with
      | zero => intro s β a w hi; cases hi
      | succ m ihm =>
        intro s β a w hi hs hQ
        simp only [iter] at hi
        rw [roundsIn_succ]
        split at hi
        · rename_i s1 h1
          refine ih h1 (hs.clean A (firstRegion b)) fun β1 a1 w1 q1 g1 => ?_
          rw [clean_h] at g1
          exact ihm hi q1 fun β2 a2 w2 q2 g2 => hQ β2 a2 w2 q2 (g1.trans g2)
        · rename_i h1
          refine ih hi (hs.clean A (firstRegion b)) fun β1 a1 w1 q1 g1 => ?_
          rw [clean_h] at g1
          cases e with
          | normal => exact absurd hi (h1 s')
          | exit id => exact hQ β1 a1 w1 q1 g1
          | ret => exact hQ β1 a1 w1 q1 g1
    exact key n he hs hQ
  | scope b ih =>
    intro s s' e he β a w hs Q hQ
    simp only [exec] at he
    refine wpIn_scope (ih he hs fun β1 a1 w1 q1 g1 => ?_)
    have := hQ β1 a1 w1 q1 g1
    cases e <;> exact this
  | rangeFunc f ps assign body =>
    intro s s' e he β a w hs Q hQ
    cases r with
    | some l => simp [exec] at he
    | none =>
    simp only [exec, Option.isSome_none] at he
    split at he
    case h_2 => cases he
    rename_i g hg
    split at he
    case h_2 => cases he
    rename_i f1 args hc
    split at he
    case h_2 => cases he
    rename_i rv h3 hEc
    split at he
    case h_2 => cases he
    rename_i L hL
    refine wpIn_rangeFunc fun fn _ => ?_
    obtain ⟨β2, Lm, Ll, W2, G2, hβm, hβl, hrun⟩ := enter_sim (P := P) (fr := keepR A (firstRegion body) s.fr) ⟨hs.wr, fun t v hv => hs.fr t v (keepR_get hv), hs.size⟩ fn fid ps assign body
    have le2 : β.le β2 := hs.wr.le G2
    obtain ⟨d, vals, d1, d2, d3⟩ := acallV_sim (P := P) (Vs := [.func (.yield Ll.b) #[] #[]]) hc ((hs.fr.rho f _ hg).mono le2) (VRL.cons (by simp only [VR]; exact ⟨Ll, hβl, rfl⟩) VRL.nil) ((w.alloc (.deferred (some []))).alloc (.loop { state := .ready, pending := none, fn := fn, tmps := a.tmps, params := ps, assign := assign, body := body, defers := w.heap.size }))
    rcases d3 with ⟨f', hff, hinv⟩ | ⟨o', L', hff, hL', hinv⟩
    · cases hff
      obtain ⟨⟨fn', body', p1, p2, p3⟩, hC⟩ := hE _ _ _ _ _ hEc w0 β2 _ vals W2 d2
      have hcf : (callFunc f1 vals.toArray).run P ((w.alloc (.deferred (some []))).alloc (.loop { state := .ready, pending := none, fn := fn, tmps := a.tmps, params := ps, assign := assign, body := body, defers := w.heap.size })) = .ok (.enter f1 vals.toArray) ((w.alloc (.deferred (some []))).alloc (.loop { state := .ready, pending := none, fn := fn, tmps := a.tmps, params := ps, assign := assign, body := body, defers := w.heap.size })) := by
        simp [callFunc, p1, p2, p3]
      refine ⟨Ll.b, [{ target := .collected Lm.b, args := #[] }], _, d, _, f1, vals.toArray, _, hrun, ?_, fun _ _ => trivial, by rw [hinv]; exact hcf, fun hh => by simp [FW] at hh, hC.mono ?_⟩
      · have hmap : (#[Operand.const (Value.func (Fn.yield Ll.b) #[] #[])] : Array Operand).map a.eval = [Value.func (Fn.yield Ll.b) #[] #[]].toArray := by
          simp [Act.eval]
        show (Deferred.ofValue (a.eval f) ((#[Operand.const (Value.func (Fn.yield Ll.b) #[] #[])] : Array Operand).map a.eval)).run P _ = _
        rw [hmap, d1]
      · rintro ee w3 ⟨β3, V, rfl, q1, q2, q3⟩
        have hL3 : β3 (s.h.add .marks).next = some Ll := by
          rw [q3.old _ (by rw [AHeap.next_add]; exact Nat.lt_succ_self _)]; exact hβl
        obtain ⟨rec3, r1, r2, r3⟩ := q2.obj _ _ Ll hL hL3
        have hnb : L.state ≠ .busy := by
          intro hb
          rw [hb] at he
          cases he
        have he' : some (L.pending, ({ fr := s.fr, ms := s.h.next :: s.ms, h := h3.put (s.h.add .marks).next (.loop { L with state := .exhausted }) } : ASt)) = some (e, s') := by
          rw [← he]
          split
          · rename_i hb; exact absurd hb hnb
          · rfl
        cases he'
        obtain ⟨s1, s2, s3⟩ := q2.putLoop (P := P) (l' := { L with state := .exhausted }) (r' := { rec3 with state := .exhausted }) hL hL3 r1 { r2 with state := rfl }
        refine ⟨jumpOf L.pending, _, ?_, jump_wp _ (hQ β3 _ _ ⟨⟨s2, ?_, hs.size⟩, ?_⟩ ((G2.trans q3).trans s3))⟩
        · have hst : (rec3.state == LoopState.busy) = false := by
            rw [r2.state]
            cases hb : L.state <;> first | rfl | exact absurd hb hnb
          simp only [Instr.endLoop, Sem.run_bind, run_getLoop r1, Result.andThen_ok, hst]
          have s1' := s1
          simp only [r2.pending] at s1'
          simp [s1', r2.pending, Sem.run_bind, Result.andThen]
        · exact hs.fr.mono (le2.trans (W2.le q3))
        · exact ⟨Lm, _, (W2.le q3) _ _ hβm, rfl, hs.dr.mono (le2.trans (W2.le q3))⟩
    · cases hff
  | _ => intro s s' e he; simp [exec] at he
end
end Go.Am

set_option linter.unusedVariables false
set_option linter.unusedSimpArgs false
namespace Go.Am
open Classical

section
variable {P : Program} {T : Tab} {E : Env}

theorem initFrame_get : ∀ (xs : List AV) (i t : Nat) (v : AV), (initFrame xs i).get t = some v → ∃ k, t = i + k ∧ xs[k]? = some v
  | [], i, t, v, h => by simp [initFrame, PT.get] at h
  | x :: xs, i, t, v, h => by
    simp only [initFrame, PT.get_set] at h
    by_cases e : t = i
    · rw [if_pos e] at h
      exact ⟨0, by omega, by simpa using h⟩
    · rw [if_neg e] at h
      obtain ⟨k, h1, h2⟩ := initFrame_get xs (i + 1) t v h
      exact ⟨k + 1, by omega, by simpa using h2⟩

def resF (tmps : Array Value) : ResultVar → Sem Value
  | .tmp t => pure (tmps.getD t undef)
  | .cell a t => do loadVar t (← asAddr (tmps.getD a undef))

theorem resultsOf_sim {w0 : World} {β : Inj} {h : AHeap} {w : World} (hT : TabOK P T) (hw : WR w0 β h w) {fr : AFrame} {tmps : Array Value} (hf : FR β fr tmps) :
    ∀ (rs : List ResultVar) {vs : List AV}, resultsOf T fr h rs = some vs → ∃ Vs : List Value, (rs.mapM (resF tmps)).run P w = .ok Vs w ∧ VRL β vs Vs
  | [], vs, hr => by
    simp only [resultsOf, Option.some.injEq] at hr
    subst hr
    exact ⟨[], by simp, VRL.nil⟩
  | .tmp t :: rs, vs, hr => by
    simp only [resultsOf] at hr
    split at hr
    · rename_i v vs' hv hvs
      cases hr
      obtain ⟨V, h1, h2⟩ := hf t v hv
      obtain ⟨Vs, h3, h4⟩ := resultsOf_sim hT hw hf rs hvs
      refine ⟨V :: Vs, ?_, VRL.cons h2 h4⟩
      simp [List.mapM_cons, Sem.run_bind, resF, h1, h3]
    · cases hr
  | .cell x t :: rs, vs, hr => by
    simp only [resultsOf] at hr
    split at hr
    · rename_i o i hp
      split at hr
      · rename_i v vs' hv hvs
        cases hr
        obtain ⟨X, h1, h2⟩ := hf x _ hp
        simp only [VR] at h2
        obtain ⟨L, hL, rfl⟩ := h2
        obtain ⟨V, h5, h6⟩ := aload_sim w hT hw hv hL
        obtain ⟨Vs, h3, h4⟩ := resultsOf_sim hT hw hf rs hvs
        refine ⟨V :: Vs, ?_, VRL.cons h6 h4⟩
        simp [List.mapM_cons, Sem.run_bind, resF, h1, h3, asAddr, h5]
      · cases hr
    · cases hr

theorem results_sim {w0 : World} {β : Inj} {h : AHeap} {w : World} (hT : TabOK P T) (hw : WR w0 β h w) {fr : AFrame} {tmps : Array Value} (hf : FR β fr tmps) {fn : Func} {vs : List AV} (hr : resultsOf T fr h fn.results.toList = some vs) :
    ∃ V, (results fn tmps).run P w = .ok V w ∧ VR β (tupled vs) V := by
  obtain ⟨Vs, h1, h2⟩ := resultsOf_sim hT hw hf _ hr
  have hm : results fn tmps = (do
      let vs ← fn.results.mapM (resF tmps)
      pure (if h : vs.size = 1 then vs[0] else .tuple vs)) := by
    unfold results
    congr 1
  rw [hm, Array.mapM_eq_mapM_toList]
  simp only [Sem.run_bind, Sem.run_map, h1, Result.andThen_ok, Sem.run_pure]
  refine ⟨_, rfl, ?_⟩
  cases vs with
  | nil =>
    have := h2.nil_inv
    subst this
    simp [tupled, VR, VRL]
  | cons v vs =>
    obtain ⟨V, Vs', e1, e2, rfl⟩ := h2.cons_inv
    cases vs with
    | nil =>
      have := e2.nil_inv
      subst this
      simpa [tupled] using e1
    | cons v' vs =>
      obtain ⟨V', Vs'', e3, e4, rfl⟩ := e2.cons_inv
      simp only [tupled, VR]
      exact ⟨_, h2, by simp⟩

theorem unmark_sim {F : Fence} {n : Nat} {fn : Func} {tmps : Array Value} {R : Ending → World → Prop} {w0 : World} {β : Inj} : ∀ (ms : List Nat) {ds : List Deferred} {h h1 : AHeap} {w : World}, WR w0 β h w → DR β ms ds → unmark h ms = some h1 →
    (∀ w1, WR w0 β h1 w1 → Goes β h β h1 → ∃ v, (results fn tmps).run P w1 = .ok v w1 ∧ R (.returned v) w1) → LeavesInM F n P fn tmps R ds .returning w
  | [], ds, h, h1, w, hw, hd, hu, hR => by
    simp only [unmark, Option.some.injEq] at hu
    subst hu
    simp only [DR] at hd
    subst hd
    exact hR w hw (Goes.refl _ _)
  | m :: ms, ds, h, h1, w, hw, hd, hu, hR => by
    obtain ⟨L, ds', hL, rfl, hd'⟩ := hd
    simp only [unmark] at hu
    split at hu
    · rename_i hm
      have hx := hw.obj m _ L hm hL
      have hlt := hx.lt (by simp)
      obtain ⟨d1, d2⟩ := hw.turn hm rfl hL (y := .dead) (w' := { w with heap := w.heap.setIfInBounds L.b (.deferred none) }) trivial rfl rfl rfl (by simp) fun k hk => by
        simp [Array.getElem?_setIfInBounds, Ne.symm hk]
      refine ⟨by simp, .inl ⟨L.b, _, rfl, ?_, unmark_sim ms d1 hd' hu fun w1 q1 q2 => hR w1 q1 (d2.trans q2)⟩⟩
      have hb : w.heap[L.b]? = some (.deferred (some [])) := hx.1
      simp [Instr.takeDeferred, getObj, setObj, Sem.run, Sem.run_bind, Result.andThen, hb]
    · cases hu

/-- A call. -/
theorem callFn_sound (hT : TabOK P T) (hE : EnvOK P E) (hm : P.follows .mixedOrders = true) {A : AFn} {fid n : Nat} (hf : P.funcs[fid]? = some A.fn) {args : List AV} {h h' : AHeap} {r : AV} (hc : callFn E T A fid n args h = some (r, h'))
    {w0 : World} {β : Inj} {w : World} {vals : List Value} (hw : WR w0 β h w) (hv : VRL β args vals) : (∃ c, A.fn.body = some c) ∧ CallsIn (FW none) 0 P fid vals.toArray w (RetPost w0 β h r h') := by
  unfold callFn at hc
  split at hc
  case h_2 => cases hc
  rename_i c hb
  refine ⟨⟨c, hb⟩, ?_⟩
  cases hl : Nat.ble args.length A.fn.ntmps with
  | false => rw [hl] at hc; cases hc
  | true =>
    rw [hl] at hc
    simp only [cond_true] at hc
    have hlen : args.length ≤ A.fn.ntmps := Nat.le_of_ble_eq_true hl
    have hvl : vals.length = args.length := hv.length
    refine callsIn_of_wp_marks hf hb trivial ?_
    have hs : ST w0 β A.fn.ntmps { fr := initFrame args 0, ms := [], h := h } { tmps := vals.toArray ++ Array.replicate (A.fn.ntmps - vals.toArray.size) undef, defers := [] } w := by
      refine ⟨⟨hw, fun t v ht => ?_, ?_⟩, rfl⟩
      · obtain ⟨k, e, hk⟩ := initFrame_get _ _ _ _ ht
        rw [Nat.zero_add] at e
        subst e
        obtain ⟨V, h1, h2⟩ := hv.get _ _ hk
        refine ⟨V, ?_, h2⟩
        have hlt : t < vals.length := by
          rcases Nat.lt_or_ge t vals.length with hh | hh
          · exact hh
          · rw [List.getElem?_eq_none hh] at h1; cases h1
        rw [Array.getElem?_append_left (by simpa using hlt)]
        simpa using h1
      · simp; omega
    have fin : ∀ {s : ASt}, finish T A.fn s = some (r, h') → ∀ β' a' w', ST w0 β' A.fn.ntmps s a' w' → Goes β h β' s.h → LeavesInM (FW none) 0 P A.fn a'.tmps (RetPost w0 β h r h') a'.defers .returning w' := by
      intro s hfin β' a' w' hs' hg
      unfold finish at hfin
      split at hfin
      case h_2 => cases hfin
      rename_i h1 hu
      split at hfin
      case h_2 => cases hfin
      rename_i vs hvs
      cases hfin
      refine unmark_sim s.ms hs'.wr hs'.dr hu fun w1 q1 q2 => ?_
      obtain ⟨V, k1, k2⟩ := results_sim hT q1 hs'.fr hvs
      exact ⟨V, k1, β', V, rfl, k2, q1, hg.trans q2⟩
    split at hc
    · rename_i s he
      exact exec_sound (r := none) hT hE hm c he hs fun β' a' w' q1 q2 => fin hc β' a' w' q1 q2
    · rename_i s he
      exact exec_sound (r := none) hT hE hm c he hs fun β' a' w' q1 q2 => fin hc β' a' w' q1 q2
    · cases hc

theorem setParams_sim {β : Inj} {nt : Nat} : ∀ (ps : List Nat) (xs : List AV) (Xs : List Value) {fr : AFrame} {tmps : Array Value}, FR β fr tmps → tmps.size = nt → inBounds nt ps = true → VRL β xs Xs → xs.length = ps.length →
    FR β (setParams fr ps xs) ((ps.zip Xs).foldl (fun tmps (t, a) => tmps.setIfInBounds t a) tmps) ∧ ((ps.zip Xs).foldl (fun tmps (t, a) => tmps.setIfInBounds t a) tmps).size = nt
  | [], xs, Xs, fr, tmps, hf, hs, hb, hx, hl => by
    have : setParams fr [] xs = fr := by cases xs <;> rfl
    rw [this]
    exact ⟨hf, hs⟩
  | p :: ps, [], Xs, fr, tmps, hf, hs, hb, hx, hl => by simp at hl
  | p :: ps, x :: xs, Xs, fr, tmps, hf, hs, hb, hx, hl => by
    obtain ⟨X, Xs', h1, h2, rfl⟩ := hx.cons_inv
    simp only [inBounds, Bool.and_eq_true] at hb
    have hp : p < tmps.size := by rw [hs]; simpa using hb.1
    simp only [setParams, List.zip_cons_cons, List.foldl_cons]
    refine setParams_sim ps xs Xs' (fun t v ht => ?_) (by simpa using hs) hb.2 h2 (by simpa using hl)
    rw [PT.get_set] at ht
    by_cases e : t = p
    · rw [if_pos e] at ht
      cases ht
      subst e
      exact ⟨X, by simp [hp], h1⟩
    · rw [if_neg e] at ht
      obtain ⟨V, k1, k2⟩ := hf t v ht
      exact ⟨V, by rw [Array.getElem?_setIfInBounds, if_neg (fun h => e h.symm)]; exact k1, k2⟩

/-- A round. -/
theorem callRound_sound (hT : TabOK P T) (hE : EnvOK P E) (hm : P.follows .mixedOrders = true) {Fs : PT AFn} {l n : Nat} {args : List AV} {h h' : AHeap} {r : AV} (hc : callRound E T Fs n l args h = some (r, h'))
    {w0 : World} {β : Inj} {w : World} {vals : List Value} (hw : WR w0 β h w) (hv : VRL β args vals) {Ll : Loc} (hL : β l = some Ll) :
    ∃ fn tmps assign body, (Instr.yield Ll.b vals.toArray).run P w = .ok (.round Ll.b fn tmps assign body) w ∧ RoundIn (FW none) 0 P Ll.b fn tmps assign body w (RetPost w0 β h r h') := by
  unfold callRound at hc
  split at hc
  case h_2 => cases hc
  rename_i L hl
  split at hc
  case h_2 => cases hc
  rename_i A hA
  cases hlen : Nat.beq args.length L.params.length && inBounds L.nt L.params with
  | false => rw [hlen] at hc; cases hc
  | true =>
  rw [hlen] at hc
  simp only [cond_true] at hc
  simp only [Bool.and_eq_true] at hlen
  have hn := Nat.eq_of_beq_eq_true hlen.1
  split at hc
  case h_2 => cases hc
  rename_i s1 he1
  split at hc
  case h_2 => cases hc
  rename_i L1 hl1
  split at hc
  case h_2 => cases hc
  rename_i hst
  split at hc
  case h_2 => cases hc
  rename_i e s2 he2
  split at hc
  case h_2 => cases hc
  rename_i L2 hl2
  obtain ⟨rec, r1, r2, _⟩ := hw.obj _ _ Ll hl hL
  have hsz : vals.toArray.size = rec.params.size := by
    have := hv.length
    have hp : rec.params.size = L.params.length := by rw [← r2.params]; simp
    simp; omega
  refine ⟨rec.fn, ((L.params.zip vals).foldl (fun tmps (t, a) => tmps.setIfInBounds t a) rec.tmps), rec.assign, rec.body, ?_, ?_⟩
  · simp only [Instr.yield, Sem.run_bind, run_getLoop r1, Result.andThen_ok]
    rw [if_neg (by simp only [ne_eq, Decidable.not_not]; exact hsz)]
    simp only [Sem.run_pure, Result.andThen_ok]
    rw [← Array.foldl_toList, Array.toList_zip, r2.params]
  · refine roundIn_of_wpIn trivial ?_
    obtain ⟨p1, p2⟩ := setParams_sim L.params args vals r2.fr r2.nt hlen.2 hv hn
    have hs : ST w0 β L.nt { fr := setParams L.fr L.params args, ms := [], h := h } { tmps := ((L.params.zip vals).foldl (fun tmps (t, a) => tmps.setIfInBounds t a) rec.tmps), defers := [] } w := ⟨⟨hw, p1, p2⟩, rfl⟩
    rw [r2.assign, r2.body]
    refine exec_sound (r := some Ll.b) hT hE hm _ he1 hs fun β1 a1 w1 q1 g1 => ?_
    have hL1 : β1 l = some Ll := hw.le g1 _ _ hL
    obtain ⟨rec1, t1, t2, _⟩ := q1.wr.obj _ _ Ll hl1 hL1
    obtain ⟨u1, u2, u3⟩ := q1.wr.putLoop (P := P) (l' := { L1 with state := .busy }) (r' := { rec1 with state := .busy }) hl1 hL1 t1 { t2 with state := rfl }
    have hst1 : rec1.state = .ready := by rw [t2.state, hst]; rfl
    have hbr : (Instr.beginRound Ll.b).run P w1 = .ok () { w1 with heap := w1.heap.setIfInBounds Ll.b (.loop { rec1 with state := .busy }) } := by
      simp only [Instr.beginRound, Sem.run_bind, run_getLoop t1, Result.andThen_ok, u1, hst1, Sem.run_pure]
    refine ⟨_, hbr, ?_⟩
    refine exec_sound (r := some Ll.b) hT hE hm _ he2 (s := { s1 with h := s1.h.put l (.loop { L1 with state := .busy }) }) ⟨⟨u2, q1.fr, q1.size⟩, q1.dr⟩ fun β2 a2 w2 q2 g2 => ?_
    have hg : Goes β h β2 s2.h := (g1.trans u3).trans g2
    have hL2 : β2 l = some Ll := hw.le hg _ _ hL
    obtain ⟨rec2, x1, x2, _⟩ := q2.wr.obj _ _ Ll hl2 hL2
    have fin : ∀ (j : AExit) (st : ALoopState) (b : Bool), (jumpOf j).isNone = b → stateOf st = (if b then LoopState.ready else LoopState.done) → r = .bool b → h' = s2.h.put l (.loop { L2 with state := st, pending := j }) →
        ∃ v w', (Instr.endRound Ll.b (jumpOf j)).run P w2 = .ok v w' ∧ RetPost w0 β h r h' (.returned v) w' := by
      intro j st b hb hst hr hh
      subst hr hh
      obtain ⟨y1, y2, y3⟩ := q2.wr.putLoop (P := P) (l' := { L2 with state := st, pending := j }) (r' := { rec2 with state := (if b = true then .ready else .done), pending := jumpOf j }) hl2 hL2 x1 { x2 with state := by rw [hst], pending := rfl }
      refine ⟨.bool b, _, ?_, β2, .bool b, rfl, by simp [VR], y2, hg.trans y3⟩
      simp only [Instr.endRound, Sem.run_bind, run_getLoop x1, Result.andThen_ok, y1, Sem.run_pure, hb]
    cases e with
    | normal =>
      cases hc
      exact fin .normal .ready true rfl rfl rfl rfl
    | exit id =>
      cases hc
      exact fin (.exit id) .done false rfl rfl rfl rfl
    | ret =>
      cases hc
      exact fin .ret .done false rfl rfl rfl rfl

/-- What is asked of a library function told by what it does. -/
def PrimOK (P : Program) (f : Nat) (p : Env → List AV → AHeap → Option (AV × AHeap)) : Prop :=
  (∃ fn c, P.funcs[f]? = some fn ∧ fn.body = some c ∧ ¬ fn.name = "runtime.NumGoroutine") ∧
    ∀ E, EnvOK P E → ∀ args h r h', p E args h = some (r, h') → ∀ w0 β w vals, WR w0 β h w → VRL β args vals → CallsIn (FW none) 0 P f vals.toArray w (RetPost w0 β h r h')

/-- Of one without a body: the model's own entry. -/
def ExtOK (P : Program) (f : Nat) (p : Env → List AV → AHeap → Option (AV × AHeap)) : Prop :=
  ∀ E, EnvOK P E → ∀ args h r h', p E args h = some (r, h') → ∀ w0 β w vals, WR w0 β h w → VRL β args vals → ∃ V w', (callFunc f vals.toArray).run P w = .ok (.value V) w' ∧ RetPost w0 β h r h' (.returned V) w'

/-- **What the abstract machine hands back, the model hands back.** -/
theorem mkE_sound (hT : TabOK P T) (hm : P.follows .mixedOrders = true) {Fs : PT AFn} (hFs : ∀ f A, Fs.get f = some A → P.funcs[f]? = some A.fn ∧ ¬ A.fn.name = "runtime.NumGoroutine") {Pr : Prims} (hPr : ∀ f p, Pr f = some p → PrimOK P f p ∨ ExtOK P f p) :
    ∀ n, EnvOK P (mkE T Fs Pr n)
  | 0 => fun c args h r h' he => by cases he
  | n + 1 => by
    have ih := mkE_sound hT hm hFs hPr n
    intro c args h r h' he w0 β w vals hw hv
    cases c with
    | fn f =>
      simp only [mkE] at he
      split at he
      · rename_i p hp
        rcases hPr f p hp with hP | hP
        · exact .inl ⟨hP.1, hP.2 _ ih args h r h' he w0 β w vals hw hv⟩
        · exact .inr (hP _ ih args h r h' he w0 β w vals hw hv)
      · split at he
        · rename_i A hA
          obtain ⟨h1, h2⟩ := hFs f A hA
          obtain ⟨⟨c, hb⟩, hC⟩ := callFn_sound hT ih hm h1 he hw hv
          exact .inl ⟨⟨A.fn, c, h1, hb, h2⟩, hC⟩
        · cases he
    | enter f =>
      simp only [mkE] at he
      split at he
      · cases he
      · split at he
        · rename_i A hA
          obtain ⟨h1, h2⟩ := hFs f A hA
          obtain ⟨⟨c, hb⟩, hC⟩ := callFn_sound hT ih hm h1 he hw hv
          exact ⟨⟨A.fn, c, h1, hb, h2⟩, hC⟩
        · cases he
    | yield l =>
      intro L hL
      exact callRound_sound hT ih hm he hw hv hL
end
end Go.Am

set_option linter.unusedVariables false
set_option linter.unusedSimpArgs false
namespace Go.Am

namespace PT
variable {α : Type}

/-- All that a table holds, with the numbers. -/
def allB (p : Nat → α → Bool) : PT α → (Nat → Nat) → Bool
  | .leaf, _ => true
  | .node l v r, key => (match v with | none => true | some x => p (key 0) x) && allB p l (fun k => key (2 * k + 1)) && allB p r (fun k => key (2 * k + 2))

theorem allB_get {p : Nat → α → Bool} : ∀ (t : PT α) (key : Nat → Nat), allB p t key = true → ∀ k x, t.get k = some x → p (key k) x = true
  | .leaf, _, _, k, x, h => by cases k <;> cases h
  | .node l v r, key, ha, k, x, h => by
    simp only [allB, Bool.and_eq_true] at ha
    cases k with
    | zero =>
      simp only [get] at h
      subst h
      exact ha.1.1
    | succ k =>
      simp only [get] at h
      by_cases hk : k % 2 = 0
      · simp only [hk, Nat.beq_refl, cond_true] at h
        have := allB_get l _ ha.1.2 _ _ h
        have e : 2 * (k / 2) + 1 = k + 1 := by omega
        rwa [e] at this
      · rw [beq0 hk] at h
        simp only [cond_false] at h
        have := allB_get r _ ha.2 _ _ h
        have e : 2 * (k / 2) + 2 = k + 1 := by omega
        rwa [e] at this
end PT

/-! ### Types -/

mutual
/-- Is it that value, with no address in it? -/
def vrB : AV → Value → Bool
  | .bool b, .bool c => b == c
  | .int k n, .int k' m => decide (k = k') && decide (n = m)
  | .str [], .string s => Nat.beq s.size 0
  | .nilptr, .pointer none => true
  | .nilslice, .slice none l c => Nat.beq l 0 && Nat.beq c 0
  | .nilmap, .map none => true
  | .nilfunc, .nilFunc => true
  | .agg xs, .agg vs => vrLB xs vs.toList
  | _, _ => false
def vrLB : List AV → List Value → Bool
  | [], [] => true
  | x :: xs, V :: Vs => vrB x V && vrLB xs Vs
  | _, _ => false
end

mutual
theorem vrB_spec : ∀ {x : AV} {V : Value}, vrB x V = true → VR (fun _ => none) x V := by
  intro x V h
  unfold vrB at h
  split at h
  · simp only [VR]; simp at h; rw [h]
  · simp only [Bool.and_eq_true, decide_eq_true_eq] at h
    simp only [VR]; rw [h.1, h.2]
  · simp only [VR]
    rename_i s
    have : s.data = #[] := Array.eq_empty_of_size_eq_zero (Nat.eq_of_beq_eq_true h)
    congr 1
    rcases s with ⟨d⟩
    simp at this
    subst this; rfl
  · simp only [VR]
  · simp only [Bool.and_eq_true] at h
    simp only [VR]; rw [Nat.eq_of_beq_eq_true h.1, Nat.eq_of_beq_eq_true h.2]
  · simp only [VR]
  · simp only [VR]
  · rename_i xs vs
    simp only [VR]
    exact ⟨vs.toList, vrLB_spec h, by simp⟩
  · cases h
theorem vrLB_spec : ∀ {xs : List AV} {Vs : List Value}, vrLB xs Vs = true → VRL (fun _ => none) xs Vs := by
  intro xs Vs h
  unfold vrLB at h
  split at h
  · exact VRL.nil
  · simp only [Bool.and_eq_true] at h
    exact VRL.cons (vrB_spec h.1) (vrLB_spec h.2)
  · cases h
end

def isNoneB {α : Type} : Option α → Bool
  | none => true
  | some _ => false

def fieldB (P : Program) (f : Go.Field) (x : Nat × Nat × Nat) : Bool :=
  Nat.beq f.offset x.1 && (match P.info? f.type with | some i => Nat.beq i.size x.2.1 | none => false) && !isNoneB (P.underlying f.type) && (isAggD (P.underlying f.type) == Nat.beq x.2.2 4) &&
    (match x.2.2 with
     | 1 => match P.underlying f.type with | some (.int _) => true | _ => false
     | 2 => match P.underlying f.type with | some .string => true | _ => false
     | 3 => match P.underlying f.type with | some .bool => true | _ => false
     | _ => true) && decide (f.name ≠ "_")

def fieldsB (P : Program) : List Go.Field → List (Nat × Nat × Nat) → Bool
  | [], [] => true
  | f :: fs, x :: xs => fieldB P f x && fieldsB P fs xs
  | _, _ => false

def keyB (kind : Nat) (d : Option TypeDesc) : Bool :=
  match kind, d with
  | 1, some (.int _) => true
  | 2, some .string => true
  | 3, some .bool => true
  | _, _ => false

def descB (P : Program) (t : Nat) (a : ADesc) : Bool :=
  match a, P.underlying t with
  | .struct fs, some (.struct fields) => fieldsB P fields.toList fs && !P.stoodInHeld t && !P.eqGuardType P.depth t
  | .slice e, some (.slice e') => Nat.beq e e'
  | .array n e, some (.array n' e') => Nat.beq n n' && Nat.beq e e'
  | .map kind e, some (.map key e') => Nat.beq e e' && keyB kind (P.underlying key)
  | .str, some .string => true
  | .bool, some .bool => true
  | .int k, some (.int k') => decide (k = k')
  | .ptr, some (.pointer _) => true
  | .func, some (.func _ _ _) => true
  | .other, some _ => true
  | _, _ => false

def tyB (P : Program) (t : Nat) (ty : ATy) : Bool :=
  (match P.info? t with
   | some i => Nat.beq i.size ty.size && Nat.beq i.bytes ty.bytes && (match i.zero with | some z => vrB ty.zero z | none => false)
   | none => false) && descB P t ty.desc && (isAggD (P.underlying t) == ty.agg) && ty.zero.noTup && Nat.beq ty.zero.cells.length ty.size

theorem fieldsB_spec {P : Program} : ∀ {fields : List Go.Field} {fs : List (Nat × Nat × Nat)}, fieldsB P fields fs = true → fields.length = fs.length ∧ ∀ (i : Nat) x, fs[i]? = some x → ∃ f, fields[i]? = some f ∧ FieldOK P f x
  | [], [], _ => ⟨rfl, fun i x h => by simp at h⟩
  | [], _ :: _, h => by cases h
  | _ :: _, [], h => by cases h
  | f :: fields, x :: fs, h => by
    simp only [fieldsB, Bool.and_eq_true] at h
    obtain ⟨h1, h2⟩ := fieldsB_spec h.2
    refine ⟨by simp [h1], fun i y hy => ?_⟩
    cases i with
    | succ i => simpa using h2 i y (by simpa using hy)
    | zero =>
      simp only [List.getElem?_cons_zero, Option.some.injEq] at hy
      subst hy
      refine ⟨f, rfl, ?_⟩
      obtain ⟨hf, _⟩ := h
      simp only [fieldB, Bool.and_eq_true, decide_eq_true_eq] at hf
      obtain ⟨⟨⟨⟨⟨a1, a2⟩, a3⟩, a4⟩, a5⟩, a6⟩ := hf
      refine ⟨Nat.eq_of_beq_eq_true a1, ?_, ?_, by simpa using a4, fun e => ?_, fun e => ?_, fun e => ?_, a6⟩
      · split at a2
        · rename_i i hi; exact ⟨i, hi, Nat.eq_of_beq_eq_true a2⟩
        · cases a2
      · cases hu : P.underlying f.type with
        | none => rw [hu] at a3; cases a3
        | some d => exact ⟨d, rfl⟩
      · rw [e] at a5
        simp only at a5
        split at a5
        · rename_i k hk; exact ⟨k, hk⟩
        · cases a5
      · rw [e] at a5
        simp only at a5
        split at a5
        · rename_i hk; exact hk
        · cases a5
      · rw [e] at a5
        simp only at a5
        split at a5
        · rename_i hk; exact hk
        · cases a5

theorem keyB_spec {kind : Nat} {d : Option TypeDesc} (h : keyB kind d = true) : KeyOK kind d := by
  unfold keyB at h
  split at h
  · exact .inl ⟨rfl, _, rfl⟩
  · exact .inr (.inl ⟨rfl, rfl⟩)
  · exact .inr (.inr ⟨rfl, rfl⟩)
  · cases h

theorem descB_spec {P : Program} {t : Nat} {a : ADesc} (h : descB P t a = true) : DescOK P t a := by
  unfold descB at h
  split at h
  · rename_i fs fields hu
    simp only [Bool.and_eq_true, Bool.not_eq_true'] at h
    obtain ⟨h1, h2⟩ := fieldsB_spec h.1.1
    exact ⟨fields, hu, by simpa using h1, fun i x hx => by
      obtain ⟨f, k1, k2⟩ := h2 i x hx
      exact ⟨f, by simpa using k1, k2⟩, h.1.2, h.2⟩
  · rename_i hu; rw [← Nat.eq_of_beq_eq_true h] at hu; exact hu
  · rename_i hu
    simp only [Bool.and_eq_true] at h
    rw [← Nat.eq_of_beq_eq_true h.1, ← Nat.eq_of_beq_eq_true h.2] at hu; exact hu
  · rename_i key e' hu
    simp only [Bool.and_eq_true] at h
    rw [← Nat.eq_of_beq_eq_true h.1] at hu
    exact ⟨key, hu, keyB_spec h.2⟩
  · rename_i hu; exact hu
  · rename_i hu; exact hu
  · rename_i hu; rw [← of_decide_eq_true h] at hu; exact hu
  · rename_i hu; exact ⟨_, hu⟩
  · rename_i hu; exact ⟨_, _, _, hu⟩
  · rename_i hu; exact ⟨_, hu⟩
  · cases h

theorem tyB_spec {P : Program} {t : Nat} {ty : ATy} (h : tyB P t ty = true) : TyOK P t ty := by
  simp only [tyB, Bool.and_eq_true] at h
  obtain ⟨⟨⟨⟨h1, h2⟩, h3⟩, h4⟩, h5⟩ := h
  refine ⟨?_, descB_spec h2, by simpa using h3, h4, Nat.eq_of_beq_eq_true h5⟩
  split at h1
  · rename_i i hi
    simp only [Bool.and_eq_true] at h1
    obtain ⟨⟨a1, a2⟩, a3⟩ := h1
    split at a3
    · rename_i z hz
      exact ⟨i, z, hi, Nat.eq_of_beq_eq_true a1, Nat.eq_of_beq_eq_true a2, hz, vrB_spec a3⟩
    · cases a3
  · cases h1

theorem tabOK_of {P : Program} {T : Tab} (h : T.allB (tyB P) id = true) : TabOK P T := fun t _ ht => tyB_spec (PT.allB_get T id h t _ ht)

/-! ### Functions -/

/-- A table of functions, each with the program's word for it. -/
def FnOK (P : Program) (f : Nat) (A : AFn) : Prop := P.funcs[f]? = some A.fn ∧ ¬ A.fn.name = "runtime.NumGoroutine"

def FsOK (P : Program) (Fs : PT AFn) : Prop := ∀ f A, Fs.get f = some A → FnOK P f A

def PT.AllP {α : Type} (p : Nat → α → Prop) : PT α → (Nat → Nat) → Prop
  | .leaf, _ => True
  | .node l v r, key => (match v with | none => True | some x => p (key 0) x) ∧ AllP p l (fun k => key (2 * k + 1)) ∧ AllP p r (fun k => key (2 * k + 2))

theorem PT.allP_get {α : Type} {p : Nat → α → Prop} : ∀ (t : PT α) (key : Nat → Nat), AllP p t key → ∀ k x, t.get k = some x → p (key k) x
  | .leaf, _, _, k, x, h => by cases k <;> cases h
  | .node l v r, key, ha, k, x, h => by
    obtain ⟨a1, a2, a3⟩ := ha
    cases k with
    | zero =>
      simp only [get] at h
      subst h
      exact a1
    | succ k =>
      simp only [get] at h
      by_cases hk : k % 2 = 0
      · simp only [hk, Nat.beq_refl, cond_true] at h
        have := allP_get l _ a2 _ _ h
        have e : 2 * (k / 2) + 1 = k + 1 := by omega
        rwa [e] at this
      · rw [beq0 hk] at h
        simp only [cond_false] at h
        have := allP_get r _ a3 _ _ h
        have e : 2 * (k / 2) + 2 = k + 1 := by omega
        rwa [e] at this

end Go.Am

set_option linter.unusedVariables false
set_option linter.unusedSimpArgs false
namespace Go.Am

/-- The environments F come, call by call, to E. -/
def Lim (F : Nat → Env) (E : Env) : Prop := ∀ c args h r, E c args h = some r → ∃ N, ∀ m, N ≤ m → F m c args h = some r

section
variable {T : Tab} {E : Env} {F : Nat → Env}

theorem opGo_lim (hE : Lim F E) {nt : Nat} {o : Oper} {fr : AFrame} {h : AHeap} {x : AFrame × AHeap} (he : opGo E T nt o fr h = some x) : ∃ N, ∀ m, N ≤ m → opGo (F m) T nt o fr h = some x := by
  unfold opGo at he ⊢
  cases ha : aop T (aev fr) h o.op with
  | none => rw [ha] at he; cases he
  | some q =>
    rw [ha] at he
    cases q with
    | val v h' => exact ⟨0, fun m _ => he⟩
    | call c args =>
      simp only at he
      cases hc : E c args h with
      | none => rw [hc] at he; cases he
      | some p =>
        rw [hc] at he
        obtain ⟨N, hN⟩ := hE _ _ _ _ hc
        exact ⟨N, fun m hm => by simp only [hN m hm]; exact he⟩

theorem opStep_lim (hE : Lim F E) {nt : Nat} {ops : List Oper} {o : Oper} {fr : AFrame} {h : AHeap} {x : AFrame × AHeap} (he : opStep E T nt ops o fr h = some x) : ∃ N, ∀ m, N ≤ m → opStep (F m) T nt ops o fr h = some x := by
  unfold opStep at he ⊢
  cases hg : guardOf ops fr o with
  | none => rw [hg] at he; cases he
  | some b =>
    rw [hg] at he
    cases b with
    | true => exact opGo_lim hE he
    | false => exact ⟨0, fun m _ => he⟩

theorem runSeq_lim (hE : Lim F E) {nt : Nat} {ops : List Oper} : ∀ (l : List Oper) {fr : AFrame} {h : AHeap} {x : AFrame × AHeap}, runSeq E T nt ops l fr h = some x → ∃ N, ∀ m, N ≤ m → runSeq (F m) T nt ops l fr h = some x
  | [], fr, h, x, he => ⟨0, fun m _ => he⟩
  | o :: l, fr, h, x, he => by
    simp only [runSeq] at he ⊢
    cases hs : opStep E T nt ops o fr h with
    | none => rw [hs] at he; cases he
    | some p =>
      rw [hs] at he
      obtain ⟨N1, h1⟩ := opStep_lim hE hs
      obtain ⟨N2, h2⟩ := runSeq_lim hE l he
      exact ⟨max N1 N2, fun m hm => by rw [h1 m (by omega)]; exact h2 m (by omega)⟩

theorem runPlan_lim (hE : Lim F E) {nt : Nat} {ops : List Oper} {bef : List Nat} : ∀ (l : List Nat) {fr : AFrame} {h : AHeap} {rds : List (Nat × Option AV)} {x : AFrame × AHeap}, runPlan E T nt ops bef l fr h rds = some x → ∃ N, ∀ m, N ≤ m → runPlan (F m) T nt ops bef l fr h rds = some x
  | [], fr, h, rds, x, he => ⟨0, fun m _ => he⟩
  | i :: l, fr, h, rds, x, he => by
    simp only [runPlan] at he ⊢
    cases ho : ops[i]? with
    | none => rw [ho] at he; cases he
    | some o =>
      rw [ho] at he
      simp only at he ⊢
      cases hg : guardOf ops fr o with
      | none => rw [hg] at he; cases he
      | some b =>
        rw [hg] at he
        cases b with
        | false =>
          simp only at he ⊢
          cases hp : putT nt fr o.dst (some (.tuple [])) with
          | none => rw [hp] at he; cases he
          | some fr' => rw [hp] at he; exact runPlan_lim hE l he
        | true =>
          simp only at he ⊢
          cases hc : clsOf T o.op with
          | eff =>
            rw [hc] at he
            simp only at he ⊢
            cases hq : opGo E T nt o fr h with
            | none => rw [hq] at he; cases he
            | some q =>
              obtain ⟨fr', h'⟩ := q
              rw [hq] at he
              obtain ⟨N1, h1⟩ := opGo_lim hE hq
              simp only at he
              cases hag : again T ops fr' h' (bef.getD i 0) rds with
              | false => rw [hag] at he; cases he
              | true =>
                rw [hag] at he
                obtain ⟨N2, h2⟩ := runPlan_lim hE l he
                exact ⟨max N1 N2, fun m hm => by rw [h1 m (by omega)]; simp only [hag, cond_true]; exact h2 m (by omega)⟩
          | pure =>
            rw [hc] at he
            simp only at he ⊢
            cases hq : aop T (aev fr) h o.op with
            | none => rw [hq] at he; cases he
            | some q =>
              cases q with
              | call c args => rw [hq] at he; cases he
              | val v h' =>
                rw [hq] at he
                simp only at he ⊢
                cases hp : putT nt fr o.dst v with
                | none => rw [hp] at he; cases he
                | some fr' => rw [hp] at he; exact runPlan_lim hE l he
          | read =>
            rw [hc] at he
            simp only at he ⊢
            cases hq : aop T (aev fr) h o.op with
            | none => rw [hq] at he; cases he
            | some q =>
              cases q with
              | call c args => rw [hq] at he; cases he
              | val v h' =>
                rw [hq] at he
                simp only at he ⊢
                cases hp : putT nt fr o.dst v with
                | none => rw [hp] at he; cases he
                | some fr' => rw [hp] at he; exact runPlan_lim hE l he
          | alloc =>
            rw [hc] at he
            simp only at he ⊢
            cases hq : aop T (aev fr) h o.op with
            | none => rw [hq] at he; cases he
            | some q =>
              cases q with
              | call c args => rw [hq] at he; cases he
              | val v h' =>
                rw [hq] at he
                simp only at he ⊢
                cases hp : putT nt fr o.dst v with
                | none => rw [hp] at he; cases he
                | some fr' => rw [hp] at he; exact runPlan_lim hE l he

theorem exec_lim (hE : Lim F E) {A : AFn} {fid nt n : Nat} {rd : Bool} : ∀ (c : Code) {s : ASt} {x : AExit × ASt}, exec E T A fid nt n rd c s = some x → ∃ N, ∀ m, N ≤ m → ∀ n', n ≤ n' → exec (F m) T A fid nt n' rd c s = some x := by
  intro c
  induction c with
  | skip => intro s x he; exact ⟨0, fun m _ n' _ => he⟩
  | label l => intro s x he; exact ⟨0, fun m _ n' _ => he⟩
  | ret => intro s x he; exact ⟨0, fun m _ n' _ => he⟩
  | exit id => intro s x he; exact ⟨0, fun m _ n' _ => he⟩
  | region id ops draw =>
    intro s x he
    simp only [exec] at he ⊢
    cases draw with
    | false =>
      simp only at he ⊢
      cases hr : runSeq E T nt ops.toList ops.toList s.fr s.h with
      | none => rw [hr] at he; cases he
      | some p =>
        rw [hr] at he
        obtain ⟨N, hN⟩ := runSeq_lim hE _ hr
        exact ⟨N, fun m hm n' _ => by rw [hN m hm]; exact he⟩
    | true =>
      simp only at he ⊢
      cases hp : A.plan.get id with
      | none => rw [hp] at he; cases he
      | some p =>
        obtain ⟨order, bef⟩ := p
        rw [hp] at he
        simp only at he ⊢
        cases hok : planOk T ops.toList order bef with
        | false => rw [hok] at he; cases he
        | true =>
          rw [hok] at he
          simp only [cond_true] at he ⊢
          cases hr : runPlan E T nt ops.toList bef order s.fr s.h [] with
          | none => rw [hr] at he; cases he
          | some p =>
            rw [hr] at he
            obtain ⟨N, hN⟩ := runPlan_lim hE _ hr
            exact ⟨N, fun m hm n' _ => by rw [hN m hm]; exact he⟩
  | seq a b iha ihb =>
    intro s x he
    simp only [exec] at he ⊢
    cases ha : exec E T A fid nt n rd a s with
    | none => rw [ha] at he; cases he
    | some p =>
      obtain ⟨e, s1⟩ := p
      rw [ha] at he
      obtain ⟨N1, h1⟩ := iha ha
      cases e with
      | normal =>
        obtain ⟨N2, h2⟩ := ihb he
        exact ⟨max N1 N2, fun m hm n' hn => by rw [h1 m (by omega) n' hn]; exact h2 m (by omega) n' hn⟩
      | exit id => exact ⟨N1, fun m hm n' hn => by rw [h1 m hm n' hn]; exact he⟩
      | ret => exact ⟨N1, fun m hm n' hn => by rw [h1 m hm n' hn]; exact he⟩
  | cond c a b iha ihb =>
    intro s x he
    simp only [exec] at he ⊢
    cases hc : aev s.fr c with
    | none => rw [hc] at he; cases he
    | some v =>
      rw [hc] at he
      cases v <;> try cases he
      rename_i t
      cases t with
      | true => exact iha he
      | false => exact ihb he
  | block id b ih =>
    intro s x he
    simp only [exec] at he ⊢
    cases hb : exec E T A fid nt n rd b s with
    | none => rw [hb] at he; cases he
    | some p =>
      rw [hb] at he
      obtain ⟨N, hN⟩ := ih hb
      exact ⟨N, fun m hm n' hn => by rw [hN m hm n' hn]; exact he⟩
  | loop b ih =>
    intro s x he
    simp only [exec] at he ⊢
    have key : ∀ (k : Nat) {s : ASt}, iter (exec E T A fid nt n rd b) (clean A (firstRegion b)) k s = some x → ∃ N, ∀ m, N ≤ m → ∀ n', n ≤ n' → ∀ k', k ≤ k' → iter (exec (F m) T A fid nt n' rd b) (clean A (firstRegion b)) k' s = some x := by
      intro k
      induction k with
      | zero => intro s hi; cases hi
      | succ k ihk =>
        intro s hi
        simp only [iter] at hi
        cases hb : exec E T A fid nt n rd b (clean A (firstRegion b) s) with
        | none => rw [hb] at hi; cases hi
        | some p =>
          obtain ⟨e, s1⟩ := p
          rw [hb] at hi
          obtain ⟨N1, h1⟩ := ih hb
          cases e with
          | normal =>
            obtain ⟨N2, h2⟩ := ihk hi
            refine ⟨max N1 N2, fun m hm n' hn k' hk => ?_⟩
            obtain ⟨k1, rfl⟩ : ∃ k1, k' = k1 + 1 := ⟨k' - 1, by omega⟩
            simp only [iter]
            rw [h1 m (by omega) n' hn]
            exact h2 m (by omega) n' hn k1 (by omega)
          | exit id =>
            refine ⟨N1, fun m hm n' hn k' hk => ?_⟩
            obtain ⟨k1, rfl⟩ : ∃ k1, k' = k1 + 1 := ⟨k' - 1, by omega⟩
            simp only [iter]
            rw [h1 m hm n' hn]; exact hi
          | ret =>
            refine ⟨N1, fun m hm n' hn k' hk => ?_⟩
            obtain ⟨k1, rfl⟩ : ∃ k1, k' = k1 + 1 := ⟨k' - 1, by omega⟩
            simp only [iter]
            rw [h1 m hm n' hn]; exact hi
    obtain ⟨N, hN⟩ := key n he
    exact ⟨N, fun m hm n' hn => hN m hm n' hn n' hn⟩
  | scope b ih =>
    intro s x he
    simp only [exec] at he ⊢
    exact ih he
  | rangeFunc f ps assign body =>
    intro s x he
    simp only [exec] at he ⊢
    cases rd with
    | true => cases he
    | false =>
      simp only at he ⊢
      cases hf : aev s.fr f with
      | none => rw [hf] at he; cases he
      | some g =>
        rw [hf] at he
        simp only at he ⊢
        split at he
        case h_2 => cases he
        rename_i f1 args hc
        split at he
        case h_2 => cases he
        rename_i rv h3 hEc
        obtain ⟨N, hN⟩ := hE _ _ _ _ hEc
        exact ⟨N, fun m hm n' _ => by simp only [hc, hN m hm]; exact he⟩
  | _ => intro s x he; simp [exec] at he

theorem callFn_lim (hE : Lim F E) {A : AFn} {fid n : Nat} {args : List AV} {h : AHeap} {x : AV × AHeap} (he : callFn E T A fid n args h = some x) : ∃ N, ∀ m, N ≤ m → ∀ n', n ≤ n' → callFn (F m) T A fid n' args h = some x := by
  unfold callFn at he ⊢
  cases hb : A.fn.body with
  | none => rw [hb] at he; cases he
  | some c =>
    rw [hb] at he
    simp only at he ⊢
    cases hl : Nat.ble args.length A.fn.ntmps with
    | false => rw [hl] at he; cases he
    | true =>
      rw [hl] at he
      simp only [cond_true] at he ⊢
      cases hx : exec E T A fid A.fn.ntmps n false c { fr := initFrame args 0, ms := [], h } with
      | none => rw [hx] at he; cases he
      | some p =>
        rw [hx] at he
        obtain ⟨N, hN⟩ := exec_lim hE c hx
        exact ⟨N, fun m hm n' hn => by rw [hN m hm n' hn]; exact he⟩

theorem callRound_lim (hE : Lim F E) {Fs : PT AFn} {n l : Nat} {args : List AV} {h : AHeap} {x : AV × AHeap} (he : callRound E T Fs n l args h = some x) : ∃ N, ∀ m, N ≤ m → ∀ n', n ≤ n' → callRound (F m) T Fs n' l args h = some x := by
  unfold callRound at he
  split at he
  case h_2 => cases he
  rename_i L hl
  split at he
  case h_2 => cases he
  rename_i A hA
  cases hb : Nat.beq args.length L.params.length && inBounds L.nt L.params with
  | false => rw [hb] at he; cases he
  | true =>
    rw [hb] at he
    simp only [cond_true] at he
    split at he
    case h_2 => cases he
    rename_i s1 he1
    obtain ⟨N1, h1⟩ := exec_lim hE _ he1
    split at he
    case h_2 => cases he
    rename_i L1 hl1
    split at he
    case h_2 => cases he
    rename_i hst
    split at he
    case h_2 => cases he
    rename_i e s2 he2
    obtain ⟨N2, h2⟩ := exec_lim hE _ he2
    refine ⟨max N1 N2, fun m hm n' hn => ?_⟩
    unfold callRound
    simp only [hl, hA, hb, cond_true, h1 m (by omega) n' hn, hl1, hst, h2 m (by omega) n' hn]
    exact he

/-- A library function's answer needs but finitely much of the environment. -/
def PrimLim (p : Env → List AV → AHeap → Option (AV × AHeap)) : Prop :=
  ∀ (F : Nat → Env) (E : Env), Lim F E → ∀ args h r, p E args h = some r → ∃ N, ∀ m, N ≤ m → p (F m) args h = some r

def Prims.Lim (Pr : Prims) : Prop := ∀ f p, Pr f = some p → PrimLim p

theorem primLim_const {q : List AV → AHeap → Option (AV × AHeap)} : PrimLim fun _ => q := fun F E _ args h r he => ⟨0, fun m _ => he⟩

variable {Fs : PT AFn} {Pr : Prims}

/-- One step of the environments. -/
theorem mkE_step (hP : Pr.Lim) (hE : Lim F E) {n : Nat} {c : ACallee} {args : List AV} {h : AHeap} {r : AV × AHeap}
    (he : (match c with
      | .fn f => match Pr f with
        | some p => p E args h
        | none => match Fs.get f with
          | some A => callFn E T A f n args h
          | none => none
      | .enter f => match Pr f with
        | some _ => none
        | none => match Fs.get f with
          | some A => callFn E T A f n args h
          | none => none
      | .yield l => callRound E T Fs n l args h) = some r) :
    ∃ N, ∀ m, N ≤ m → ∀ n', n ≤ n' → (match c with
      | .fn f => match Pr f with
        | some p => p (F m) args h
        | none => match Fs.get f with
          | some A => callFn (F m) T A f n' args h
          | none => none
      | .enter f => match Pr f with
        | some _ => none
        | none => match Fs.get f with
          | some A => callFn (F m) T A f n' args h
          | none => none
      | .yield l => callRound (F m) T Fs n' l args h) = some r := by
  cases c with
  | fn f =>
    simp only at he ⊢
    cases hp : Pr f with
    | some p =>
      rw [hp] at he
      obtain ⟨N, hN⟩ := hP f p hp F E hE _ _ _ he
      exact ⟨N, fun m hm n' _ => hN m hm⟩
    | none =>
      rw [hp] at he
      cases ha : Fs.get f with
      | none => rw [ha] at he; cases he
      | some A => rw [ha] at he; exact callFn_lim hE he
  | enter f =>
    simp only at he ⊢
    cases hp : Pr f with
    | some p => rw [hp] at he; cases he
    | none =>
      rw [hp] at he
      cases ha : Fs.get f with
      | none => rw [ha] at he; cases he
      | some A => rw [ha] at he; exact callFn_lim hE he
  | yield l => exact callRound_lim hE he

theorem mkE_le (hP : Pr.Lim) : ∀ (n : Nat) {m : Nat}, n ≤ m → ∀ c args h r, mkE T Fs Pr n c args h = some r → mkE T Fs Pr m c args h = some r
  | 0, m, hm, c, args, h, r, he => by cases he
  | n + 1, m, hm, c, args, h, r, he => by
    obtain ⟨k, rfl⟩ : ∃ k, m = k + 1 := ⟨m - 1, by omega⟩
    have hE : Lim (fun _ => mkE T Fs Pr k) (mkE T Fs Pr n) := fun c args h r he => ⟨0, fun _ _ => mkE_le hP n (by omega) c args h r he⟩
    obtain ⟨N, hN⟩ := mkE_step (T := T) (Fs := Fs) (c := c) (args := args) (h := h) (r := r) (n := n) hP hE (by
      simp only [mkE] at he
      exact he)
    have := hN N (Nat.le_refl _) k (by omega)
    simp only [mkE]
    exact this

/-- The limit: what comes of a call, however many rounds and calls it takes. -/
noncomputable def EE (T : Tab) (Fs : PT AFn) (Pr : Prims) : Env := fun c args h =>
  open Classical in if hx : ∃ r n, mkE T Fs Pr n c args h = some r then some hx.choose else none

theorem EE_iff (hP : Pr.Lim) {c : ACallee} {args : List AV} {h : AHeap} {r : AV × AHeap} : EE T Fs Pr c args h = some r ↔ ∃ n, mkE T Fs Pr n c args h = some r := by
  unfold EE
  constructor
  · intro he
    split at he
    · rename_i hx
      cases he
      exact hx.choose_spec
    · cases he
  · rintro ⟨n, hn⟩
    have hx : ∃ r n, mkE T Fs Pr n c args h = some r := ⟨r, n, hn⟩
    rw [dif_pos hx]
    obtain ⟨n', hn'⟩ := hx.choose_spec
    have h1 := mkE_le hP n (Nat.le_max_left n n') c args h r hn
    have h2 := mkE_le hP n' (Nat.le_max_right n n') c args h _ hn'
    rw [h1] at h2
    exact h2.symm

theorem lim_EE (hP : Pr.Lim) : Lim (mkE T Fs Pr) (EE T Fs Pr) := fun c args h r he => by
  obtain ⟨n, hn⟩ := (EE_iff hP).1 he
  exact ⟨n, fun m hm => mkE_le hP n hm c args h r hn⟩

theorem EE_step (hP : Pr.Lim) {n : Nat} {c : ACallee} {args : List AV} {h : AHeap} {r : AV × AHeap}
    (he : (match c with
      | .fn f => match Pr f with
        | some p => p (EE T Fs Pr) args h
        | none => match Fs.get f with
          | some A => callFn (EE T Fs Pr) T A f n args h
          | none => none
      | .enter f => match Pr f with
        | some _ => none
        | none => match Fs.get f with
          | some A => callFn (EE T Fs Pr) T A f n args h
          | none => none
      | .yield l => callRound (EE T Fs Pr) T Fs n l args h) = some r) : EE T Fs Pr c args h = some r := by
  obtain ⟨N, hN⟩ := mkE_step hP (lim_EE hP) he
  refine (EE_iff hP).2 ⟨max N n + 1, ?_⟩
  have h1 := hN (max N n) (by omega) (max N n) (by omega)
  simp only [mkE]
  exact h1

theorem EE_prim (hP : Pr.Lim) {f : Nat} {p : Env → List AV → AHeap → Option (AV × AHeap)} (hp : Pr f = some p) {args : List AV} {h : AHeap} {r : AV × AHeap} (he : p (EE T Fs Pr) args h = some r) : EE T Fs Pr (.fn f) args h = some r :=
  EE_step (n := 0) hP (by simp only [hp]; exact he)

theorem EE_fn (hP : Pr.Lim) {f n : Nat} {A : AFn} (hp : Pr f = none) (hA : Fs.get f = some A) {args : List AV} {h : AHeap} {r : AV × AHeap} (he : callFn (EE T Fs Pr) T A f n args h = some r) : EE T Fs Pr (.fn f) args h = some r :=
  EE_step (n := n) hP (by simp only [hp, hA]; exact he)

theorem EE_enter (hP : Pr.Lim) {f n : Nat} {A : AFn} (hp : Pr f = none) (hA : Fs.get f = some A) {args : List AV} {h : AHeap} {r : AV × AHeap} (he : callFn (EE T Fs Pr) T A f n args h = some r) : EE T Fs Pr (.enter f) args h = some r :=
  EE_step (n := n) hP (by simp only [hp, hA]; exact he)

theorem EE_yield (hP : Pr.Lim) {l n : Nat} {args : List AV} {h : AHeap} {r : AV × AHeap} (he : callRound (EE T Fs Pr) T Fs n l args h = some r) : EE T Fs Pr (.yield l) args h = some r :=
  EE_step (n := n) hP he

theorem EE_sound {P : Program} (hP : Pr.Lim) (h : ∀ n, EnvOK P (mkE T Fs Pr n)) : EnvOK P (EE T Fs Pr) := by
  intro c args hp r h' he
  obtain ⟨n, hn⟩ := (EE_iff hP).1 he
  exact h n c args hp r h' hn

end
end Go.Am

set_option linter.unusedVariables false
set_option linter.unusedSimpArgs false
namespace Go.Am

section
variable {R : Type}

def valK (v : Option AV) (k : AV → Option R) : Option R := match v with | some v => k v | none => none
def hpK (r : Option AHeap) (k : AHeap → Option R) : Option R := match r with | some h => k h | none => none
def bothK (r : Option (AV × AHeap)) (k : AV → AHeap → Option R) : Option R := match r with | some (v, h) => k v h | none => none
def boolK (v : AV) (a b : Option R) : Option R := match v with | .bool true => a | .bool false => b | _ => none
def skipK (v : AV) (a b : Option R) : Option R := match v with | .tuple [] => a | _ => b
def jn {α : Type} (f : α) (g : α → Option R) : Option R := g f

theorem valK_some {v : Option AV} {k : AV → Option R} {r : R} (h : valK v k = some r) : ∃ x, v = some x ∧ k x = some r := by
  cases v with
  | none => cases h
  | some x => exact ⟨x, rfl, h⟩
theorem hpK_some {v : Option AHeap} {k : AHeap → Option R} {r : R} (h : hpK v k = some r) : ∃ x, v = some x ∧ k x = some r := by
  cases v with
  | none => cases h
  | some x => exact ⟨x, rfl, h⟩
theorem bothK_some {v : Option (AV × AHeap)} {k : AV → AHeap → Option R} {r : R} (h : bothK v k = some r) : ∃ x y, v = some (x, y) ∧ k x y = some r := by
  cases v with
  | none => cases h
  | some x => exact ⟨x.1, x.2, rfl, h⟩
theorem boolK_some {v : AV} {a b : Option R} {r : R} (h : boolK v a b = some r) : (v = .bool true ∧ a = some r) ∨ (v = .bool false ∧ b = some r) := by
  unfold boolK at h
  split at h
  · exact .inl ⟨rfl, h⟩
  · exact .inr ⟨rfl, h⟩
  · cases h

/-! ### Operations -/

def loadA (T : Tab) (h : AHeap) (t : Nat) (a : AV) : Option AV := match a with | .ptr o i => aload T h t o i | _ => none
def storeA (T : Tab) (h : AHeap) (t : Nat) (a v : AV) : Option AHeap := match a with | .ptr o i => astore T h t o i v | _ => none
def boxA (h : AHeap) (v : AV) : Option (AV × AHeap) := newCells h v.cells fun o => .ptr o 0
def nilA (x : AV) : Option AV := match x with
  | .ptr o i => some (.ptr o i)
  | .func f a c => some (.func f a c)
  | .yield o => some (.yield o)
  | _ => none
def extractA (x : AV) (i : Nat) : Option AV := match x with | .tuple vs => vs[i]? | _ => none
def callA (f : AV) (args : List AV) (kc : ACallee → List AV → Option R) : Option R := match f with
  | .func g first captured => kc (.fn g) (first ++ (args ++ captured))
  | .yield o => kc (.yield o) args
  | _ => none
def isIntK (x : AV) (a : Option R) : Option R := match x with | .int _ _ => a | _ => none

def newMapA (h : AHeap) : Option (AV × AHeap) := some (.map h.next, h.add (.map [] 0))

def argsK (ρ : Operand → Option AV) : List Operand → (List AV → Option R) → Option R
  | [], k => k []
  | x :: xs, k => valK (ρ x) fun v => argsK ρ xs fun vs => k (v :: vs)

theorem argsK_some {ρ : Operand → Option AV} : ∀ {l : List Operand} {k : List AV → Option R} {r : R}, argsK ρ l k = some r → ∃ vs, aevL ρ l = some vs ∧ k vs = some r
  | [], k, r, h => ⟨[], rfl, h⟩
  | x :: xs, k, r, h => by
    obtain ⟨v, h1, h2⟩ := valK_some h
    obtain ⟨vs, h3, h4⟩ := argsK_some h2
    exact ⟨v :: vs, by simp only [aevL, h1, h3], h4⟩

def partsK (ρ : Operand → Option AV) : List (Nat × Operand) → (List (Nat × AV) → Option R) → Option R
  | [], k => k []
  | (i, x) :: xs, k => valK (ρ x) fun v => partsK ρ xs fun vs => k ((i, v) :: vs)

theorem partsK_some {ρ : Operand → Option AV} : ∀ {l : List (Nat × Operand)} {k : List (Nat × AV) → Option R} {r : R}, partsK ρ l k = some r → ∃ vs, parts ρ l = some vs ∧ k vs = some r
  | [], k, r, h => ⟨[], rfl, h⟩
  | (i, x) :: xs, k, r, h => by
    obtain ⟨v, h1, h2⟩ := valK_some h
    obtain ⟨vs, h3, h4⟩ := partsK_some h2
    exact ⟨(i, v) :: vs, by simp only [parts, h1, h3], h4⟩

def aopK (T : Tab) (ρ : Operand → Option AV) (h : AHeap) (kv : Option AV → AHeap → Option R) (kc : ACallee → List AV → Option R) : Op → Option R
  | .move x => valK (ρ x) fun v => kv (some v) h
  | .assign x => valK (ρ x) fun v => kv (some v) h
  | .pick c a b => valK (ρ c) fun c => boolK c (valK (ρ a) fun v => kv (some v) h) (valK (ρ b) fun v => kv (some v) h)
  | .alloc e => match T.get e with
    | some te => bothK (newCells h te.zero.cells fun o => .ptr o 0) fun v h => kv (some v) h
    | none => none
  | .box _ x => valK (ρ x) fun v => bothK (boxA h v) fun v h => kv (some v) h
  | .build t ps => partsK ρ ps.toList fun ps => valK (abuild T t ps) fun v => kv (some v) h
  | .buildSlice t len ps => partsK ρ ps.toList fun ps => bothK (abuildSlice T h t len ps) fun v h => kv (some v) h
  | .load t a => valK (ρ a) fun a => valK (loadA T h t a) fun v => kv (some v) h
  | .store t a x => valK (ρ a) fun a => valK (ρ x) fun v => hpK (storeA T h t a v) fun h => kv none h
  | .nilCheck x => valK (ρ x) fun x => valK (nilA x) fun v => kv (some v) h
  | .binOp op t x y _ => valK (ρ x) fun x => valK (ρ y) fun y => valK (abin T op t x y) fun v => kv (some v) h
  | .unOp op _ x => valK (ρ x) fun x => valK (aun op x) fun v => kv (some v) h
  | .convert s d x => valK (ρ x) fun x => bothK (aconvert T h s d x) fun v h => kv (some v) h
  | .makeFunc fn first captured => match fn with
    | .func f => argsK ρ first.toList fun a => argsK ρ captured.toList fun c => kv (some (.func f a c)) h
    | _ => none
  | .makeMap t r => match T.get t with
    | some ⟨.map _ _, _, _, _, _⟩ => match r with
      | none => bothK (newMapA h) fun v h => kv (some v) h
      | some r => valK (ρ r) fun r => isIntK r (bothK (newMapA h) fun v h => kv (some v) h)
    | _ => none
  | .makeSlice t l c => valK (ρ l) fun a => valK (ρ c) fun b => bothK (amakeSlice T h t a b) fun v h => kv (some v) h
  | .slice t x lo hi mx => match mx with
    | some _ => none
    | none => valK (ρ x) fun a => match lo, hi with
      | none, none => valK (aslice T t a none none) fun v => kv (some v) h
      | some l, none => valK (ρ l) fun l => valK (aslice T t a (some l) none) fun v => kv (some v) h
      | none, some b => valK (ρ b) fun b => valK (aslice T t a none (some b)) fun v => kv (some v) h
      | some l, some b => valK (ρ l) fun l => valK (ρ b) fun b => valK (aslice T t a (some l) (some b)) fun v => kv (some v) h
  | .fieldAddr s x f => valK (ρ x) fun a => valK (afieldAddr T s a f) fun v => kv (some v) h
  | .field s x f => valK (ρ x) fun a => valK (afield T s a f) fun v => kv (some v) h
  | .indexAddr t x i => valK (ρ x) fun a => valK (ρ i) fun b => valK (aindexAddr T t a b) fun v => kv (some v) h
  | .index t x i => valK (ρ x) fun a => valK (ρ i) fun b => valK (aindex T t a b) fun v => kv (some v) h
  | .lookup t x i ok => valK (ρ x) fun a => valK (ρ i) fun b => valK (alookup T h t a b ok) fun v => kv (some v) h
  | .mapUpdate t m k v => valK (ρ m) fun a => valK (ρ k) fun b => valK (ρ v) fun c => hpK (amapUpdate T h t a b c) fun h => kv none h
  | .insert t m k v => valK (ρ m) fun a => valK (ρ k) fun b => valK (ρ v) fun c => hpK (amapUpdate T h t a b c) fun h => kv none h
  | .mapEntry t m k => valK (ρ m) fun a => valK (ρ k) fun b => bothK (amapEntry T h t a b) fun v h => kv (some v) h
  | .entryStore _ m s v => valK (ρ m) fun a => valK (ρ s) fun b => valK (ρ v) fun c => hpK (aentryStore h a b c) fun h => kv none h
  | .extract x i => valK (ρ x) fun x => valK (extractA x i) fun v => kv (some v) h
  | .call c => argsK ρ c.args.toList fun args => match c.callee with
      | .value f => valK (ρ f) fun g => callA g args kc
      | .builtin b => match b, args, c.argTypes.toList with
        | .append, [s, x], [ts, tx] => bothK (aappend T h ts tx s x) fun v h => kv (some v) h
        | .len, [x], [t] => valK (alen T h t x) fun v => kv (some v) h
        | .delete, [m, k], t :: _ => hpK (adelete T h t m k) fun h => kv (some (.tuple [])) h
        | .min, [x, y], _ => valK (amin x y) fun v => kv (some v) h
        | .max, [x, y], _ => valK (amax x y) fun v => kv (some v) h
        | _, _, _ => none
      | .invoke _ _ => none
  | _ => none

theorem aopK_le {T : Tab} {ρ : Operand → Option AV} {h : AHeap} {kv : Option AV → AHeap → Option R} {kc : ACallee → List AV → Option R} {r : R} : ∀ {op : Op}, aopK T ρ h kv kc op = some r →
    (∃ v h', aop T ρ h op = some (.val v h') ∧ kv v h' = some r) ∨ (∃ c args, aop T ρ h op = some (.call c args) ∧ kc c args = some r) := by
  intro op he
  cases op with
  | move x =>
    obtain ⟨v, h1, h2⟩ := valK_some he
    exact .inl ⟨_, _, by simp only [aop, h1], h2⟩
  | assign x =>
    obtain ⟨v, h1, h2⟩ := valK_some he
    exact .inl ⟨_, _, by simp only [aop, h1], h2⟩
  | pick c a b =>
    obtain ⟨v, h1, h2⟩ := valK_some he
    rcases boolK_some h2 with ⟨rfl, h3⟩ | ⟨rfl, h3⟩
    · obtain ⟨w, h4, h5⟩ := valK_some h3
      exact .inl ⟨_, _, by simp only [aop, h1, h4, cond_true], h5⟩
    · obtain ⟨w, h4, h5⟩ := valK_some h3
      exact .inl ⟨_, _, by simp only [aop, h1, h4, cond_false], h5⟩
  | alloc e =>
    simp only [aopK] at he
    split at he
    · rename_i te ht
      obtain ⟨v, h', h1, h2⟩ := bothK_some he
      exact .inl ⟨_, _, by simp only [aop, ht, h1, ret2], h2⟩
    · cases he
  | box t x =>
    obtain ⟨v, h1, h2⟩ := valK_some he
    obtain ⟨w, h', h3, h4⟩ := bothK_some h2
    unfold boxA at h3
    exact .inl ⟨_, _, by simp only [aop, h1, h3, ret2], h4⟩
  | build t ps =>
    obtain ⟨v, h1, h2⟩ := partsK_some he
    obtain ⟨w, h3, h4⟩ := valK_some h2
    exact .inl ⟨_, _, by simp only [aop, h1, h3, ret1], h4⟩
  | buildSlice t len ps =>
    obtain ⟨v, h1, h2⟩ := partsK_some he
    obtain ⟨w, h', h3, h4⟩ := bothK_some h2
    exact .inl ⟨_, _, by simp only [aop, h1, h3, ret2], h4⟩
  | load t a =>
    obtain ⟨v, h1, h2⟩ := valK_some he
    obtain ⟨w, h3, h4⟩ := valK_some h2
    unfold loadA at h3
    split at h3
    · exact .inl ⟨_, _, by simp only [aop, h1, h3, ret1], h4⟩
    · cases h3
  | store t a x =>
    obtain ⟨v, h1, h2⟩ := valK_some he
    obtain ⟨w, h3, h4⟩ := valK_some h2
    obtain ⟨h', h5, h6⟩ := hpK_some h4
    unfold storeA at h5
    split at h5
    · exact .inl ⟨_, _, by simp only [aop, h1, h3, h5], h6⟩
    · cases h5
  | nilCheck x =>
    obtain ⟨v, h1, h2⟩ := valK_some he
    obtain ⟨w, h3, h4⟩ := valK_some h2
    unfold nilA at h3
    split at h3 <;> first | (cases h3; exact .inl ⟨_, _, by simp only [aop, h1], h4⟩) | cases h3
  | binOp op t x y t' =>
    obtain ⟨v, h1, h2⟩ := valK_some he
    obtain ⟨w, h3, h4⟩ := valK_some h2
    obtain ⟨u, h5, h6⟩ := valK_some h4
    exact .inl ⟨_, _, by simp only [aop, h1, h3, h5, ret1], h6⟩
  | unOp op t x =>
    obtain ⟨v, h1, h2⟩ := valK_some he
    obtain ⟨w, h3, h4⟩ := valK_some h2
    exact .inl ⟨_, _, by simp only [aop, h1, h3, ret1], h4⟩
  | convert s d x =>
    obtain ⟨v, h1, h2⟩ := valK_some he
    obtain ⟨w, h', h3, h4⟩ := bothK_some h2
    exact .inl ⟨_, _, by simp only [aop, h1, h3, ret2], h4⟩
  | makeFunc fn first captured =>
    simp only [aopK] at he
    split at he
    · obtain ⟨v, h1, h2⟩ := argsK_some he
      obtain ⟨w, h3, h4⟩ := argsK_some h2
      exact .inl ⟨_, _, by simp only [aop, h1, h3], h4⟩
    · cases he
  | makeMap t r =>
    simp only [aopK] at he
    split at he
    · rename_i ht
      split at he
      · exact .inl ⟨_, _, by simp only [aop, ht], he⟩
      · obtain ⟨v, h1, h2⟩ := valK_some he
        unfold isIntK at h2
        split at h2
        · exact .inl ⟨_, _, by simp only [aop, ht, h1], h2⟩
        · cases h2
    · cases he
  | makeSlice t l c =>
    obtain ⟨v, h1, h2⟩ := valK_some he
    obtain ⟨w, h3, h4⟩ := valK_some h2
    obtain ⟨u, h', h5, h6⟩ := bothK_some h4
    exact .inl ⟨_, _, by simp only [aop, h1, h3, h5, ret2], h6⟩
  | slice t x lo hi mx =>
    simp only [aopK] at he
    split at he
    · cases he
    · obtain ⟨v, h1, h2⟩ := valK_some he
      split at h2
      · obtain ⟨w, h3, h4⟩ := valK_some h2
        exact .inl ⟨_, _, by simp only [aop, h1, Option.map_none, h3, ret1], h4⟩
      · obtain ⟨w, h3, h4⟩ := valK_some h2
        obtain ⟨u, h5, h6⟩ := valK_some h4
        exact .inl ⟨_, _, by simp only [aop, h1, Option.map_none, Option.map_some, h3, h5, ret1], h6⟩
      · obtain ⟨w, h3, h4⟩ := valK_some h2
        obtain ⟨u, h5, h6⟩ := valK_some h4
        exact .inl ⟨_, _, by simp only [aop, h1, Option.map_none, Option.map_some, h3, h5, ret1], h6⟩
      · obtain ⟨w, h3, h4⟩ := valK_some h2
        obtain ⟨u, h5, h6⟩ := valK_some h4
        obtain ⟨z, h7, h8⟩ := valK_some h6
        exact .inl ⟨_, _, by simp only [aop, h1, Option.map_none, Option.map_some, h3, h5, h7, ret1], h8⟩
  | fieldAddr s x f =>
    obtain ⟨v, h1, h2⟩ := valK_some he
    obtain ⟨w, h3, h4⟩ := valK_some h2
    exact .inl ⟨_, _, by simp only [aop, h1, h3, ret1], h4⟩
  | field s x f =>
    obtain ⟨v, h1, h2⟩ := valK_some he
    obtain ⟨w, h3, h4⟩ := valK_some h2
    exact .inl ⟨_, _, by simp only [aop, h1, h3, ret1], h4⟩
  | indexAddr t x i =>
    obtain ⟨v, h1, h2⟩ := valK_some he
    obtain ⟨w, h3, h4⟩ := valK_some h2
    obtain ⟨u, h5, h6⟩ := valK_some h4
    exact .inl ⟨_, _, by simp only [aop, h1, h3, h5, ret1], h6⟩
  | index t x i =>
    obtain ⟨v, h1, h2⟩ := valK_some he
    obtain ⟨w, h3, h4⟩ := valK_some h2
    obtain ⟨u, h5, h6⟩ := valK_some h4
    exact .inl ⟨_, _, by simp only [aop, h1, h3, h5, ret1], h6⟩
  | lookup t x i ok =>
    obtain ⟨v, h1, h2⟩ := valK_some he
    obtain ⟨w, h3, h4⟩ := valK_some h2
    obtain ⟨u, h5, h6⟩ := valK_some h4
    exact .inl ⟨_, _, by simp only [aop, h1, h3, h5, ret1], h6⟩
  | mapUpdate t m k v =>
    obtain ⟨v, h1, h2⟩ := valK_some he
    obtain ⟨w, h3, h4⟩ := valK_some h2
    obtain ⟨u, h5, h6⟩ := valK_some h4
    obtain ⟨h', h7, h8⟩ := hpK_some h6
    exact .inl ⟨_, _, by simp only [aop, h1, h3, h5, h7], h8⟩
  | insert t m k v =>
    obtain ⟨v, h1, h2⟩ := valK_some he
    obtain ⟨w, h3, h4⟩ := valK_some h2
    obtain ⟨u, h5, h6⟩ := valK_some h4
    obtain ⟨h', h7, h8⟩ := hpK_some h6
    exact .inl ⟨_, _, by simp only [aop, h1, h3, h5, h7], h8⟩
  | mapEntry t m k =>
    obtain ⟨v, h1, h2⟩ := valK_some he
    obtain ⟨w, h3, h4⟩ := valK_some h2
    obtain ⟨u, h', h5, h6⟩ := bothK_some h4
    exact .inl ⟨_, _, by simp only [aop, h1, h3, h5, ret2], h6⟩
  | entryStore t m s v =>
    obtain ⟨v, h1, h2⟩ := valK_some he
    obtain ⟨w, h3, h4⟩ := valK_some h2
    obtain ⟨u, h5, h6⟩ := valK_some h4
    obtain ⟨h', h7, h8⟩ := hpK_some h6
    exact .inl ⟨_, _, by simp only [aop, h1, h3, h5, h7], h8⟩
  | extract x i =>
    obtain ⟨v, h1, h2⟩ := valK_some he
    obtain ⟨w, h3, h4⟩ := valK_some h2
    unfold extractA at h3
    split at h3
    · exact .inl ⟨_, _, by simp only [aop, h1, h3, ret1], h4⟩
    · cases h3
  | call c =>
    obtain ⟨args, h1, h2⟩ := argsK_some he
    simp only [aop, h1]
    split at h2
    · rename_i f hc
      obtain ⟨g, h3, h4⟩ := valK_some h2
      simp only [hc, h3]
      unfold callA at h4
      split at h4
      · exact .inr ⟨_, _, rfl, h4⟩
      · exact .inr ⟨_, _, rfl, h4⟩
      · cases h4
    · rename_i b hc
      simp only [hc]
      split at h2
      · rename_i h5
        obtain ⟨u, h', h7, h8⟩ := bothK_some h2
        exact .inl ⟨_, _, by simp only [h5, h7, ret2], h8⟩
      · rename_i h5
        obtain ⟨u, h7, h8⟩ := valK_some h2
        exact .inl ⟨_, _, by simp only [h5, h7, ret1], h8⟩
      · rename_i h5
        obtain ⟨h', h7, h8⟩ := hpK_some h2
        exact .inl ⟨_, _, by simp only [h5, h7], h8⟩
      · rename_i h5
        obtain ⟨u, h7, h8⟩ := valK_some h2
        exact .inl ⟨_, _, by simp only [h7, ret1], h8⟩
      · rename_i h5
        obtain ⟨u, h7, h8⟩ := valK_some h2
        exact .inl ⟨_, _, by simp only [h7, ret1], h8⟩
      · cases h2
    · cases h2
  | _ => cases he

def putK (nt : Nat) (fr : AFrame) (dst : Option Tmp) (v : Option AV) (k : AFrame → Option R) : Option R :=
  match dst with
  | none => k fr
  | some t => bif Nat.blt t nt then k (fr.set t v) else none

theorem putK_some {nt : Nat} {fr : AFrame} {dst : Option Tmp} {v : Option AV} {k : AFrame → Option R} {r : R} (h : putK nt fr dst v k = some r) : ∃ fr', putT nt fr dst v = some fr' ∧ k fr' = some r := by
  unfold putK at h
  unfold putT
  cases dst with
  | none => exact ⟨fr, rfl, h⟩
  | some t =>
    simp only at h ⊢
    cases hb : Nat.blt t nt with
    | false => rw [hb] at h; cases h
    | true => rw [hb] at h; exact ⟨_, rfl, h⟩

def opGoK (E : Env) (T : Tab) (nt : Nat) (o : Oper) (fr : AFrame) (h : AHeap) (k : AFrame → AHeap → Option R) : Option R :=
  aopK T (aev fr) h (fun v h' => putK nt fr o.dst v fun fr' => k fr' h') (fun c args => bothK (E c args h) fun r h' => putK nt fr o.dst (some r) fun fr' => k fr' h') o.op

theorem opGoK_some {E : Env} {T : Tab} {nt : Nat} {o : Oper} {fr : AFrame} {h : AHeap} {k : AFrame → AHeap → Option R} {r : R} (he : opGoK E T nt o fr h k = some r) : ∃ fr' h', opGo E T nt o fr h = some (fr', h') ∧ k fr' h' = some r := by
  rcases aopK_le he with ⟨v, h1, e1, e2⟩ | ⟨c, args, e1, e2⟩
  · obtain ⟨fr', e3, e4⟩ := putK_some e2
    exact ⟨fr', h1, by simp only [opGo, e1, e3], e4⟩
  · obtain ⟨v, h1, e3, e4⟩ := bothK_some e2
    obtain ⟨fr', e5, e6⟩ := putK_some e4
    exact ⟨fr', h1, by simp only [opGo, e1, e3, e5], e6⟩

/-- An operation's guard: the truth that it looks at is put in its plain form. -/
def guardK (ops : List Oper) (fr : AFrame) (o : Oper) (k : Bool → AFrame → Option R) : Option R :=
  match o.guard with
  | none => k true fr
  | some (j, want) =>
    match ops[j]? with
    | some oj =>
      match oj.dst with
      | some t => valK (fr.get t) fun v => match oj.guard with
        | none => boolK v (k (true == want) (fr.set t (some (.bool true)))) (k (false == want) (fr.set t (some (.bool false))))
        | some _ => skipK v (k false (fr.set t (some (.tuple [])))) (boolK v (k (true == want) (fr.set t (some (.bool true)))) (k (false == want) (fr.set t (some (.bool false)))))
      | none => none
    | none => none

theorem PT.set_same {α : Type} : ∀ (f : Nat) (t : PT α) (k : Nat) (x : α), k < f → t.get k = some x → PT.setF f t k (some x) = t := by
  intro f
  induction f with
  | zero => intro t k x h; omega
  | succ f ih =>
    intro t k x h hg
    cases t with
    | leaf => rw [PT.get_leaf] at hg; cases hg
    | node l v r =>
      cases k with
      | zero => simp only [PT.get] at hg; simp only [PT.setF, hg]
      | succ k =>
        have hlt : k / 2 < f := by omega
        simp only [PT.get] at hg
        simp only [PT.setF]
        cases hb : Nat.beq (k % 2) 0 with
        | true => rw [hb] at hg; simp only [cond_true] at hg ⊢; rw [ih _ _ _ hlt hg]
        | false => rw [hb] at hg; simp only [cond_false] at hg ⊢; rw [ih _ _ _ hlt hg]

theorem guardK_some {ops : List Oper} {fr : AFrame} {o : Oper} {k : Bool → AFrame → Option R} {r : R} (he : guardK ops fr o k = some r) : ∃ b, guardOf ops fr o = some b ∧ k b fr = some r := by
  unfold guardK at he
  unfold guardOf guardBy
  split at he
  · rename_i hg
    exact ⟨true, by simp only [hg], he⟩
  · rename_i j want hg
    simp only [hg]
    split at he
    · rename_i oj hj
      simp only [hj]
      split at he
      · rename_i t ht
        obtain ⟨v, h1, h2⟩ := valK_some he
        have main : boolK v (k (true == want) (fr.set t (some (.bool true)))) (k (false == want) (fr.set t (some (.bool false)))) = some r → ∃ b, (match oj.dst with
            | some t => match fr.get t with
              | some (.bool b) => some (b == want)
              | some (.tuple []) => some false
              | _ => none
            | none => none) = some b ∧ k b fr = some r := by
          intro h2
          rcases boolK_some h2 with ⟨rfl, h3⟩ | ⟨rfl, h3⟩
          · have : fr.set t (some (.bool true)) = fr := PT.set_same _ _ _ _ (Nat.lt_succ_self _) h1
            rw [this] at h3
            exact ⟨_, by simp only [ht, h1], h3⟩
          · have : fr.set t (some (.bool false)) = fr := PT.set_same _ _ _ _ (Nat.lt_succ_self _) h1
            rw [this] at h3
            exact ⟨_, by simp only [ht, h1], h3⟩
        split at h2
        · exact main h2
        · unfold skipK at h2
          split at h2
          · have : fr.set t (some (.tuple [])) = fr := PT.set_same _ _ _ _ (Nat.lt_succ_self _) h1
            rw [this] at h2
            exact ⟨false, by simp only [ht, h1], h2⟩
          · exact main h2
      · cases he
    · cases he

def seqK (E : Env) (T : Tab) (nt : Nat) (ops : List Oper) : List Oper → AFrame → AHeap → (AFrame → AHeap → Option R) → Option R
  | [], fr, h, k => k fr h
  | o :: rest, fr, h, k => guardK ops fr o fun b fr => bif b then opGoK E T nt o fr h fun fr h => seqK E T nt ops rest fr h k else putK nt fr o.dst (some (.tuple [])) fun fr => seqK E T nt ops rest fr h k

theorem seqK_some {E : Env} {T : Tab} {nt : Nat} {ops : List Oper} : ∀ {l : List Oper} {fr : AFrame} {h : AHeap} {k : AFrame → AHeap → Option R} {r : R}, seqK E T nt ops l fr h k = some r → ∃ fr' h', runSeq E T nt ops l fr h = some (fr', h') ∧ k fr' h' = some r
  | [], fr, h, k, r, he => ⟨fr, h, rfl, he⟩
  | o :: rest, fr, h, k, r, he => by
    simp only [seqK] at he
    obtain ⟨b, h1, h2⟩ := guardK_some he
    cases b with
    | true =>
      simp only [cond_true] at h2
      obtain ⟨fr1, h3, e3, e4⟩ := opGoK_some h2
      obtain ⟨fr2, h5, e5, e6⟩ := seqK_some e4
      exact ⟨fr2, h5, by simp only [runSeq, opStep, h1, e3, e5], e6⟩
    | false =>
      simp only [cond_false] at h2
      obtain ⟨fr1, e3, e4⟩ := putK_some h2
      obtain ⟨fr2, h5, e5, e6⟩ := seqK_some e4
      exact ⟨fr2, h5, by simp only [runSeq, opStep, h1, e3, e5], e6⟩

/-- What was read is asked again, and is the same. -/
def sameK (x y : AV) (k : Option R) : Option R := bif AV.beq x y then k else none

def againK (T : Tab) (ops : List Oper) (fr : AFrame) (h : AHeap) (mask : Nat) : List (Nat × Option AV) → Option R → Option R
  | [], k => k
  | (i, v) :: rds, k =>
    bif Nat.testBit mask i then againK T ops fr h mask rds k else
      match ops[i]?, v with
      | some o, some y => aopK T (aev fr) h (fun x _ => match x with | some x => sameK x y (againK T ops fr h mask rds k) | none => none) (fun _ _ => none) o.op
      | _, _ => none

theorem againK_some {T : Tab} {ops : List Oper} {fr : AFrame} {h : AHeap} {mask : Nat} : ∀ {l : List (Nat × Option AV)} {k : Option R} {r : R}, againK T ops fr h mask l k = some r → again T ops fr h mask l = true ∧ k = some r
  | [], k, r, he => ⟨rfl, he⟩
  | (i, v) :: rds, k, r, he => by
    simp only [againK] at he
    simp only [again]
    cases hb : Nat.testBit mask i with
    | true =>
      rw [hb] at he
      obtain ⟨h1, h2⟩ := againK_some (he : againK T ops fr h mask rds k = some r)
      exact ⟨by rw [h1]; rfl, h2⟩
    | false =>
      rw [hb] at he
      simp only [cond_false] at he
      split at he
      · rename_i o y ho
        rcases aopK_le he with ⟨x, h1, e1, e2⟩ | ⟨c, args, e1, e2⟩
        · cases x with
          | none => cases e2
          | some x =>
            simp only [sameK] at e2
            cases hxy : AV.beq x y with
            | false => rw [hxy] at e2; cases e2
            | true =>
              rw [hxy] at e2
              obtain ⟨h3, h4⟩ := againK_some (e2 : againK T ops fr h mask rds k = some r)
              exact ⟨by simp only [ho, e1, hxy, h3, cond_false, Bool.and_self], h4⟩
        · cases e2
      · cases he

def planK (E : Env) (T : Tab) (nt : Nat) (ops : List Oper) (bef : List Nat) : List Nat → AFrame → AHeap → List (Nat × Option AV) → (AFrame → AHeap → Option R) → Option R
  | [], fr, h, _, k => k fr h
  | i :: rest, fr, h, rds, k =>
    match ops[i]? with
    | none => none
    | some o => guardK ops fr o fun b fr =>
      bif b then
        match clsOf T o.op with
        | .pure => aopK T (aev fr) h (fun v h' => putK nt fr o.dst v fun fr' => planK E T nt ops bef rest fr' h' rds k) (fun _ _ => none) o.op
        | .alloc => aopK T (aev fr) h (fun v h' => putK nt fr o.dst v fun fr' => planK E T nt ops bef rest fr' h' rds k) (fun _ _ => none) o.op
        | .read => aopK T (aev fr) h (fun v h' => putK nt fr o.dst v fun fr' => planK E T nt ops bef rest fr' h' ((i, v) :: rds) k) (fun _ _ => none) o.op
        | .eff => opGoK E T nt o fr h fun fr' h' => againK T ops fr' h' (bef.getD i 0) rds (planK E T nt ops bef rest fr' h' rds k)
      else putK nt fr o.dst (some (.tuple [])) fun fr' => planK E T nt ops bef rest fr' h rds k

theorem planK_some {E : Env} {T : Tab} {nt : Nat} {ops : List Oper} {bef : List Nat} : ∀ {l : List Nat} {fr : AFrame} {h : AHeap} {rds : List (Nat × Option AV)} {k : AFrame → AHeap → Option R} {r : R}, planK E T nt ops bef l fr h rds k = some r → ∃ fr' h', runPlan E T nt ops bef l fr h rds = some (fr', h') ∧ k fr' h' = some r
  | [], fr, h, rds, k, r, he => ⟨fr, h, rfl, he⟩
  | i :: rest, fr, h, rds, k, r, he => by
    simp only [planK] at he
    simp only [runPlan]
    split at he
    · cases he
    · rename_i o ho
      simp only [ho]
      obtain ⟨b, h1, h2⟩ := guardK_some he
      cases b with
      | true =>
        simp only [cond_true] at h2
        simp only [h1]
        split at h2
        · rename_i hc
          simp only [hc]
          rcases aopK_le h2 with ⟨v, h', e1, e2⟩ | ⟨c, args, e1, e2⟩
          · obtain ⟨fr1, e3, e4⟩ := putK_some e2
            simp only [e1, e3]
            exact planK_some e4
          · cases e2
        · rename_i hc
          simp only [hc]
          rcases aopK_le h2 with ⟨v, h', e1, e2⟩ | ⟨c, args, e1, e2⟩
          · obtain ⟨fr1, e3, e4⟩ := putK_some e2
            simp only [e1, e3]
            exact planK_some e4
          · cases e2
        · rename_i hc
          simp only [hc]
          rcases aopK_le h2 with ⟨v, h', e1, e2⟩ | ⟨c, args, e1, e2⟩
          · obtain ⟨fr1, e3, e4⟩ := putK_some e2
            simp only [e1, e3]
            exact planK_some e4
          · cases e2
        · rename_i hc
          simp only [hc]
          obtain ⟨fr1, h3, e3, e4⟩ := opGoK_some h2
          obtain ⟨e5, e6⟩ := againK_some e4
          simp only [e3, e5, cond_true]
          exact planK_some e6
      | false =>
        simp only [cond_false] at h2
        obtain ⟨fr1, e3, e4⟩ := putK_some h2
        simp only [h1, e3]
        exact planK_some e4

/-! ### What is kept, as a row of values -/

def Tup : List Nat → Type
  | [] => Unit
  | _ :: ts => AV × Tup ts

def emb : (ts : List Nat) → Tup ts → AFrame
  | [], _ => .leaf
  | t :: ts, v => (emb ts v.2).set t (some v.1)

def projK : (ts : List Nat) → AFrame → (Tup ts → Option R) → Option R
  | [], _, k => k ()
  | t :: ts, fr, k => valK (fr.get t) fun x => projK ts fr fun v => k (x, v)

theorem projK_some : ∀ {ts : List Nat} {fr : AFrame} {k : Tup ts → Option R} {r : R}, projK ts fr k = some r → ∃ v, emb ts v = keepOnly fr ts ∧ k v = some r
  | [], fr, k, r, he => ⟨(), rfl, he⟩
  | t :: ts, fr, k, r, he => by
    obtain ⟨x, h1, h2⟩ := valK_some he
    obtain ⟨v, h3, h4⟩ := projK_some h2
    exact ⟨(x, v), by simp only [emb, keepOnly, h3, h1], h4⟩

/-- Rounds: each is handed what to do with the next one. -/
def loopN {σ : Type} (step : σ → List Nat → AHeap → (σ → List Nat → AHeap → Option R) → Option R) : Nat → σ → List Nat → AHeap → Option R
  | 0, _, _, _ => none
  | n + 1, s, ms, h => step s ms h (loopN step n)

abbrev KExit (R : Type) := AExit → AFrame → List Nat → AHeap → Option R

def loopAtK (h : AHeap) (l : Nat) (k : ALoop → Option R) : Option R := match h.get l with | some (.loop L) => k L | _ => none
def endedK (L : ALoop) (k : Option R) : Option R := match L.state with | .busy => none | _ => k
def readyK (L : ALoop) (k : Option R) : Option R := match L.state with | .ready => k | _ => none
def exitK (e : AExit) (a : Option R) (b : Nat → Option R) (c : Option R) : Option R := match e with | .normal => a | .exit id => b id | .ret => c

theorem loopAtK_some {h : AHeap} {l : Nat} {k : ALoop → Option R} {r : R} (he : loopAtK h l k = some r) : ∃ L, h.get l = some (.loop L) ∧ k L = some r := by
  unfold loopAtK at he
  split at he
  · rename_i L hL; exact ⟨L, hL, he⟩
  · cases he
theorem endedK_some {L : ALoop} {k : Option R} {r : R} (he : endedK L k = some r) : L.state ≠ .busy ∧ k = some r := by
  unfold endedK at he
  split at he
  · cases he
  · rename_i hb; exact ⟨hb, he⟩
theorem readyK_some {L : ALoop} {k : Option R} {r : R} (he : readyK L k = some r) : L.state = .ready ∧ k = some r := by
  unfold readyK at he
  split at he
  · rename_i hb; exact ⟨hb, he⟩
  · cases he

def rangeK (E : Env) (fid nt : Nat) (g : AV) (ps : List Nat) (assign body : Code) (fr : AFrame) (ms : List Nat) (h : AHeap) (k : AExit → List Nat → AHeap → Option R) : Option R :=
  callA g [.yield (h.next + 1)] fun c args => match c with
    | .fn f => bothK (E (.enter f) args ((h.add .marks).add (.loop { state := .ready, pending := .normal, fn := fid, fr, nt, params := ps, assign, body }))) fun _ h3 =>
      loopAtK h3 (h.next + 1) fun L => endedK L (k L.pending (h.next :: ms) (h3.put (h.next + 1) (.loop { L with state := .exhausted })))
    | _ => none

def cexec (E : Env) (T : Tab) (A : AFn) (fid nt n : Nat) (rd : Bool) : Code → AFrame → List Nat → AHeap → KExit R → Option R
  | .skip, fr, ms, h, k => k .normal fr ms h
  | .label _, fr, ms, h, k => k .normal fr ms h
  | .region id ops draw, fr, ms, h, k =>
    match draw with
    | false => seqK E T nt ops.toList ops.toList fr h fun fr h => k .normal fr ms h
    | true => match A.plan.get id with
      | some (order, bef) =>
        bif planOk T ops.toList order bef then planK E T nt ops.toList bef order fr h [] fun fr h => k .normal fr ms h
        else none
      | none => none
  | .seq a b, fr, ms, h, k => match A.join.get (firstRegion b) with
    | none => cexec E T A fid nt n rd a fr ms h fun e fr ms h => match e with
      | .normal => cexec E T A fid nt n rd b fr ms h k
      | e => k e fr ms h
    | some ts => jn (fun (v : Tup ts) ms h => cexec E T A fid nt n rd b (emb ts v) ms h k) fun j =>
      cexec E T A fid nt n rd a fr ms h fun e fr ms h => match e with
      | .normal => projK ts fr fun v => j v ms h
      | e => k e fr ms h
  | .cond c a b, fr, ms, h, k => valK (aev fr c) fun v => boolK v (cexec E T A fid nt n rd a fr ms h k) (cexec E T A fid nt n rd b fr ms h k)
  | .block id b, fr, ms, h, k => cexec E T A fid nt n rd b fr ms h fun e fr ms h => match e with
    | .exit id' => bif Nat.beq id' id then k .normal fr ms h else k (.exit id') fr ms h
    | e => k e fr ms h
  | .loop b, fr, ms, h, k => match A.keep.get (firstRegion b) with
    | some ts => projK ts fr fun v => loopN (fun (v : Tup ts) ms h next => cexec E T A fid nt n rd b (emb ts v) ms h fun e fr ms h => match e with
      | .normal => projK ts fr fun v => next v ms h
      | e => k e fr ms h) n v ms h
    | none => none
  | .scope b, fr, ms, h, k => cexec E T A fid nt n rd b fr ms h k
  | .exit id, fr, ms, h, k => k (.exit id) fr ms h
  | .ret, fr, ms, h, k => k .ret fr ms h
  | .rangeFunc f ps assign body, fr, ms, h, k =>
    match rd with
    | true => none
    | false => valK (aev fr f) fun g => rangeK E fid nt g ps.toList assign body (keepR A (firstRegion body) fr) ms h fun e ms h => k e fr ms h
  | _, _, _, _, _ => none

theorem cexec_some {E : Env} {T : Tab} {A : AFn} {fid nt n : Nat} {rd : Bool} : ∀ (c : Code) {fr : AFrame} {ms : List Nat} {h : AHeap} {k : KExit R} {r : R}, cexec E T A fid nt n rd c fr ms h k = some r →
    ∃ e s, exec E T A fid nt n rd c ⟨fr, ms, h⟩ = some (e, s) ∧ k e s.fr s.ms s.h = some r := by
  intro c
  induction c with
  | skip => intro fr ms h k r he; exact ⟨_, _, rfl, he⟩
  | label l => intro fr ms h k r he; exact ⟨_, _, rfl, he⟩
  | ret => intro fr ms h k r he; exact ⟨_, _, rfl, he⟩
  | exit id => intro fr ms h k r he; exact ⟨_, _, rfl, he⟩
  | region id ops draw =>
    intro fr ms h k r he
    simp only [cexec] at he
    simp only [exec]
    cases draw with
    | false =>
      obtain ⟨fr', h', h1, h2⟩ := seqK_some he
      exact ⟨.normal, ⟨fr', ms, h'⟩, by simp only [h1], h2⟩
    | true =>
      simp only at he ⊢
      split at he
      · rename_i order bef hp
        simp only [hp]
        cases hok : planOk T ops.toList order bef with
        | false => rw [hok] at he; cases he
        | true =>
          rw [hok] at he
          simp only [cond_true] at he ⊢
          obtain ⟨fr', h', h1, h2⟩ := planK_some he
          exact ⟨.normal, ⟨fr', ms, h'⟩, by simp only [h1], h2⟩
      · cases he
  | seq a b iha ihb =>
    intro fr ms h k r he
    simp only [cexec] at he
    simp only [exec]
    split at he
    · rename_i hj
      obtain ⟨e, s, h1, h2⟩ := iha he
      cases e with
      | normal =>
        obtain ⟨e', s', h3, h4⟩ := ihb h2
        exact ⟨e', s', by simp only [h1, cleanJ, hj]; exact h3, h4⟩
      | exit id => exact ⟨_, s, by simp only [h1], h2⟩
      | ret => exact ⟨_, s, by simp only [h1], h2⟩
    · rename_i ts hj
      simp only [jn] at he
      obtain ⟨e, s, h1, h2⟩ := iha he
      cases e with
      | normal =>
        obtain ⟨v, h5, h6⟩ := projK_some h2
        obtain ⟨e', s', h3, h4⟩ := ihb h6
        exact ⟨e', s', by simp only [h1, cleanJ, hj]; rw [← h5]; exact h3, h4⟩
      | exit id => exact ⟨_, s, by simp only [h1], h2⟩
      | ret => exact ⟨_, s, by simp only [h1], h2⟩
  | cond c a b iha ihb =>
    intro fr ms h k r he
    simp only [cexec] at he
    simp only [exec]
    obtain ⟨v, h1, h2⟩ := valK_some he
    rcases boolK_some h2 with ⟨rfl, h3⟩ | ⟨rfl, h3⟩
    · simp only [h1]; exact iha h3
    · simp only [h1]; exact ihb h3
  | block id b ih =>
    intro fr ms h k r he
    simp only [cexec] at he
    simp only [exec]
    obtain ⟨e, s, h1, h2⟩ := ih he
    cases e with
    | normal => exact ⟨_, s, by simp only [h1], h2⟩
    | ret => exact ⟨_, s, by simp only [h1], h2⟩
    | exit id' =>
      simp only at h2
      cases hb : Nat.beq id' id with
      | true => rw [hb] at h2; exact ⟨_, s, by simp only [h1, hb, cond_true], h2⟩
      | false => rw [hb] at h2; exact ⟨_, s, by simp only [h1, hb, cond_false], h2⟩
  | loop b ih =>
    intro fr ms h k r he
    simp only [cexec] at he
    simp only [exec]
    split at he
    · rename_i ts hk
      have key : ∀ (m : Nat) {fr : AFrame} {v : Tup ts} {ms : List Nat} {h : AHeap}, emb ts v = keepOnly fr ts → loopN (fun (v : Tup ts) ms h next => cexec E T A fid nt n rd b (emb ts v) ms h fun e fr ms h => match e with
          | .normal => projK ts fr fun v => next v ms h
          | e => k e fr ms h) m v ms h = some r → ∃ e s, iter (exec E T A fid nt n rd b) (clean A (firstRegion b)) m ⟨fr, ms, h⟩ = some (e, s) ∧ k e s.fr s.ms s.h = some r := by
        intro m
        induction m with
        | zero => intro fr v ms h hv hl; cases hl
        | succ m ihm =>
          intro fr v ms h hv hl
          simp only [loopN] at hl
          obtain ⟨e, s, h1, h2⟩ := ih hl
          simp only [iter, clean, hk]
          rw [hv] at h1
          cases e with
          | normal =>
            obtain ⟨v', h5, h6⟩ := projK_some h2
            obtain ⟨e', s', h3, h4⟩ := ihm (fr := s.fr) h5 h6
            exact ⟨e', s', by simp only [h1]; exact h3, h4⟩
          | exit id => exact ⟨_, s, by simp only [h1], h2⟩
          | ret => exact ⟨_, s, by simp only [h1], h2⟩
      obtain ⟨v, h5, h6⟩ := projK_some he
      exact key n h5 h6
    · cases he
  | scope b ih =>
    intro fr ms h k r he
    simp only [cexec] at he
    simp only [exec]
    exact ih he
  | rangeFunc f ps assign body =>
    intro fr ms h k r he
    simp only [cexec] at he
    simp only [exec]
    cases rd with
    | true => cases he
    | false =>
      simp only at he ⊢
      obtain ⟨g, h1, h2⟩ := valK_some he
      simp only [h1]
      unfold rangeK callA at h2
      split at h2
      · rename_i f1 first captured
        simp only at h2
        obtain ⟨rv, h3, e3, e4⟩ := bothK_some h2
        simp only [acallV, AHeap.next_add, e3]
        obtain ⟨L, hL, e5⟩ := loopAtK_some e4
        obtain ⟨hnb, e6⟩ := endedK_some e5
        simp only [hL]
        refine ⟨L.pending, ⟨fr, h.next :: ms, h3.put (h.next + 1) (.loop { L with state := .exhausted })⟩, ?_, e6⟩
        rfl
      · cases h2
      · cases h2
  | _ => intro fr ms h k r he; cases he

/-- A part of code, by the way to it. -/
def subCode : List Nat → Code → Code
  | [], c => c
  | i :: is, c => subCode is (match c with
    | .seq a b => match i with | 0 => a | _ => b
    | .cond _ a b => match i with | 0 => a | _ => b
    | .block _ b => b
    | .loop b => b
    | .scope b => b
    | .rangeFunc _ _ a b => match i with | 0 => a | _ => b
    | _ => .skip)

/-! ### Functions -/

def resK (T : Tab) (fr : AFrame) (h : AHeap) : List ResultVar → (List AV → Option R) → Option R
  | [], k => k []
  | .tmp t :: rs, k => valK (fr.get t) fun v => resK T fr h rs fun vs => k (v :: vs)
  | .cell a t :: rs, k => valK (fr.get a) fun a => valK (loadA T h t a) fun v => resK T fr h rs fun vs => k (v :: vs)

theorem resK_some {T : Tab} {fr : AFrame} {h : AHeap} : ∀ {l : List ResultVar} {k : List AV → Option R} {r : R}, resK T fr h l k = some r → ∃ vs, resultsOf T fr h l = some vs ∧ k vs = some r
  | [], k, r, he => ⟨[], rfl, he⟩
  | .tmp t :: rs, k, r, he => by
    obtain ⟨v, h1, h2⟩ := valK_some he
    obtain ⟨vs, h3, h4⟩ := resK_some h2
    exact ⟨v :: vs, by simp only [resultsOf, h1, h3], h4⟩
  | .cell a t :: rs, k, r, he => by
    obtain ⟨v, h1, h2⟩ := valK_some he
    obtain ⟨w, h5, h6⟩ := valK_some h2
    obtain ⟨vs, h3, h4⟩ := resK_some h6
    unfold loadA at h5
    split at h5
    · exact ⟨w :: vs, by simp only [resultsOf, h1, h5, h3], h4⟩
    · cases h5

def finK (T : Tab) (rs : List ResultVar) (fr : AFrame) (ms : List Nat) (h : AHeap) : Option (AV × AHeap) :=
  hpK (unmark h ms) fun h => resK T fr h rs fun vs => some (tupled vs, h)

def fnK (E : Env) (T : Tab) (A : AFn) (fid n : Nat) (args : List AV) (h : AHeap) : Option (AV × AHeap) :=
  match A.fn.body with
  | some c =>
    bif Nat.ble args.length A.fn.ntmps then
      cexec E T A fid A.fn.ntmps n false c (initFrame args 0) [] h fun e fr ms h => match e with
        | .normal => finK T A.fn.results.toList fr ms h
        | .ret => finK T A.fn.results.toList fr ms h
        | _ => none
    else none
  | none => none

theorem finK_some {T : Tab} {fn : Func} {fr : AFrame} {ms : List Nat} {h : AHeap} {r : AV × AHeap} (he : finK T fn.results.toList fr ms h = some r) : finish T fn ⟨fr, ms, h⟩ = some r := by
  obtain ⟨h1, e1, e2⟩ := hpK_some he
  obtain ⟨vs, e3, e4⟩ := resK_some e2
  simp only [finish, e1, e3]
  exact e4

theorem fnK_some {E : Env} {T : Tab} {A : AFn} {fid n : Nat} {args : List AV} {h : AHeap} {r : AV × AHeap} (he : fnK E T A fid n args h = some r) : callFn E T A fid n args h = some r := by
  unfold fnK at he
  unfold callFn
  split at he
  · rename_i c hb
    simp only [hb]
    cases hl : Nat.ble args.length A.fn.ntmps with
    | false => rw [hl] at he; cases he
    | true =>
      rw [hl] at he
      simp only [cond_true] at he ⊢
      obtain ⟨e, s, h1, h2⟩ := cexec_some c he
      simp only [h1]
      cases e with
      | normal => exact finK_some h2
      | ret => exact finK_some h2
      | exit id => cases h2
  · cases he

/-- One round of a range over a function. -/
def roundK (E : Env) (T : Tab) (A : AFn) (n l : Nat) (L : ALoop) (args : List AV) (h : AHeap) : Option (AV × AHeap) :=
  bif Nat.beq args.length L.params.length && inBounds L.nt L.params then
    cexec E T A L.fn L.nt n true L.assign (setParams L.fr L.params args) [] h fun e fr ms h => match e with
      | .normal => loopAtK h l fun L1 => readyK L1 (cexec E T A L.fn L.nt n true L.body fr ms (h.put l (.loop { L1 with state := .busy })) fun e fr ms h => loopAtK h l fun L2 => match e with
              | .normal => some (.bool true, h.put l (.loop { L2 with state := .ready, pending := .normal }))
              | e => some (.bool false, h.put l (.loop { L2 with state := .done, pending := e })))
      | _ => none
  else none

theorem roundK_some {E : Env} {T : Tab} {Fs : PT AFn} {A : AFn} {n l : Nat} {L : ALoop} {args : List AV} {h : AHeap} {r : AV × AHeap} (hl : h.get l = some (.loop L)) (hA : Fs.get L.fn = some A) (he : roundK E T A n l L args h = some r) : callRound E T Fs n l args h = some r := by
  unfold roundK at he
  unfold callRound
  simp only [hl, hA]
  cases hb : Nat.beq args.length L.params.length && inBounds L.nt L.params with
  | false => rw [hb] at he; cases he
  | true =>
    rw [hb] at he
    simp only [cond_true] at he ⊢
    obtain ⟨e, s, h1, h2⟩ := cexec_some _ he
    simp only [h1]
    cases e with
    | exit id => cases h2
    | ret => cases h2
    | normal =>
      simp only at h2 ⊢
      obtain ⟨L1, hl1, h5⟩ := loopAtK_some h2
      obtain ⟨hst, h6⟩ := readyK_some h5
      simp only [hl1, hst]
      obtain ⟨e', s', h3, h4⟩ := cexec_some _ h6
      simp only [h3]
      obtain ⟨L2, hl2, h7⟩ := loopAtK_some h4
      simp only [hl2]
      exact h7

end
end Go.Am
