/-
  Regions in their order: a walk of the model's region out of the abstract machine's run.
-/
import Derived.Test.YtcjjleelhaphkaaGreatDoorB9
import Derived.CallsIn
import Derived.RangeFuncIn
import Derived.RangeFuncLeaves
set_option linter.unusedVariables false
set_option linter.unusedSimpArgs false
namespace Go.Am

/-- A fence that keeps nobody out, with the round that its frames are of. -/
def FW (r : Option Nat) : Fence := { fn := fun _ => True, depth := none, alive := false, round := r }

/-- What a call hands back. -/
def RetPost (w0 : World) (β : Inj) (h : AHeap) (r : AV) (h' : AHeap) : Ending → World → Prop := fun e w' =>
  ∃ β' V, e = .returned V ∧ VR β' r V ∧ WR w0 β' h' w' ∧ Goes β h β' h'

/-- What calls come to, holds of the model. -/
def EnvOK (P : Program) (E : Env) : Prop := ∀ c args h r h', E c args h = some (r, h') → ∀ w0 β w vals, WR w0 β h w → VRL β args vals →
  match c with
  | .fn f => ((∃ fn c, P.funcs[f]? = some fn ∧ fn.body = some c ∧ ¬ fn.name = "runtime.NumGoroutine") ∧ CallsIn (FW none) 0 P f vals.toArray w (RetPost w0 β h r h')) ∨
      ∃ V w', (callFunc f vals.toArray).run P w = .ok (.value V) w' ∧ RetPost w0 β h r h' (.returned V) w'
  | .enter f => (∃ fn c, P.funcs[f]? = some fn ∧ fn.body = some c ∧ ¬ fn.name = "runtime.NumGoroutine") ∧ CallsIn (FW none) 0 P f vals.toArray w (RetPost w0 β h r h')
  | .yield o => ∀ L, β o = some L → ∃ fn tmps assign body, (Instr.yield L.b vals.toArray).run P w = .ok (.round L.b fn tmps assign body) w ∧ RoundIn (FW none) 0 P L.b fn tmps assign body w (RetPost w0 β h r h')

section
variable {P : Program} {T : Tab} {E : Env}

theorem callsIn_any {r : Option Nat} {n : Nat} {f : FuncId} {args : Array Value} {w : World} {R : Ending → World → Prop} (h : CallsIn (FW none) n P f args w R) : CallsIn (FW r) n P f args w R := h

theorem roundIn_any {r : Option Nat} {n l : Nat} {f : FuncId} {tmps : Array Value} {assign body : Code} {w : World} {R : Ending → World → Prop} (h : RoundIn (FW none) n P l f tmps assign body w R) : RoundIn (FW r) n P l f tmps assign body w R := h

/-- What an operation comes to, calls and all. -/
def opRes (E : Env) (T : Tab) (ρ : Operand → Option AV) (o : Oper) (h : AHeap) : Option (Option AV × AHeap) :=
  match aop T ρ h o.op with
  | some (.val v h') => some (v, h')
  | some (.call c args) => match E c args h with
    | some (r, h') => some (some r, h')
    | none => none
  | none => none

theorem op_wp {w0 : World} {β : Inj} {h h' : AHeap} {w : World} {a : Act} (hT : TabOK P T) (hE : EnvOK P E) (hw : WR w0 β h w) {ρ : Operand → Option AV} (hr : RhoR β ρ a.eval) {o : Oper} {v : Option AV} (ho : opRes E T ρ o h = some (v, h'))
    {rd : Option Nat} {next : Act → World → Prop} {Q : Exit → Act → World → Prop}
    (hn : ∀ β' V w', (∀ x, v = some x → VR β' x V) → WR w0 β' h' w' → Goes β h β' h' → next (a.put o.dst V) w') :
    o.wpIn (FW rd) 0 P a w next Q := by
  refine ⟨fun _ _ => trivial, ?_⟩
  have hnd : ∀ c, o.op ≠ .defer c := by
    intro c hc
    simp [opRes, hc, aop] at ho
  rw [Oper.semAt_eq _ _ _ hnd]
  unfold opRes at ho
  split at ho
  · rename_i v' h'' hop
    cases ho
    obtain ⟨β', w', nx, r1, r2, r3, r4⟩ := aop_val hT hw hr hop
    rw [r1]
    rcases r2 with ⟨rfl, rfl⟩ | ⟨V, rfl, hv⟩
    · exact hn β' undef w' (fun x hx => by cases hx) r3 r4
    · exact hn β' V w' hv r3 r4
  · rename_i c args hop
    split at ho
    · rename_i r h'' hEc
      cases ho
      obtain ⟨cc, f, g, as, e1, e2, e3, e4, e5⟩ := aop_call_inv hop
      have hV := aevL_sim hr e4
      obtain ⟨d, vals, d1, d2, d3⟩ := acallV_sim e5 (hr _ _ e3) hV w
      have hmap : cc.args.map a.eval = (cc.args.toList.map a.eval).toArray := by apply Array.ext'; simp
      have hres : (execOp a.eval o).run P w = (invoke d.target d.args).run P w := by
        unfold execOp
        rw [e1]
        simp only [resolve, e2, Sem.run_bind]
        rw [hmap, d1]
        rfl
      rw [hres]
      have hcall := hEc
      rcases d3 with ⟨f', rfl, hinv⟩ | ⟨o', L, rfl, hL, hinv⟩
      · rcases hE _ _ _ _ _ hEc w0 β w vals hw d2 with hX | ⟨V, w', hcf, β', V', hVV, q1, q2, q3⟩
        case inr =>
          rw [hinv, hcf]
          cases hVV
          exact hn β' V w' (fun x hx => by cases hx; exact q1) q2 q3
        obtain ⟨⟨fn, body, p1, p2, p3⟩, hC⟩ := hX
        have hcf : (callFunc f' vals.toArray).run P w = .ok (.enter f' vals.toArray) w := by
          simp [callFunc, p1, p2, p3]
        rw [hinv, hcf]
        refine ⟨fun hh => by simp [FW] at hh, (callsIn_any hC).mono ?_⟩
        rintro e w' ⟨β', V, rfl, q1, q2, q3⟩
        exact hn β' V w' (fun x hx => by cases hx; exact q1) q2 q3
      · obtain ⟨fn, tmps, assign, body, y1, y2⟩ := hE _ _ _ _ _ hEc w0 β w vals hw d2 L hL
        rw [hinv, y1]
        refine ⟨fun hh => by simp [FW] at hh, (roundIn_any y2).mono ?_⟩
        rintro e w' ⟨β', V, rfl, q1, q2, q3⟩
        exact hn β' V w' (fun x hx => by cases hx; exact q1) q2 q3
    · cases ho
  · cases ho

theorem size_put (a : Act) (dst : Option Tmp) (V : Value) : (a.put dst V).tmps.size = a.tmps.size := by
  cases dst <;> simp [Act.put]

theorem defers_put (a : Act) (dst : Option Tmp) (V : Value) : (a.put dst V).defers = a.defers := by
  cases dst <;> simp [Act.put]

theorem FR.put {β : Inj} {fr fr' : AFrame} {a : Act} {nt : Nat} {dst : Option Tmp} {v : Option AV} {V : Value} (hf : FR β fr a.tmps) (hs : a.tmps.size = nt) (hp : putT nt fr dst v = some fr') (hv : ∀ x, v = some x → VR β x V) :
    FR β fr' (a.put dst V).tmps := by
  unfold putT at hp
  cases dst with
  | none => cases hp; exact hf
  | some d =>
    cases hb : Nat.blt d nt with
    | false => simp only [hb, cond_false] at hp; cases hp
    | true =>
      simp only [hb, cond_true, Option.some.injEq] at hp
      subst hp
      have hlt : d < a.tmps.size := by rw [hs]; simpa using hb
      intro t x hx
      rw [PT.get_set] at hx
      by_cases ht : t = d
      · subst ht
        rw [if_pos rfl] at hx
        exact ⟨V, by simp [Act.put, hlt], hv x hx⟩
      · rw [if_neg ht] at hx
        obtain ⟨X, h1, h2⟩ := hf t x hx
        refine ⟨X, ?_, h2⟩
        simp only [Act.put]
        rw [Array.getElem?_setIfInBounds, if_neg (fun e => ht e.symm)]
        exact h1

theorem opGo_eq {nt : Nat} {o : Oper} {fr fr' : AFrame} {h h' : AHeap} (hg : opGo E T nt o fr h = some (fr', h')) : ∃ v, opRes E T (aev fr) o h = some (v, h') ∧ putT nt fr o.dst v = some fr' := by
  unfold opGo at hg
  unfold opRes
  split at hg
  · rename_i v h1 hop
    split at hg
    · rename_i fr1 hp
      cases hg
      exact ⟨v, by rw [hop], hp⟩
    · cases hg
  · rename_i c args hop
    split at hg
    · rename_i r h1 hE
      split at hg
      · rename_i fr1 hp
        cases hg
        exact ⟨some r, by rw [hop]; simp [hE], hp⟩
      · cases hg
    · cases hg
  · cases hg

/-- The guard, as the model asks it. -/
theorem guardBy_sim {β : Inj} {ops : Array Oper} {g : Tmp → Option AV} {tmps : Array Value} {o : Oper} {b : Bool} (hf : ∀ t v, g t = some v → ∃ V, tmps[t]? = some V ∧ VR β v V) (hg : guardBy ops.toList g o = some b) : Region.wanted o (yielded ops tmps) = b := by
  unfold guardBy at hg
  unfold Region.wanted
  split at hg
  · rename_i e
    cases hg
    rw [e]
  · rename_i j want e
    rw [e]
    split at hg
    · rename_i oj hj
      split at hg
      · rename_i t ht
        split at hg
        · rename_i b' hb
          cases hg
          obtain ⟨V, h1, h2⟩ := hf t _ hb
          simp only [VR] at h2; subst h2
          have hj' : ops[j]? = some oj := by simpa using hj
          simp [yielded, hj', ht, h1]
        · rename_i hb
          cases hg
          obtain ⟨V, h1, h2⟩ := hf t _ hb
          simp only [VR] at h2
          obtain ⟨vs, h3, rfl⟩ := h2
          have hj' : ops[j]? = some oj := by simpa using hj
          simp [yielded, hj', ht, h1]
        · cases hg
      · cases hg
    · cases hg

theorem guard_sim {β : Inj} {ops : Array Oper} {fr : AFrame} {a : Act} {o : Oper} {b : Bool} (hf : FR β fr a.tmps) (hg : guardOf ops.toList fr o = some b) : Region.wanted o (yielded ops a.tmps) = b :=
  guardBy_sim hf hg

/-- What stands of a frame, a heap, and a world. -/
structure SR (w0 : World) (β : Inj) (nt : Nat) (fr : AFrame) (h : AHeap) (a : Act) (w : World) : Prop where
  wr : WR w0 β h w
  fr : FR β fr a.tmps
  size : a.tmps.size = nt

theorem opStep_wp {w0 : World} {β : Inj} {nt : Nat} {fr fr' : AFrame} {h h' : AHeap} {w : World} {a : Act} {ops : Array Oper} (hT : TabOK P T) (hE : EnvOK P E) (hs : SR w0 β nt fr h a w) {o : Oper} (ho : opStep E T nt ops.toList o fr h = some (fr', h'))
    {rd : Option Nat} {next : Act → World → Prop} {Q : Exit → Act → World → Prop}
    (hn : ∀ β' a' w', SR w0 β' nt fr' h' a' w' → Goes β h β' h' → a'.defers = a.defers → next a' w') :
    (if Region.wanted o (yielded ops a.tmps) then o.wpIn (FW rd) 0 P a w next Q else (∀ f, o.about P w a.eval = some f → (FW rd).fn f) ∧ next (a.put o.dst undef) w) := by
  unfold opStep at ho
  split at ho
  · rename_i hg
    rw [guard_sim hs.fr hg, if_pos rfl]
    obtain ⟨v, h1, h2⟩ := opGo_eq ho
    refine op_wp hT hE hs.wr hs.fr.rho h1 fun β' V w' q1 q2 q3 => hn β' _ w' ⟨q2, ?_, by rw [size_put]; exact hs.size⟩ q3 (defers_put _ _ _)
    exact (hs.fr.mono (hs.wr.le q3)).put hs.size h2 q1
  · rename_i hg
    rw [guard_sim hs.fr hg, if_neg (by simp)]
    split at ho
    · rename_i fr1 hp
      cases ho
      refine ⟨fun _ _ => trivial, hn β _ w ⟨hs.wr, ?_, by rw [size_put]; exact hs.size⟩ (Goes.refl _ _) (defers_put _ _ _)⟩
      exact hs.fr.put hs.size hp (fun x hx => by cases hx; simp only [VR]; exact ⟨[], VRL.nil, rfl⟩)
    · cases ho
  · cases ho

theorem runSeq_wp (hT : TabOK P T) (hE : EnvOK P E) {w0 : World} {nt : Nat} {ops : Array Oper} {rd : Option Nat} {Q : Exit → Act → World → Prop} :
    ∀ (d k : Nat), k + d = ops.size → ∀ {β : Inj} {fr fr' : AFrame} {h h' : AHeap} {w : World} {a : Act}, SR w0 β nt fr h a w → runSeq E T nt ops.toList (ops.toList.drop k) fr h = some (fr', h') →
      (∀ β' a' w', SR w0 β' nt fr' h' a' w' → Goes β h β' h' → a'.defers = a.defers → Q .normal a' w') →
      wpOpsIn (FW rd) 0 P ops Q ((List.range ops.size).drop k) a w := by
  intro d
  induction d with
  | zero =>
    intro k hk β fr fr' h h' w a hs hr hQ
    rw [List.drop_of_length_le (by simp; omega)] at hr ⊢
    simp only [runSeq, Option.some.injEq, Prod.mk.injEq] at hr
    obtain ⟨rfl, rfl⟩ := hr
    exact hQ β a w hs (Goes.refl _ _) rfl
  | succ d ih =>
    intro k hk β fr fr' h h' w a hs hr hQ
    have hlt : k < ops.size := by omega
    rw [List.drop_eq_getElem_cons (by simpa using hlt)] at hr ⊢
    simp only [runSeq] at hr
    simp only [List.getElem_range, wpOpsIn]
    have hget : ops[k]? = some ops[k] := Array.getElem?_eq_getElem hlt
    rw [hget]
    split at hr
    · rename_i fr1 h1 hst
      refine opStep_wp hT hE hs (by simpa using hst) fun β1 a1 w1 s1 g1 d1 => ?_
      exact ih (k + 1) (by omega) s1 hr fun β2 a2 w2 s2 g2 d2 => hQ β2 a2 w2 s2 (g1.trans g2) (d2.trans d1)
    · cases hr

theorem region_wp (hT : TabOK P T) (hE : EnvOK P E) {w0 : World} {nt : Nat} {ops : Array Oper} {id : Nat} {rd : Option Nat} {Q : Exit → Act → World → Prop} {β : Inj} {fr fr' : AFrame} {h h' : AHeap} {w : World} {a : Act} (hs : SR w0 β nt fr h a w)
    (hr : runSeq E T nt ops.toList ops.toList fr h = some (fr', h')) (hQ : ∀ β' a' w', SR w0 β' nt fr' h' a' w' → Goes β h β' h' → a'.defers = a.defers → Q .normal a' w') :
    (Code.region id ops false).wpIn (FW rd) 0 P Q a w :=
  wpIn_region (by simpa using runSeq_wp hT hE ops.size 0 (by omega) hs (by simpa using hr) hQ)
end
end Go.Am
