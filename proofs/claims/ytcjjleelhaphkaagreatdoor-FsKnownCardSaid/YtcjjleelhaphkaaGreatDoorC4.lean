/-
  A region that draws its order: in whatever order the model takes its operations, it comes to what the abstract machine's run by the plan tells.
-/
import Derived.Test.YtcjjleelhaphkaaGreatDoorC3
set_option linter.unusedVariables false
set_option linter.unusedSimpArgs false
namespace Go.Am
open Classical

section
variable {P : Program} {T : Tab} {E : Env}

/-- What the run does at one operation of the plan. -/
inductive PStep (E : Env) (T : Tab) (nt : Nat) (ops : Array Oper) (bef : List Nat) (i : Nat) (o : Oper) (fr : AFrame) (h : AHeap) (rds : List (Nat × Option AV)) : AFrame → AHeap → List (Nat × Option AV) → Prop
  | skip {fr'} (hg : guardOf ops.toList fr o = some false) (hp : putT nt fr o.dst (some (.tuple [])) = some fr') : PStep E T nt ops bef i o fr h rds fr' h rds
  | quiet {fr' h' v} (hg : guardOf ops.toList fr o = some true) (hc : clsOf T o.op = .pure ∨ clsOf T o.op = .alloc) (ha : aop T (aev fr) h o.op = some (.val v h')) (hp : putT nt fr o.dst v = some fr') : PStep E T nt ops bef i o fr h rds fr' h' rds
  | read {fr' h' v} (hg : guardOf ops.toList fr o = some true) (hc : clsOf T o.op = .read) (ha : aop T (aev fr) h o.op = some (.val v h')) (hp : putT nt fr o.dst v = some fr') : PStep E T nt ops bef i o fr h rds fr' h' ((i, v) :: rds)
  | eff {fr' h'} (hg : guardOf ops.toList fr o = some true) (hc : clsOf T o.op = .eff) (ho : opGo E T nt o fr h = some (fr', h')) (hag : again T ops.toList fr' h' (bef.getD i 0) rds = true) : PStep E T nt ops bef i o fr h rds fr' h' rds

theorem runPlan_cons {nt : Nat} {ops : Array Oper} {bef : List Nat} {i : Nat} {rest : List Nat} {fr frN : AFrame} {h hN : AHeap} {rds : List (Nat × Option AV)} (hr : runPlan E T nt ops.toList bef (i :: rest) fr h rds = some (frN, hN)) :
    ∃ o fr' h' rds', ops[i]? = some o ∧ PStep E T nt ops bef i o fr h rds fr' h' rds' ∧ runPlan E T nt ops.toList bef rest fr' h' rds' = some (frN, hN) := by
  simp only [runPlan] at hr
  split at hr
  · cases hr
  · rename_i o ho
    have ho' : ops[i]? = some o := by simpa using ho
    split at hr
    · cases hr
    · rename_i hg
      split at hr
      · rename_i fr' hp
        exact ⟨o, fr', h, rds, ho', .skip hg hp, hr⟩
      · cases hr
    · rename_i hg
      split at hr
      · rename_i hc
        split at hr
        · rename_i v h' ha
          split at hr
          · rename_i fr' hp
            exact ⟨o, fr', h', rds, ho', .quiet hg (.inl hc) ha hp, hr⟩
          · cases hr
        · cases hr
      · rename_i hc
        split at hr
        · rename_i v h' ha
          split at hr
          · rename_i fr' hp
            exact ⟨o, fr', h', rds, ho', .quiet hg (.inr hc) ha hp, hr⟩
          · cases hr
        · cases hr
      · rename_i hc
        split at hr
        · rename_i v h' ha
          split at hr
          · rename_i fr' hp
            exact ⟨o, fr', h', (i, v) :: rds, ho', .read hg hc ha hp, hr⟩
          · cases hr
        · cases hr
      · rename_i hc
        split at hr
        · rename_i fr' h' hgo
          cases hag : again T ops.toList fr' h' (bef.getD i 0) rds with
          | false => rw [hag] at hr; cases hr
          | true => rw [hag] at hr; exact ⟨o, fr', h', rds, ho', .eff hg hc hgo hag, hr⟩
        · cases hr

theorem putT_ne {nt : Nat} {fr fr' : AFrame} {dst : Option Tmp} {v : Option AV} (hp : putT nt fr dst v = some fr') {t : Tmp} (ht : dst ≠ some t) : fr'.get t = fr.get t := by
  unfold putT at hp
  cases dst with
  | none => cases hp; rfl
  | some d =>
    cases hb : Nat.blt d nt with
    | false => simp only [hb, cond_false] at hp; cases hp
    | true =>
      simp only [hb, cond_true, Option.some.injEq] at hp
      subst hp
      exact PT.get_set_ne _ _ (fun e => ht (by rw [e]))

theorem putT_eq {nt : Nat} {fr fr' : AFrame} {dst : Option Tmp} {v : Option AV} (hp : putT nt fr dst v = some fr') {t : Tmp} (ht : dst = some t) : fr'.get t = v ∧ t < nt := by
  subst ht
  unfold putT at hp
  cases hb : Nat.blt t nt with
  | false => simp only [hb, cond_false] at hp; cases hp
  | true =>
    simp only [hb, cond_true, Option.some.injEq] at hp
    subst hp
    exact ⟨PT.get_set_self _ _ _, by simpa using hb⟩

/-- What a step leaves in its place, and elsewhere. -/
theorem PStep.frame {nt : Nat} {ops : Array Oper} {bef : List Nat} {i : Nat} {o : Oper} {fr fr' : AFrame} {h h' : AHeap} {rds rds' : List (Nat × Option AV)} (hs : PStep E T nt ops bef i o fr h rds fr' h' rds') : ∃ v, putT nt fr o.dst v = some fr' := by
  cases hs with
  | skip hg hp => exact ⟨_, hp⟩
  | quiet hg hc ha hp => exact ⟨_, hp⟩
  | read hg hc ha hp => exact ⟨_, hp⟩
  | eff hg hc ho hag => obtain ⟨v, _, hp⟩ := opGo_eq ho; exact ⟨v, hp⟩

theorem runPlan_keeps {nt : Nat} {ops : Array Oper} {bef : List Nat} {frN : AFrame} {hN : AHeap} {t : Tmp} : ∀ (rest : List Nat) {fr : AFrame} {h : AHeap} {rds : List (Nat × Option AV)}, runPlan E T nt ops.toList bef rest fr h rds = some (frN, hN) →
    (∀ i ∈ rest, dstAt ops i ≠ some t) → frN.get t = fr.get t
  | [], fr, h, rds, hr, _ => by simp only [runPlan, Option.some.injEq, Prod.mk.injEq] at hr; rw [hr.1]
  | i :: rest, fr, h, rds, hr, hd => by
    obtain ⟨o, fr', h', rds', ho, hs, hr'⟩ := runPlan_cons hr
    obtain ⟨v, hp⟩ := hs.frame
    rw [runPlan_keeps rest hr' fun j hj => hd j (List.mem_cons_of_mem _ hj)]
    refine putT_ne hp fun e => hd i List.mem_cons_self ?_
    simp [dstAt, ho, e]

/-- The operands of an operation, as they are in whatever order. -/
noncomputable def rhoOf (ops : Array Oper) (bef : List Nat) (fr0 frN : AFrame) (i : Nat) (o : Oper) : Operand → Option AV
  | .tmp t => if t ∈ o.looksAt ops then (if ∃ k, Bef bef i k ∧ dstAt ops k = some t then frN.get t else fr0.get t) else none
  | x => aev .leaf x

/-- An operation that the plan's run has behind it, but not the model. -/
inductive Ahead (P : Program) (T : Tab) (ops : Array Oper) (bef : List Nat) (fr0 frN : AFrame) (i : Nat) (o : Oper) (h : AHeap) (β : Inj) (rds : List (Nat × Option AV)) (id : Nat) : Prop
  | skip (hg : guardBy ops.toList (fun t => rhoOf ops bef fr0 frN i o (.tmp t)) o = some false) (hd : ∀ t, o.dst = some t → frN.get t = some (.tuple []))
  | pure {v} (hg : guardBy ops.toList (fun t => rhoOf ops bef fr0 frN i o (.tmp t)) o = some true) (hc : clsOf T o.op = .pure) (ha : ∀ h2, aop T (rhoOf ops bef fr0 frN i o) h2 o.op = some (.val v h2)) (hd : ∀ t, o.dst = some t → frN.get t = v)
  | read {v} (hg : guardBy ops.toList (fun t => rhoOf ops bef fr0 frN i o (.tmp t)) o = some true) (hc : clsOf T o.op = .read) (ha : aop T (rhoOf ops bef fr0 frN i o) h o.op = some (.val v h)) (hm : (i, v) ∈ rds) (hd : ∀ t, o.dst = some t → frN.get t = v)
  | alloc {x k} (hg : guardBy ops.toList (fun t => rhoOf ops bef fr0 frN i o (.tmp t)) o = some true) (hc : clsOf T o.op = .alloc) (ha : ∀ β (w : World) σ, RhoR β (rhoOf ops bef fr0 frN i o) σ → ∃ S : Sem Value, execOp σ o = (do pure (.value (← S))) ∧ AllocSim P β w S x k)
      (hlt : id < h.next) (hb : β id = none) (hx : h.get id = some x) (hd : ∀ t, o.dst = some t → frN.get t = some (k id))

/-- Between two operations of the model's order X. -/
structure DInv (P : Program) (T : Tab) (E : Env) (nt : Nat) (ops : Array Oper) (order bef : List Nat) (w0 : World) (β0 : Inj) (fr0 : AFrame) (h0 : AHeap) (a0 : Act) (frN : AFrame) (hN : AHeap)
    (X : Array Bool) (done rest : List Nat) (fr : AFrame) (h : AHeap) (rds : List (Nat × Option AV)) (ids : Nat → Nat) (β : Inj) (a : Act) (w : World) : Prop where
  split : order = done ++ rest
  run : runPlan E T nt ops.toList bef rest fr h rds = some (frN, hN)
  xs : X.size = ops.size
  closed : ∀ i, X.getD i false = true → ∀ k, Bef bef i k → X.getD k false = true
  sub : ∀ i, X.getD i false = true → i ∈ done
  effs : ∀ i ∈ done, ∀ o, ops[i]? = some o → isEff T o = true → X.getD i false = true
  wr : WR w0 β h w
  size : a.tmps.size = nt
  defers : a.defers = a0.defers
  goes : Goes β0 h0 β h
  t1 : ∀ t, (∃ i, X.getD i false = true ∧ dstAt ops i = some t) → ∀ v, frN.get t = some v → ∃ V, a.tmps[t]? = some V ∧ VR β v V
  t2 : ∀ t, (¬ ∃ i, X.getD i false = true ∧ dstAt ops i = some t) → ∀ v, fr0.get t = some v → ∃ V, a.tmps[t]? = some V ∧ VR β v V
  f1 : ∀ t, (∃ k ∈ done, dstAt ops k = some t) → fr.get t = frN.get t
  f2 : ∀ t, (¬ ∃ k ∈ done, dstAt ops k = some t) → fr.get t = fr0.get t
  ahead : ∀ i ∈ done, X.getD i false = false → ∃ o, ops[i]? = some o ∧ Ahead P T ops bef fr0 frN i o h β rds (ids i)
  idlt : ∀ i ∈ done, ∀ o, ops[i]? = some o → clsOf T o.op = .alloc → guardBy ops.toList (fun t => rhoOf ops bef fr0 frN i o (.tmp t)) o = some true → h0.next ≤ ids i ∧ ids i < h.next
  idinj : ∀ i ∈ done, ∀ j ∈ done, ∀ o p, ops[i]? = some o → ops[j]? = some p → clsOf T o.op = .alloc → clsOf T p.op = .alloc → guardBy ops.toList (fun t => rhoOf ops bef fr0 frN i o (.tmp t)) o = some true →
    guardBy ops.toList (fun t => rhoOf ops bef fr0 frN j p (.tmp t)) p = some true → ids i = ids j → i = j

section inv
variable {nt : Nat} {ops : Array Oper} {order bef : List Nat} {w0 : World} {β0 : Inj} {fr0 : AFrame} {h0 : AHeap} {a0 : Act} {frN : AFrame} {hN : AHeap}
  {X : Array Bool} {done rest : List Nat} {fr : AFrame} {h : AHeap} {rds : List (Nat × Option AV)} {ids : Nat → Nat} {β : Inj} {a : Act} {w : World}

theorem Bef.mem (hp : PlanOK T ops order bef) {i k : Nat} (hi : i < ops.size) (hb : Bef bef i k) : k < ops.size := by
  obtain ⟨pre, suf, e⟩ := List.append_of_mem (hp.all i hi)
  have hk := (hp.ord pre i suf e).2.2.1 k hb
  obtain ⟨p1, p2, e2⟩ := List.append_of_mem hk
  exact (hp.ord p1 k (p2 ++ i :: suf) (by rw [e, e2]; simp)).1

/-- The plan's frame has the operands of its next operation. -/
theorem DInv.head (hp : PlanOK T ops order bef) {i : Nat} (I : DInv P T E nt ops order bef w0 β0 fr0 h0 a0 frN hN X done (i :: rest) fr h rds ids β a w) {o : Oper} (ho : ops[i]? = some o) :
    ∀ t ∈ o.looksAt ops, fr.get t = rhoOf ops bef fr0 frN i o (.tmp t) := by
  intro t ht
  obtain ⟨h1, h2, h3, h4⟩ := hp.ord done i rest I.split
  simp only [rhoOf, ht, if_true]
  by_cases hk : ∃ k, Bef bef i k ∧ dstAt ops k = some t
  · rw [if_pos hk]
    obtain ⟨k, hb, hd⟩ := hk
    exact I.f1 t ⟨k, h3 k hb, hd⟩
  · rw [if_neg hk]
    refine I.f2 t fun ⟨k, hkd, hd⟩ => ?_
    have hne : i ≠ k := fun e => h2 (e ▸ hkd)
    unfold dstAt at hd
    cases hpk : ops[k]? with
    | none => rw [hpk] at hd; cases hd
    | some p =>
      rw [hpk] at hd
      rcases (hp.pair i k o p t hne ho hpk hd).1 ht with hh | hh
      · exact hk ⟨k, hh, by unfold dstAt; rw [hpk]; exact hd⟩
      · obtain ⟨p1, p2, e2⟩ := List.append_of_mem hkd
        have := (hp.ord p1 k (p2 ++ i :: rest) (by rw [I.split, e2]; simp)).2.2.1 i hh
        exact h2 (by rw [e2]; simp [this])

/-- The model's frame has the operands of whatever comes up. -/
theorem DInv.rho (hp : PlanOK T ops order bef) (I : DInv P T E nt ops order bef w0 β0 fr0 h0 a0 frN hN X done rest fr h rds ids β a w) {i : Nat} {o : Oper} (ho : ops[i]? = some o) (hX : X.getD i false = false)
    (hb : ∀ k, Bef bef i k → X.getD k false = true) : RhoR β (rhoOf ops bef fr0 frN i o) a.eval := by
  intro x v hx
  cases x with
  | tmp t =>
    simp only [rhoOf] at hx
    split at hx
    · rename_i ht
      have fin : (∃ V, a.tmps[t]? = some V ∧ VR β v V) → VR β v (a.eval (.tmp t)) := fun ⟨V, e1, e2⟩ => by
        have : a.eval (.tmp t) = V := by simp [Act.eval, Array.getD_eq_getD_getElem?, e1]
        rw [this]; exact e2
      split at hx
      · rename_i hk
        obtain ⟨k, hbk, hd⟩ := hk
        exact fin (I.t1 t ⟨k, hb k hbk, hd⟩ v hx)
      · rename_i hk
        refine fin (I.t2 t (fun ⟨k, hkX, hd⟩ => ?_) v hx)
        have hne : i ≠ k := fun e => by subst e; rw [hX] at hkX; cases hkX
        have hd' := hd
        unfold dstAt at hd
        cases hpk : ops[k]? with
        | none => rw [hpk] at hd; cases hd
        | some p =>
          rw [hpk] at hd
          rcases (hp.pair i k o p t hne ho hpk hd).1 ht with hh | hh
          · exact hk ⟨k, hh, hd'⟩
          · have := I.closed k hkX i hh
            rw [hX] at this; cases this
    · cases hx
  | const V => exact absConst2_sim hx
  | global g => cases hx
  | func f => simp only [rhoOf, aev, Option.some.injEq] at hx; subst hx; simp only [VR]; exact ⟨[], [], VRL.nil, VRL.nil, rfl⟩

theorem rho_aev {i : Nat} {o : Oper} (hl : ∀ t ∈ o.looksAt ops, fr.get t = rhoOf ops bef fr0 frN i o (.tmp t)) : ∀ x ∈ o.op.operands, aev fr x = rhoOf ops bef fr0 frN i o x := by
  intro x hx
  cases x with
  | tmp t => exact hl t (by unfold Oper.looksAt; rw [List.mem_append]; exact .inl (by rw [List.mem_filterMap]; exact ⟨.tmp t, by simpa using hx, rfl⟩))
  | const V => rfl
  | global g => rfl
  | func f => rfl

theorem rho_guard {i : Nat} {o : Oper} (hl : ∀ t ∈ o.looksAt ops, fr.get t = rhoOf ops bef fr0 frN i o (.tmp t)) : guardOf ops.toList fr o = guardBy ops.toList (fun t => rhoOf ops bef fr0 frN i o (.tmp t)) o := by
  unfold guardOf guardBy
  cases hg : o.guard with
  | none => rfl
  | some jw =>
    obtain ⟨j, want⟩ := jw
    simp only
    cases hj : ops.toList[j]? with
    | none => rfl
    | some oj =>
      simp only
      cases hd : oj.dst with
      | none => rfl
      | some t =>
        simp only
        have : t ∈ o.looksAt ops := by
          unfold Oper.looksAt
          rw [List.mem_append]
          right
          rw [hg]
          have hj' : ops[j]? = some oj := by simpa using hj
          simp [hj', hd]
        rw [hl t this]
end inv
end
end Go.Am
