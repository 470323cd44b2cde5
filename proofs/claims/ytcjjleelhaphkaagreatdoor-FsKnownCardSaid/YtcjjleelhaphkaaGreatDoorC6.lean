/-
  A region that draws its order: the walk.
-/
import Derived.Test.YtcjjleelhaphkaaGreatDoorC5
set_option linter.unusedVariables false
set_option linter.unusedSimpArgs false
namespace Go.Am
open Classical

section
variable {P : Program} {T : Tab} {E : Env}
variable {nt : Nat} {ops : Array Oper} {order bef : List Nat} {w0 : World} {β0 : Inj} {fr0 : AFrame} {h0 : AHeap} {a0 : Act} {frN : AFrame} {hN : AHeap}
  {X : Array Bool} {done rest : List Nat} {fr : AFrame} {h : AHeap} {rds : List (Nat × Option AV)} {ids : Nat → Nat} {β : Inj} {a : Act} {w : World}

theorem runPlan_dst : ∀ (rest : List Nat) {fr : AFrame} {h : AHeap} {rds : List (Nat × Option AV)}, runPlan E T nt ops.toList bef rest fr h rds = some (frN, hN) → ∀ i ∈ rest, ∀ t, dstAt ops i = some t → t < nt
  | [], _, _, _, _, i, hi, _, _ => by cases hi
  | j :: rest, fr, h, rds, hr, i, hi, t, ht => by
    obtain ⟨o, fr', h', rds', ho, hs, hr'⟩ := runPlan_cons hr
    rcases List.mem_cons.1 hi with rfl | hi
    · obtain ⟨v, hp⟩ := hs.frame
      exact (putT_eq hp (by simpa [dstAt, ho] using ht)).2
    · exact runPlan_dst rest hr' i hi t ht

theorem again_spec {ops : List Oper} {mask : Nat} : ∀ {rds : List (Nat × Option AV)}, again T ops fr h mask rds = true → ∀ i v, (i, v) ∈ rds → ¬ Nat.testBit mask i = true → ∃ o x h', ops[i]? = some o ∧ aop T (aev fr) h o.op = some (.val (some x) h') ∧ v = some x
  | [], _, _, _, hm, _ => by cases hm
  | (j, u) :: rds, ha, i, v, hm, hn => by
    simp only [again, Bool.and_eq_true] at ha
    rcases List.mem_cons.1 hm with e | hm
    · cases e
      have h1 := ha.1
      cases hb : Nat.testBit mask j with
      | true => exact absurd hb hn
      | false =>
        rw [hb] at h1
        simp only [cond_false] at h1
        split at h1
        · rename_i o ho
          split at h1
          · rename_i x hp y heq
            rw [AV.eq_of_beq h1] at heq
            exact ⟨o, y, hp, ho, heq, rfl⟩
          · cases h1
        · cases h1
    · exact again_spec ha.2 i v hm hn

/-- The model's frame has the temporaries that whatever comes up looks at. -/
theorem DInv.rhoT (hp : PlanOK T ops order bef) (I : DInv P T E nt ops order bef w0 β0 fr0 h0 a0 frN hN X done rest fr h rds ids β a w) {i : Nat} {o : Oper} (ho : ops[i]? = some o) (hX : X.getD i false = false)
    (hb : ∀ k, Bef bef i k → X.getD k false = true) : ∀ t v, rhoOf ops bef fr0 frN i o (.tmp t) = some v → ∃ V, a.tmps[t]? = some V ∧ VR β v V := by
  intro t v hx
  simp only [rhoOf] at hx
  split at hx
  · rename_i ht
    split at hx
    · rename_i hk
      obtain ⟨k, hbk, hd⟩ := hk
      exact I.t1 t ⟨k, hb k hbk, hd⟩ v hx
    · rename_i hk
      refine I.t2 t (fun ⟨k, hkX, hd⟩ => ?_) v hx
      have hne : i ≠ k := fun e => by subst e; rw [hX] at hkX; cases hkX
      have hd' := hd
      unfold dstAt at hd
      cases hpk : ops[k]? with
      | none => rw [hpk] at hd; cases hd
      | some p =>
        rw [hpk] at hd
        rcases (hp.pair i k o p t hne ho hpk hd).1 ht with hh | hh
        · exact hk ⟨k, hh, hd'⟩
        · have := I.closed k hkX i hh
          rw [hX] at this; cases this
  · cases hx

theorem getD_set {X : Array Bool} {i : Nat} (hi : i < X.size) (j : Nat) : (X.setIfInBounds i true).getD j false = true ↔ j = i ∨ X.getD j false = true := by
  simp only [Array.getD_eq_getD_getElem?, Array.getElem?_setIfInBounds]
  by_cases e : i = j
  · subst e; simp [hi]
  · simp only [e, if_false]
    exact ⟨.inr, fun h => h.elim (fun h => absurd h.symm e) id⟩

/-- An operation is marked, its value put. -/
theorem put_tmps {v : Option AV} {V : Value} {o : Oper} (hsz : a.tmps.size = nt) (hd : ∀ t, o.dst = some t → t < nt) (t : Tmp) : (a.put o.dst V).tmps[t]? = if o.dst = some t then some V else a.tmps[t]? := by
  cases hdst : o.dst with
  | none => simp [Act.put]
  | some d =>
    simp only [Act.put, Option.some.injEq, Array.getElem?_setIfInBounds]
    by_cases e : d = t
    · subst e
      have hd' : d < a.tmps.size := by rw [hsz]; exact hd d hdst
      simp [hd']
    · simp [e]

/-- The marks and temporaries behind an operation. -/
theorem DInv.put (hp : PlanOK T ops order bef) (I : DInv P T E nt ops order bef w0 β0 fr0 h0 a0 frN hN X done rest fr h rds ids β a w) {i : Nat} {o : Oper} (ho : ops[i]? = some o) (hlt : i < ops.size)
    (hdst : ∀ t, o.dst = some t → t < nt) {β' : Inj} (hle : β.le β') {V : Value} (hV : ∀ t, o.dst = some t → ∀ v, frN.get t = some v → VR β' v V) :
    (∀ t, (∃ j, (X.setIfInBounds i true).getD j false = true ∧ dstAt ops j = some t) → ∀ v, frN.get t = some v → ∃ W, (a.put o.dst V).tmps[t]? = some W ∧ VR β' v W) ∧
      (∀ t, (¬ ∃ j, (X.setIfInBounds i true).getD j false = true ∧ dstAt ops j = some t) → ∀ v, fr0.get t = some v → ∃ W, (a.put o.dst V).tmps[t]? = some W ∧ VR β' v W) := by
  have hiX : i < X.size := by rw [I.xs]; exact hlt
  have hd : ∀ t, o.dst = some t ↔ dstAt ops i = some t := fun t => by simp [dstAt, ho]
  refine ⟨fun t ⟨j, hj, hjt⟩ v hv => ?_, fun t hn v hv => ?_⟩
  · rw [put_tmps (v := none) I.size hdst]
    by_cases ht : o.dst = some t
    · rw [if_pos ht]; exact ⟨V, rfl, hV t ht v hv⟩
    · rw [if_neg ht]
      rw [getD_set hiX] at hj
      rcases hj with rfl | hj
      · exact absurd ((hd t).2 hjt) ht
      · obtain ⟨W, e1, e2⟩ := I.t1 t ⟨j, hj, hjt⟩ v hv
        exact ⟨W, e1, e2.mono hle⟩
  · have ht : o.dst ≠ some t := fun e => hn ⟨i, (getD_set hiX i).2 (.inl rfl), (hd t).1 e⟩
    rw [put_tmps (v := none) I.size hdst, if_neg ht]
    obtain ⟨W, e1, e2⟩ := I.t2 t (fun ⟨j, hj, hjt⟩ => hn ⟨j, (getD_set hiX j).2 (.inr hj), hjt⟩) v hv
    exact ⟨W, e1, e2.mono hle⟩

/-- Behind an operation that the plan's run had already. -/
theorem DInv.mark (hp : PlanOK T ops order bef) (I : DInv P T E nt ops order bef w0 β0 fr0 h0 a0 frN hN X done rest fr h rds ids β a w) {i : Nat} {o : Oper} (ho : ops[i]? = some o) (hlt : i < ops.size) (hdone : i ∈ done)
    (hb : ∀ k, Bef bef i k → X.getD k false = true) (hdst : ∀ t, o.dst = some t → t < nt) {β' : Inj} {w' : World} (hwr : WR w0 β' h w') (hle : β.le β') (hold : ∀ o, o < h0.next → β' o = β0 o)
    (hal : ∀ j ∈ done, j ≠ i → ∀ p, ops[j]? = some p → clsOf T p.op = .alloc → guardBy ops.toList (fun t => rhoOf ops bef fr0 frN j p (.tmp t)) p = some true → β (ids j) = none → β' (ids j) = none)
    {V : Value} (hV : ∀ t, o.dst = some t → ∀ v, frN.get t = some v → VR β' v V) :
    DInv P T E nt ops order bef w0 β0 fr0 h0 a0 frN hN (X.setIfInBounds i true) done rest fr h rds ids β' (a.put o.dst V) w' := by
  have hiX : i < X.size := by rw [I.xs]; exact hlt
  obtain ⟨T1, T2⟩ := I.put hp ho hlt hdst hle hV
  refine ⟨I.split, I.run, by simp [I.xs], fun j hj k hk => ?_, fun j hj => ?_, fun j hj p hpj hpe => (getD_set hiX j).2 (.inr (I.effs j hj p hpj hpe)), hwr, by rw [size_put]; exact I.size, by rw [defers_put]; exact I.defers, ⟨hold, I.goes.next, I.goes.free⟩, T1, T2, I.f1, I.f2,
    fun j hj hXj => ?_, I.idlt, I.idinj⟩
  · rw [getD_set hiX] at hj ⊢
    rcases hj with rfl | hj
    · exact .inr (hb k hk)
    · exact .inr (I.closed j hj k hk)
  · rw [getD_set hiX] at hj
    rcases hj with rfl | hj
    · exact hdone
    · exact I.sub j hj
  · have hn : ¬ (j = i ∨ X.getD j false = true) := fun e => by rw [(getD_set hiX j).2 e] at hXj; cases hXj
    have hXj' : X.getD j false = false := by
      cases e : X.getD j false with
      | false => rfl
      | true => exact absurd (.inr e) hn
    obtain ⟨p, hpj, A⟩ := I.ahead j hj hXj'
    refine ⟨p, hpj, ?_⟩
    cases A with
    | skip a1 a2 => exact .skip a1 a2
    | pure a1 a2 a3 a4 => exact .pure a1 a2 a3 a4
    | read a1 a2 a3 a4 a5 => exact .read a1 a2 a3 a4 a5
    | alloc a1 a2 a3 a4 a5 a6 a7 => exact .alloc a1 a2 a3 a4 (hal j hj (fun e => hn (.inl e)) p hpj a2 a1 a5) a6 a7

/-- Between two of the model's operations, the plan's run as far as it goes. -/
def DGood (P : Program) (T : Tab) (E : Env) (nt : Nat) (ops : Array Oper) (order bef : List Nat) (w0 : World) (β0 : Inj) (fr0 : AFrame) (h0 : AHeap) (a0 : Act) (frN : AFrame) (hN : AHeap) (X : Array Bool) (a : Act) (w : World) : Prop :=
  ∃ done rest fr h rds ids β, DInv P T E nt ops order bef w0 β0 fr0 h0 a0 frN hN X done rest fr h rds ids β a w ∧ ∀ i r, rest = i :: r → ∀ o, ops[i]? = some o → isEff T o = true

theorem DInv.good (hp : PlanOK T ops order bef) (hT : TabOK P T) (I : DInv P T E nt ops order bef w0 β0 fr0 h0 a0 frN hN X done rest fr h rds ids β a w) : DGood P T E nt ops order bef w0 β0 fr0 h0 a0 frN hN X a w := by
  obtain ⟨done', rest', fr', h', rds', ids', I', he⟩ := I.advanceAll hp hT rest
  exact ⟨done', rest', fr', h', rds', ids', β, I', he⟩

theorem DGood.step (hp : PlanOK T ops order bef) (hT : TabOK P T) (hE : EnvOK P E) (hdst : ∀ i ∈ order, ∀ t, dstAt ops i = some t → t < nt) (G : DGood P T E nt ops order bef w0 β0 fr0 h0 a0 frN hN X a w) {i : Nat} (hi : i ∈ Region.ready .any ops X) {rd : Option Nat} {Q : Exit → Act → World → Prop} :
    wpOpIn (FW rd) 0 P ops Q i (fun a' w' => DGood P T E nt ops order bef w0 β0 fr0 h0 a0 frN hN (X.setIfInBounds i true) a' w') a w := by
  obtain ⟨done, rest, fr, h, rds, ids, β, I, hhead⟩ := G
  obtain ⟨hX0, o, ho, hedges⟩ := mem_ready.1 hi
  have hlt : i < ops.size := by
    rcases Nat.lt_or_ge i ops.size with hh | hh
    · exact hh
    · rw [Array.getElem?_eq_none hh] at ho; cases ho
  have hiX : i < X.size := by rw [I.xs]; exact hlt
  have hX : X.getD i false = false := by
    rw [Array.getD_eq_getD_getElem?, Array.getElem?_eq_getElem hiX] at hX0 ⊢
    exact hX0
  have hb : ∀ k, Bef bef i k → X.getD k false = true := fun k hk => by
    obtain ⟨e, he, hbe, hk⟩ := hp.clos i o k ho hk
    rcases hk with rfl | hk
    · exact hedges e he hbe
    · exact I.closed _ (hedges e he hbe) k hk
  have hdo : ∀ t, o.dst = some t → t < nt := fun t ht => hdst i (hp.all i hlt) t (by simp [dstAt, ho, ht])
  have hrho := I.rho hp ho hX hb
  have hrT := I.rhoT hp ho hX hb
  unfold wpOpIn
  rw [ho]
  simp only
  by_cases hdone : i ∈ done
  · -- the plan's run had it
    obtain ⟨o', ho', A⟩ := I.ahead i hdone hX
    rw [ho] at ho'; cases ho'
    have fin : ∀ {β' : Inj} {w' : World} {V : Value}, WR w0 β' h w' → β.le β' → (∀ o, o < h.next → o ≠ ids i → β' o = β o) → (β' (ids i) = β (ids i) ∨ (clsOf T o.op = .alloc ∧ guardBy ops.toList (fun t => rhoOf ops bef fr0 frN i o (.tmp t)) o = some true)) →
        (∀ t, o.dst = some t → ∀ v, frN.get t = some v → VR β' v V) → DGood P T E nt ops order bef w0 β0 fr0 h0 a0 frN hN (X.setIfInBounds i true) (a.put o.dst V) w' := by
      intro β' w' V hwr hle hoth hown hV
      refine (I.mark hp ho hlt hdone hb hdo hwr hle (fun j hj => ?_) (fun j hj hji p hpj hc hg hbn => ?_) hV).good hp hT
      · have hjn := Nat.lt_of_lt_of_le hj I.goes.next
        by_cases hji : j = ids i
        · rcases hown with hown | ⟨hc, hg⟩
          · rw [hji, hown, ← hji]; exact I.goes.old j hj
          · have := (I.idlt i hdone o ho hc hg).1
            omega
        · rw [hoth j hjn hji]; exact I.goes.old j hj
      · have hjlt := (I.idlt j hj p hpj hc hg).2
        by_cases hid : ids j = ids i
        · rcases hown with hown | ⟨hc', hg'⟩
          · rw [hid, hown, ← hid]; exact hbn
          · exact absurd (I.idinj j hj i hdone p o hpj ho hc hc' hg hg' hid) hji
        · rw [hoth _ hjlt hid]; exact hbn
    cases A with
    | skip hg hd =>
      rw [guardBy_sim hrT hg, if_neg (by simp)]
      exact ⟨fun _ _ => trivial, fin I.wr (Inj.le_refl _) (fun _ _ _ => rfl) (.inl rfl) fun t ht v hv => by rw [hd t ht] at hv; cases hv; simp only [VR]; exact ⟨[], VRL.nil, rfl⟩⟩
    | @pure v hg hc ha hd =>
      rw [guardBy_sim hrT hg, if_pos rfl]
      refine op_wp hT hE I.wr hrho (v := v) (h' := h) (by simp [opRes, ha h]) fun β' V w' q1 q2 q3 => fin q2 (I.wr.le q3) (fun j hj _ => q3.old j hj) ?_ fun t ht x hx => q1 x (by rw [← hd t ht]; exact hx)
      by_cases hid : ids i < h.next
      · exact .inl (q3.old _ hid)
      · left
        have n1 : β (ids i) = none := by
          cases e : β (ids i) with
          | none => rfl
          | some M => exact absurd (I.wr.dom _ _ e) hid
        have n2 : β' (ids i) = none := by
          cases e : β' (ids i) with
          | none => rfl
          | some M => exact absurd (q2.dom _ _ e) hid
        rw [n1, n2]
    | @read v hg hc ha hm hd =>
      rw [guardBy_sim hrT hg, if_pos rfl]
      refine op_wp hT hE I.wr hrho (v := v) (h' := h) (by simp [opRes, ha]) fun β' V w' q1 q2 q3 => fin q2 (I.wr.le q3) (fun j hj _ => q3.old j hj) ?_ fun t ht x hx => q1 x (by rw [← hd t ht]; exact hx)
      by_cases hid : ids i < h.next
      · exact .inl (q3.old _ hid)
      · left
        have n1 : β (ids i) = none := by
          cases e : β (ids i) with
          | none => rfl
          | some M => exact absurd (I.wr.dom _ _ e) hid
        have n2 : β' (ids i) = none := by
          cases e : β' (ids i) with
          | none => rfl
          | some M => exact absurd (q2.dom _ _ e) hid
        rw [n1, n2]
    | @alloc x k hg hc ha hlt' hbn hx hd =>
      rw [guardBy_sim hrT hg, if_pos rfl]
      obtain ⟨S, hS, ob, V, n, r1, r2⟩ := ha β w a.eval hrho
      have hnd : ∀ c, o.op ≠ .defer c := fun c e => by rw [e] at hc; cases hc
      refine ⟨fun _ _ => trivial, ?_⟩
      rw [Oper.semAt_eq _ _ _ hnd, hS]
      have hrun : (do pure (.value (← S)) : Sem Next).run P w = .ok (.value V) (w.alloc ob) := by simp [r1]
      rw [hrun]
      have hle : β.le (β.with (ids i) ⟨w.heap.size, 0, n⟩) := fun j M e => by
        by_cases hj : j = ids i
        · subst hj; rw [hbn] at e; cases e
        · rw [Inj.with_ne _ _ hj]; exact e
      obtain ⟨s1, s2⟩ := r2 _ (ids i) hle (Inj.with_self _ _ _)
      have hwr := I.wr.birth (L := ⟨w.heap.size, 0, n⟩) hx hbn rfl (s2 _ I.wr.below.size)
      exact fin hwr hle (fun j _ hj => Inj.with_ne _ _ hj) (.inr ⟨hc, hg⟩) fun t ht v hv => by
        rw [hd t ht] at hv; cases hv; exact s1
  · -- it is the plan's next one
    have hmem : i ∈ rest := by
      have := hp.all i hlt
      rw [I.split] at this
      rcases List.mem_append.1 this with hh | hh
      · exact absurd hh hdone
      · exact hh
    obtain ⟨e, r, rfl⟩ : ∃ e r, rest = e :: r := by
      cases rest with
      | nil => cases hmem
      | cons e r => exact ⟨e, r, rfl⟩
    obtain ⟨helt, hend, _, _⟩ := hp.ord done e r I.split
    have hoe : ops[e]? = some ops[e] := Array.getElem?_eq_getElem helt
    have hee := hhead e r rfl _ hoe
    have hie : i = e := by
      apply Classical.byContradiction
      intro hne
      have hir : i ∈ r := by
        rcases List.mem_cons.1 hmem with hh | hh
        · exact absurd hh hne
        · exact hh
      obtain ⟨p1, p2, ep⟩ := List.append_of_mem hir
      have := (hp.ord (done ++ e :: p1) i p2 (by rw [I.split, ep]; simp)).2.2.2 e (by simp) _ hoe hee
      exact hend (I.sub e (hb e this))
    subst hie
    rw [ho] at hoe
    have hoeq : o = ops[i] := Option.some.inj hoe
    rw [← hoeq] at hee
    obtain ⟨o', fr', h', rds', ho', hs, hrun⟩ := runPlan_cons I.run
    rw [ho] at ho'; cases ho'
    have hl := I.head hp ho
    obtain ⟨v0, hput⟩ := hs.frame
    obtain ⟨F1, F2, F3⟩ := I.frames hp ho hput hrun
    -- behind it
    have fin : rds' = rds → ∀ {β' : Inj} {w' : World} {V : Value}, WR w0 β' h' w' → Goes β h β' h' → (∀ j p v, j ∈ done → X.getD j false = false → ops[j]? = some p → clsOf T p.op = .read → (j, v) ∈ rds → aop T (rhoOf ops bef fr0 frN j p) h p.op = some (.val v h) → aop T (rhoOf ops bef fr0 frN j p) h' p.op = some (.val v h')) →
        (∀ t, o.dst = some t → ∀ v, frN.get t = some v → VR β' v V) → DGood P T E nt ops order bef w0 β0 fr0 h0 a0 frN hN (X.setIfInBounds i true) (a.put o.dst V) w' := by
      intro hrds β' w' V hwr hg hrd hV
      subst hrds
      obtain ⟨T1, T2⟩ := I.put hp ho hlt hdo (I.wr.le hg) hV
      have J : DInv P T E nt ops order bef w0 β0 fr0 h0 a0 frN hN (X.setIfInBounds i true) (done ++ [i]) r fr' h' rds' ids β' (a.put o.dst V) w' := by
        refine ⟨by rw [I.split]; simp, hrun, by simp [I.xs], fun j hj k hk => ?_, fun j hj => ?_, fun j hj p hpj hpe => ?_, hwr, by rw [size_put]; exact I.size, by rw [defers_put]; exact I.defers, I.goes.trans hg, T1, T2, F1, F2, fun j hj hXj => ?_, fun j hj p hpj hc hgu => ?_,
          fun j hj k hk p q hpj hqk hcp hcq hgp hgq hid => ?_⟩
        · rw [getD_set hiX] at hj ⊢
          rcases hj with rfl | hj
          · exact .inr (hb k hk)
          · exact .inr (I.closed j hj k hk)
        · rw [getD_set hiX] at hj
          rcases hj with rfl | hj
          · simp
          · exact List.mem_append_left _ (I.sub j hj)
        · rw [getD_set hiX]
          rcases List.mem_append.1 hj with hj | hj
          · exact .inr (I.effs j hj p hpj hpe)
          · exact .inl (by simpa using hj)
        · have hn : ¬ (j = i ∨ X.getD j false = true) := fun e => by rw [(getD_set hiX j).2 e] at hXj; cases hXj
          have hXj' : X.getD j false = false := by
            cases e : X.getD j false with
            | false => rfl
            | true => exact absurd (.inr e) hn
          rcases List.mem_append.1 hj with hj | hj
          · obtain ⟨p, hpj, A⟩ := I.ahead j hj hXj'
            exact ⟨p, hpj, A.mono (fun v hc hm hv => hrd j p v hj hXj' hpj hc hm hv) (fun _ hx => hx) hg.next (fun _ hlt' hbn => by rw [hg.old _ hlt']; exact hbn) (fun x hlt' hbn hx => by rw [hg.free _ hlt' hbn]; exact hx)⟩
          · exact absurd (.inl (by simpa using hj)) hn
        · rcases List.mem_append.1 hj with hj | hj
          · have := I.idlt j hj p hpj hc hgu
            exact ⟨this.1, Nat.lt_of_lt_of_le this.2 hg.next⟩
          · simp only [List.mem_singleton] at hj
            subst hj
            rw [ho] at hpj; cases hpj
            simp [isEff, hc] at hee
        · have hja : j ∈ done := by
            rcases List.mem_append.1 hj with hj | hj
            · exact hj
            · simp only [List.mem_singleton] at hj
              subst hj
              rw [ho] at hpj; cases hpj
              simp [isEff, hcp] at hee
          have hka : k ∈ done := by
            rcases List.mem_append.1 hk with hk | hk
            · exact hk
            · simp only [List.mem_singleton] at hk
              subst hk
              rw [ho] at hqk; cases hqk
              simp [isEff, hcq] at hee
          exact I.idinj j hja k hka p q hpj hqk hcp hcq hgp hgq hid
      exact J.good hp hT
    cases hs with
    | skip hg hpp =>
      rw [guardBy_sim hrT (by rw [← rho_guard hl]; exact hg), if_neg (by simp)]
      refine ⟨fun _ _ => trivial, fin rfl I.wr (Goes.refl _ _) (fun _ _ _ _ _ _ _ _ hv => hv) fun t ht v hv => ?_⟩
      have e1 := (putT_eq hput ht).1
      rw [(putT_eq hpp ht).1] at e1
      rw [F3 t ht, ← e1] at hv
      cases hv
      simp only [VR]; exact ⟨[], VRL.nil, rfl⟩
    | quiet hg hc ha hpp =>
      rcases hc with hc | hc <;> simp [isEff, hc] at hee
    | read hg hc ha hpp => simp [isEff, hc] at hee
    | eff hg hc hgo hag =>
      rw [guardBy_sim hrT (by rw [← rho_guard hl]; exact hg), if_pos rfl]
      obtain ⟨v, hv, hpv⟩ := opGo_eq hgo
      have hres : opRes E T (rhoOf ops bef fr0 frN i o) o h = some (v, h') := by
        unfold opRes at hv ⊢
        rw [aop_congr_rho hl] at hv
        exact hv
      refine op_wp hT hE I.wr hrho hres fun β' V w' q1 q2 q3 => fin rfl q2 q3 (fun j p u hj hXj hpj hc hm hu => ?_) fun t ht x hx => q1 x ?_
      · have hnb : ¬ Nat.testBit (bef.getD i 0) j = true := fun hh => by
          have := hb j hh
          rw [hXj] at this; cases this
        obtain ⟨p', x, h2, hp', ha', rfl⟩ := again_spec hag j u hm hnb
        have hp'' : ops[j]? = some p' := by simpa using hp'
        rw [hpj] at hp''; cases hp''
        have hh := aop_read hc ha'
        subst hh
        rw [← ha']
        refine (aop_congr _ _ fun y hy => ?_).symm
        cases y with
        | tmp t =>
          have htl : t ∈ p.looksAt ops := by
            unfold Oper.looksAt; rw [List.mem_append]
            exact .inl (by rw [List.mem_filterMap]; exact ⟨.tmp t, by simpa using hy, rfl⟩)
          simp only [rhoOf, htl, if_true]
          show fr'.get t = _
          by_cases hk : ∃ k, dstAt ops k = some t
          · obtain ⟨k, hk⟩ := hk
            have hjo : ∃ q, ops[k]? = some q ∧ q.dst = some t := by
              unfold dstAt at hk
              cases hq : ops[k]? with
              | none => rw [hq] at hk; cases hk
              | some q => rw [hq] at hk; exact ⟨q, rfl, hk⟩
            obtain ⟨q, hq, hqt⟩ := hjo
            have hne : j ≠ k := fun e => by
              subst e
              rw [hpj] at hq; cases hq
              exact hp.self j p t hpj hqt (by simp [isRead, hc]) hy
            have hbk := (hp.pair j k p q t hne hpj hq hqt).2.2 (by simp [isRead, hc]) hy
            rw [if_pos ⟨k, hbk, hk⟩]
            obtain ⟨b1, b2, eb⟩ := List.append_of_mem hj
            have := (hp.ord b1 j (b2 ++ i :: r) (by rw [I.split, eb]; simp)).2.2.1 k hbk
            exact F1 t ⟨k, by rw [eb]; simp [this], hk⟩
          · rw [if_neg (fun ⟨k, _, h2⟩ => hk ⟨k, h2⟩)]
            exact F2 t fun ⟨k, _, h2⟩ => hk ⟨k, h2⟩
        | const V => rfl
        | global g => rfl
        | func f => rfl
      · have e1 := (putT_eq hput ht).1
        rw [(putT_eq hpv ht).1] at e1
        rw [e1, ← F3 t ht]; exact hx

theorem count_set : ∀ (X : Array Bool) (i : Nat), X.getD i true = false → (X.setIfInBounds i true).toList.count false + 1 = X.toList.count false := by
  rintro ⟨l⟩ i h
  simp only [Array.getD_eq_getD_getElem?, List.getElem?_toArray, List.setIfInBounds_toArray] at h ⊢
  induction l generalizing i with
  | nil => simp at h
  | cons b l ih =>
    cases i with
    | zero => simp at h; subst h; simp
    | succ i =>
      simp only [List.getElem?_cons_succ] at h
      have := ih i h
      simp only [List.set_cons_succ, List.count_cons]
      omega

/-- All of the plan's run is behind: every operation is listed. -/
theorem DGood.end (hp : PlanOK T ops order bef) (G : DGood P T E nt ops order bef w0 β0 fr0 h0 a0 frN hN X a w) (hr : Region.ready .any ops X = []) :
    ∃ β, SR w0 β nt frN hN a w ∧ Goes β0 h0 β hN ∧ a.defers = a0.defers := by
  obtain ⟨done, rest, fr, h, rds, ids, β, I, hhead⟩ := G
  have hall : ∀ i, i < ops.size → X.getD i false = true := by
    intro i
    induction i using Nat.strongRecOn with
    | _ i ih =>
      intro hi
      apply Classical.byContradiction
      intro hX
      have hX' : X.getD i false = false := by simpa using hX
      have : i ∈ Region.ready .any ops X := by
        rw [mem_ready]
        refine ⟨?_, ops[i], Array.getElem?_eq_getElem hi, fun e he hb => ih _ (hp.edge i _ (Array.getElem?_eq_getElem hi) e he hb).1 (Nat.lt_trans (hp.edge i _ (Array.getElem?_eq_getElem hi) e he hb).1 hi)⟩
        have : i < X.size := by rw [I.xs]; exact hi
        simp only [Array.getD_eq_getD_getElem?, Array.getElem?_eq_getElem this, Option.getD_some] at hX' ⊢
        exact hX'
      rw [hr] at this; cases this
  have hrest : rest = [] := by
    cases rest with
    | nil => rfl
    | cons i r =>
      obtain ⟨hlt, hni, _, _⟩ := hp.ord done i r I.split
      exact absurd (I.sub i (hall i hlt)) hni
  subst hrest
  have hrun := I.run
  simp only [runPlan, Option.some.injEq, Prod.mk.injEq] at hrun
  obtain ⟨rfl, rfl⟩ := hrun
  refine ⟨β, ⟨I.wr, fun t v hv => ?_, I.size⟩, I.goes, I.defers⟩
  by_cases ht : ∃ j, X.getD j false = true ∧ dstAt ops j = some t
  · exact I.t1 t ht v hv
  · refine I.t2 t ht v ?_
    have hnone : ∀ j ∈ done, dstAt ops j ≠ some t := fun j hj e => by
      obtain ⟨p1, p2, ep⟩ := List.append_of_mem hj
      exact ht ⟨j, hall j (hp.ord p1 j p2 (by rw [I.split, ep]; simp)).1, e⟩
    rw [← I.f2 t (fun ⟨j, hj, e⟩ => hnone j hj e)]
    exact hv

theorem draw_any (hp : PlanOK T ops order bef) (hT : TabOK P T) (hE : EnvOK P E) (hdst : ∀ i ∈ order, ∀ t, dstAt ops i = some t → t < nt) {rd : Option Nat} {Q : Exit → Act → World → Prop}
    (hQ : ∀ β a' w', SR w0 β nt frN hN a' w' → Goes β0 h0 β hN → a'.defers = a0.defers → Q .normal a' w') :
    ∀ (fuel : Nat) (X : Array Bool) (a : Act) (w : World), X.toList.count false ≤ fuel → DGood P T E nt ops order bef w0 β0 fr0 h0 a0 frN hN X a w → wpAnyIn (FW rd) 0 P .any ops Q fuel X a w
  | 0, X, a, w, hc, G => by
    have hr : Region.ready .any ops X = [] := by
      apply List.eq_nil_iff_forall_not_mem.2
      intro i hi
      obtain ⟨hX, _⟩ := mem_ready.1 hi
      have := count_set X i hX
      omega
    refine ⟨hr, ?_⟩
    obtain ⟨β, h1, h2, h3⟩ := G.end hp hr
    exact hQ β a w h1 h2 h3
  | fuel + 1, X, a, w, hc, G => by
    refine ⟨fun hr => ?_, fun i hi => ?_⟩
    · obtain ⟨β, h1, h2, h3⟩ := G.end hp hr
      exact hQ β a w h1 h2 h3
    · refine wpOpIn_mono (fun a' w' G' => ?_) (G.step hp hT hE hdst hi)
      refine draw_any hp hT hE hdst hQ fuel _ a' w' ?_ G'
      have := count_set X i (mem_ready.1 hi).1
      omega

theorem draw_wp (hT : TabOK P T) (hE : EnvOK P E) (hm : P.follows .mixedOrders = true) (hpl : planOk T ops.toList order bef = true) (hs : SR w0 β0 nt fr0 h0 a0 w) (hr : runPlan E T nt ops.toList bef order fr0 h0 [] = some (frN, hN))
    {id : Nat} {rd : Option Nat} {Q : Exit → Act → World → Prop} (hQ : ∀ β a' w', SR w0 β nt frN hN a' w' → Goes β0 h0 β hN → a'.defers = a0.defers → Q .normal a' w') :
    (Code.region id ops true).wpIn (FW rd) 0 P Q a0 w := by
  have hp := planOk_spec hpl
  refine wpIn_region_any hm ?_
  refine draw_any (fr0 := fr0) hp hT hE (runPlan_dst order hr) hQ ops.size _ a0 _ (by simp) ?_
  have I : DInv P T E nt ops order bef w0 β0 fr0 h0 a0 frN hN (Array.replicate ops.size false) [] order fr0 h0 [] (fun _ => 0) β0 a0 { w with drawn := w.drawn + 1 } := by
    have hX : ∀ j, (Array.replicate ops.size false).getD j false = true → False := fun j h => by
      simp only [Array.getD_eq_getD_getElem?, Array.getElem?_replicate] at h
      split at h <;> cases h
    exact {
      split := rfl, run := hr, xs := by simp, closed := fun j hj => (hX j hj).elim, sub := fun j hj => (hX j hj).elim
      effs := fun j hj => absurd hj (List.not_mem_nil), size := hs.size, defers := rfl, goes := Goes.refl _ _
      t1 := fun t hh => by obtain ⟨j, hj, _⟩ := hh; exact (hX j hj).elim
      t2 := fun t _ v hv => hs.fr t v hv
      f1 := fun t hh => by obtain ⟨j, hj, _⟩ := hh; exact absurd hj (List.not_mem_nil)
      f2 := fun t _ => rfl
      ahead := fun j hj => absurd hj (List.not_mem_nil), idlt := fun j hj => absurd hj (List.not_mem_nil), idinj := fun j hj => absurd hj (List.not_mem_nil)
      wr := ⟨⟨hs.wr.below.os, hs.wr.below.tape, hs.wr.below.output, hs.wr.below.size, hs.wr.below.block⟩, hs.wr.dom, hs.wr.wf, hs.wr.obj, hs.wr.inj⟩ }
  exact I.good hp hT
end
end Go.Am
