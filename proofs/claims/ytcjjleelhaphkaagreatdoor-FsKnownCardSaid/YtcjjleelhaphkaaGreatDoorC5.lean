/-
  A region that draws its order: the plan's run goes ahead; the model's order follows.
-/
import Derived.Test.YtcjjleelhaphkaaGreatDoorC4
set_option linter.unusedVariables false
set_option linter.unusedSimpArgs false
namespace Go.Am
open Classical

section
variable {P : Program} {T : Tab} {E : Env}
variable {nt : Nat} {ops : Array Oper} {order bef : List Nat} {w0 : World} {β0 : Inj} {fr0 : AFrame} {h0 : AHeap} {a0 : Act} {frN : AFrame} {hN : AHeap}
  {X : Array Bool} {done rest : List Nat} {fr : AFrame} {h : AHeap} {rds : List (Nat × Option AV)} {ids : Nat → Nat} {β : Inj} {a : Act} {w : World}

theorem dst_unique (hp : PlanOK T ops order bef) {i j : Nat} {t : Tmp} (hi : dstAt ops i = some t) (hj : dstAt ops j = some t) : i = j := by
  apply Classical.byContradiction
  intro hne
  unfold dstAt at hi hj
  cases ho : ops[i]? with
  | none => rw [ho] at hi; cases hi
  | some o =>
    cases hq : ops[j]? with
    | none => rw [hq] at hj; cases hj
    | some p =>
      rw [ho] at hi; rw [hq] at hj
      exact (hp.pair i j o p t hne ho hq hj).2.1 hi

theorem order_ne (hp : PlanOK T ops order bef) {i j : Nat} (hs : order = done ++ i :: rest) (hj : j ∈ rest) : j ≠ i := by
  obtain ⟨p1, p2, e⟩ := List.append_of_mem hj
  have := (hp.ord (done ++ i :: p1) j p2 (by rw [hs, e]; simp)).2.1
  intro he
  exact this (by rw [he]; simp)

theorem Ahead.mono {i : Nat} {o : Oper} {h' : AHeap} {β' : Inj} {rds' : List (Nat × Option AV)} {id : Nat} (A : Ahead P T ops bef fr0 frN i o h β rds id)
    (hread : ∀ v, clsOf T o.op = .read → (i, v) ∈ rds → aop T (rhoOf ops bef fr0 frN i o) h o.op = some (.val v h) → aop T (rhoOf ops bef fr0 frN i o) h' o.op = some (.val v h'))
    (hm : ∀ x, x ∈ rds → x ∈ rds') (hnx : h.next ≤ h'.next) (hb : clsOf T o.op = .alloc → id < h.next → β id = none → β' id = none) (hg : ∀ x, id < h.next → β id = none → h.get id = some x → h'.get id = some x) :
    Ahead P T ops bef fr0 frN i o h' β' rds' id := by
  cases A with
  | skip a1 a2 => exact .skip a1 a2
  | pure a1 a2 a3 a4 => exact .pure a1 a2 a3 a4
  | read a1 a2 a3 a4 a5 => exact .read a1 a2 (hread _ a2 a4 a3) (hm _ a4) a5
  | alloc a1 a2 a3 a4 a5 a6 a7 => exact .alloc a1 a2 a3 (Nat.lt_of_lt_of_le a4 hnx) (hb a2 a4 a5) (hg _ a4 a5 a6) a7

/-- The frame behind the plan's next operation. -/
theorem DInv.frames (hp : PlanOK T ops order bef) {i : Nat} (I : DInv P T E nt ops order bef w0 β0 fr0 h0 a0 frN hN X done (i :: rest) fr h rds ids β a w) {o : Oper} (ho : ops[i]? = some o) {fr' : AFrame} {h' : AHeap} {rds' : List (Nat × Option AV)} {v : Option AV}
    (hput : putT nt fr o.dst v = some fr') (hrun : runPlan E T nt ops.toList bef rest fr' h' rds' = some (frN, hN)) :
    (∀ t, (∃ k ∈ done ++ [i], dstAt ops k = some t) → fr'.get t = frN.get t) ∧ (∀ t, (¬ ∃ k ∈ done ++ [i], dstAt ops k = some t) → fr'.get t = fr0.get t) ∧ (∀ t, o.dst = some t → frN.get t = v) := by
  have hd : ∀ t, o.dst = some t ↔ dstAt ops i = some t := fun t => by simp [dstAt, ho]
  have hown : ∀ t, o.dst = some t → frN.get t = fr'.get t := fun t ht => runPlan_keeps rest hrun fun j hj e => order_ne hp I.split hj (dst_unique hp e ((hd t).1 ht))
  refine ⟨fun t ⟨k, hk, hkt⟩ => ?_, fun t hn => ?_, fun t ht => ?_⟩
  · by_cases ht : o.dst = some t
    · exact (hown t ht).symm
    · rw [putT_ne hput ht]
      rcases List.mem_append.1 hk with hk | hk
      · exact I.f1 t ⟨k, hk, hkt⟩
      · simp only [List.mem_singleton] at hk
        subst hk
        exact absurd ((hd t).2 hkt) ht
  · have ht : o.dst ≠ some t := fun e => hn ⟨i, by simp, (hd t).1 e⟩
    rw [putT_ne hput ht]
    exact I.f2 t fun ⟨k, hk, hkt⟩ => hn ⟨k, List.mem_append_left _ hk, hkt⟩
  · rw [hown t ht]; exact (putT_eq hput ht).1

theorem DInv.notX (hp : PlanOK T ops order bef) {i : Nat} (I : DInv P T E nt ops order bef w0 β0 fr0 h0 a0 frN hN X done (i :: rest) fr h rds ids β a w) : X.getD i false = false := by
  cases hX : X.getD i false with
  | false => rfl
  | true => exact absurd (I.sub i hX) (hp.ord done i rest I.split).2.1

theorem aop_congr_rho {i : Nat} {o : Oper} (hl : ∀ t ∈ o.looksAt ops, fr.get t = rhoOf ops bef fr0 frN i o (.tmp t)) (h : AHeap) : aop T (aev fr) h o.op = aop T (rhoOf ops bef fr0 frN i o) h o.op :=
  aop_congr h o.op (rho_aev hl)

/-- The plan's run takes a quiet operation. -/
theorem DInv.advance (hp : PlanOK T ops order bef) (hT : TabOK P T) {i : Nat} (I : DInv P T E nt ops order bef w0 β0 fr0 h0 a0 frN hN X done (i :: rest) fr h rds ids β a w) {o : Oper} (ho : ops[i]? = some o) (he : isEff T o = false) :
    ∃ fr' h' rds' ids', DInv P T E nt ops order bef w0 β0 fr0 h0 a0 frN hN X (done ++ [i]) rest fr' h' rds' ids' β a w := by
  obtain ⟨o', fr', h', rds', ho', hs, hrun⟩ := runPlan_cons I.run
  rw [ho] at ho'; cases ho'
  obtain ⟨v0, hput⟩ := hs.frame
  obtain ⟨F1, F2, F3⟩ := I.frames hp ho hput hrun
  have hl := I.head hp ho
  have hg0 := rho_guard hl
  have hXi := I.notX hp
  have hin : i ∉ done := (hp.ord done i rest I.split).2.1
  have hwf : h.get h.next = none := by
    cases hh : h.get h.next with
    | none => rfl
    | some x => exact absurd (I.wr.wf _ _ hh) (Nat.lt_irrefl _)
  have key : ∀ (ids' : Nat → Nat), (∀ j ∈ done, ids' j = ids j) → WR w0 β h' w → h.next ≤ h'.next → (∀ o, o < h0.next → β0 o = none → h'.get o = h0.get o) → (∀ j x, j < h.next → h.get j = some x → h'.get j = some x) → (∀ x, x ∈ rds → x ∈ rds') →
      (∀ j p v, ops[j]? = some p → clsOf T p.op = .read → aop T (rhoOf ops bef fr0 frN j p) h p.op = some (.val v h) → aop T (rhoOf ops bef fr0 frN j p) h' p.op = some (.val v h')) →
      Ahead P T ops bef fr0 frN i o h' β rds' (ids' i) →
      (clsOf T o.op = .alloc → guardBy ops.toList (fun t => rhoOf ops bef fr0 frN i o (.tmp t)) o = some true → ids' i = h.next ∧ h.next < h'.next) →
      ∃ fr' h' rds' ids', DInv P T E nt ops order bef w0 β0 fr0 h0 a0 frN hN X (done ++ [i]) rest fr' h' rds' ids' β a w := by
    intro ids' hids hwr hnx hfree hkeep hm hrd hA hal
    refine ⟨fr', h', rds', ids', ?_⟩
    refine ⟨by rw [I.split]; simp, hrun, I.xs, I.closed, fun j hj => List.mem_append_left _ (I.sub j hj), fun j hj p hpj hpe => ?_, hwr, I.size, I.defers, ⟨I.goes.old, Nat.le_trans I.goes.next hnx, hfree⟩, I.t1, I.t2, F1, F2, fun j hj hXj => ?_, fun j hj p hpj hc hg => ?_,
      fun j hj k hk p q hpj hqk hcp hcq hgp hgq hid => ?_⟩
    · rcases List.mem_append.1 hj with hj | hj
      · exact I.effs j hj p hpj hpe
      · simp only [List.mem_singleton] at hj
        subst hj
        rw [ho] at hpj; cases hpj
        rw [he] at hpe; cases hpe
    · rcases List.mem_append.1 hj with hj | hj
      · obtain ⟨p, hpj, A⟩ := I.ahead j hj hXj
        refine ⟨p, hpj, ?_⟩
        rw [hids j hj]
        exact A.mono (fun v hc _ => hrd j p v hpj hc) hm hnx (fun _ _ hb => hb) (fun x hlt _ hx => hkeep _ x hlt hx)
      · simp only [List.mem_singleton] at hj
        subst hj
        exact ⟨o, ho, hA⟩
    · rcases List.mem_append.1 hj with hj | hj
      · rw [hids j hj]
        have := I.idlt j hj p hpj hc hg
        exact ⟨this.1, Nat.lt_of_lt_of_le this.2 hnx⟩
      · simp only [List.mem_singleton] at hj
        subst hj
        rw [ho] at hpj; cases hpj
        obtain ⟨e1, e2⟩ := hal hc hg
        rw [e1]
        exact ⟨I.goes.next, e2⟩
    · rcases List.mem_append.1 hj with hj' | hj
      · have hj := hj'
        rcases List.mem_append.1 hk with hk | hk
        · rw [hids j hj, hids k hk] at hid
          exact I.idinj j hj k hk p q hpj hqk hcp hcq hgp hgq hid
        · simp only [List.mem_singleton] at hk
          subst hk
          rw [ho] at hqk; cases hqk
          have h1 := I.idlt j hj' p hpj hcp hgp
          rw [hids j hj', (hal hcq hgq).1] at hid
          omega
      · simp only [List.mem_singleton] at hj
        subst hj
        rcases List.mem_append.1 hk with hk | hk
        · rw [ho] at hpj; cases hpj
          have h1 := I.idlt k hk q hqk hcq hgq
          rw [hids k hk, (hal hcp hgp).1] at hid
          omega
        · simp only [List.mem_singleton] at hk
          exact hk.symm
  have same : ∀ (A : Ahead P T ops bef fr0 frN i o h β rds' (ids i)), h' = h → (∀ x, x ∈ rds → x ∈ rds') → (clsOf T o.op = .alloc → guardBy ops.toList (fun t => rhoOf ops bef fr0 frN i o (.tmp t)) o = some true → False) →
      ∃ fr' h' rds' ids', DInv P T E nt ops order bef w0 β0 fr0 h0 a0 frN hN X (done ++ [i]) rest fr' h' rds' ids' β a w := by
    intro A hh hm hno
    subst hh
    exact key ids (fun _ _ => rfl) I.wr (Nat.le_refl _) I.goes.free (fun _ _ _ hx => hx) hm (fun _ _ _ _ _ hv => hv) A (fun c g => (hno c g).elim)
  cases hs with
  | skip hg hpp =>
    have hv : v0 = some (.tuple []) ∨ o.dst = none := by
      cases hd : o.dst with
      | none => exact .inr rfl
      | some t => left; rw [← (putT_eq hput hd).1, ← (putT_eq hpp hd).1]
    refine same (.skip (by rw [← hg0]; exact hg) fun t ht => ?_) rfl (fun _ hx => hx) (fun _ g => by rw [← hg0, hg] at g; cases g)
    rcases hv with hv | hv
    · rw [F3 t ht, hv]
    · rw [hv] at ht; cases ht
  | @quiet _ v hg hc ha hpp =>
    have hv : ∀ t, o.dst = some t → frN.get t = v := fun t ht => by
      rw [F3 t ht, ← (putT_eq hput ht).1]; exact (putT_eq hpp ht).1
    rw [aop_congr_rho hl] at ha
    rcases hc with hc | hc
    · obtain ⟨rfl, hall⟩ := aop_pure hc ha
      exact same (.pure (by rw [← hg0]; exact hg) hc hall hv) rfl (fun _ hx => hx) (fun c _ => by rw [hc] at c; cases c)
    · obtain ⟨x, k, rfl, rfl, hall⟩ := aop_alloc hT hc ha
      have hnone : β h.next = none := by
        cases e : β h.next with
        | none => rfl
        | some M => exact absurd (I.wr.dom _ _ e) (Nat.lt_irrefl _)
      refine key (fun j => if j = i then h.next else ids j) (fun j hj => by have hne : j ≠ i := fun e => hin (by rw [← e]; exact hj); simp [hne]) (I.wr.unborn x) (Nat.le_succ _) (fun j hj hb => ?_) (fun j y hj hy => ?_) (fun _ hx => hx) (fun j p v hpj hcr hv => aop_read_add x hwf hcr hv) ?_ (fun _ _ => ⟨by simp, Nat.lt_succ_self _⟩)
      · rw [AHeap.get_add_ne _ _ (Nat.ne_of_lt (Nat.lt_of_lt_of_le hj I.goes.next))]
        exact I.goes.free j hj hb
      · rw [AHeap.get_add_ne _ _ (Nat.ne_of_lt hj)]; exact hy
      · refine .alloc (x := x) (k := k) (by rw [← hg0]; exact hg) hc hall ?_ ?_ ?_ ?_
        · simp
        · simpa using hnone
        · simpa using AHeap.get_add_self h x
        · simpa using hv
  | @read _ v hg hc ha hpp =>
    have hv : ∀ t, o.dst = some t → frN.get t = v := fun t ht => by
      rw [F3 t ht, ← (putT_eq hput ht).1]; exact (putT_eq hpp ht).1
    rw [aop_congr_rho hl] at ha
    have hh := aop_read hc ha
    subst hh
    exact same (.read (by rw [← hg0]; exact hg) hc ha List.mem_cons_self hv) rfl (fun _ hx => List.mem_cons_of_mem _ hx) (fun c _ => by rw [hc] at c; cases c)
  | eff hg hc _ _ => simp [isEff, hc] at he

/-- On to the next operation with an effect, or the end. -/
theorem DInv.advanceAll (hp : PlanOK T ops order bef) (hT : TabOK P T) : ∀ (rest : List Nat) {done : List Nat} {fr : AFrame} {h : AHeap} {rds : List (Nat × Option AV)} {ids : Nat → Nat}, DInv P T E nt ops order bef w0 β0 fr0 h0 a0 frN hN X done rest fr h rds ids β a w →
    ∃ done' rest' fr' h' rds' ids', DInv P T E nt ops order bef w0 β0 fr0 h0 a0 frN hN X done' rest' fr' h' rds' ids' β a w ∧ ∀ i r, rest' = i :: r → ∀ o, ops[i]? = some o → isEff T o = true
  | [], done, fr, h, rds, ids, I => ⟨done, [], fr, h, rds, ids, I, fun i r e => by cases e⟩
  | i :: rest, done, fr, h, rds, ids, I => by
    obtain ⟨h1, _⟩ := hp.ord done i rest I.split
    have ho : ops[i]? = some ops[i] := Array.getElem?_eq_getElem h1
    cases he : isEff T ops[i] with
    | true => exact ⟨done, i :: rest, fr, h, rds, ids, I, fun j r e o hoj => by cases e; rw [ho] at hoj; cases hoj; exact he⟩
    | false =>
      obtain ⟨fr', h', rds', ids', I'⟩ := I.advance hp hT ho he
      exact DInv.advanceAll hp hT rest I'
end
end Go.Am
