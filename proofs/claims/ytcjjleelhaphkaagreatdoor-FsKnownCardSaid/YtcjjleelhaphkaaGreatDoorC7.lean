/-
  Code: a walk of the model's code out of the abstract machine's run.
-/
import Derived.Test.YtcjjleelhaphkaaGreatDoorC6
import Derived.LoopNIn
import Derived.Scope
set_option linter.unusedVariables false
set_option linter.unusedSimpArgs false
namespace Go.Am
open Classical

section
variable {F : Fence} {n : Nat} {P : Program} {Q : Exit → Act → World → Prop} {a : Act} {w : World}

theorem stepR_scope' {b : Frame} {k : List Item} {cs : List Frame} {c : Code} : step P (lone (b.atR a (.code (.scope c) :: k)) cs w) = .next (lone (b.atR a (.code c :: .inScope c :: k)) cs w) :=
  step_lone_go (by simp [stepG, stepG.exec, Frame.atR])
theorem stepR_inScope' {b : Frame} {k : List Item} {cs : List Frame} {c : Code} : step P (lone (b.atR a (.inScope c :: k)) cs w) = .next (lone (b.atR a k) cs w) :=
  step_lone_go (by simp [stepG, stepG.exec, Frame.atR])

theorem wpIn_scope {c : Code} (h : c.wpIn F n P (Exit.noGoto Q) a w) : (Code.scope c).wpIn F n P Q a w := by
  intro b k cs hro hb hr
  have h0 : (lone (b.atR a (.code (.scope c) :: k)) cs w).fenced P F := fenced_calm hb hr rfl
  obtain ⟨e, a₁, w₁, hq, harr⟩ := h b (.inScope c :: k) cs hro hb hr
  cases e with
  | normal => exact ⟨.normal, a₁, w₁, hq, .head h0 stepR_scope' (StepsIn.trans harr (.one (fenced_calm hb hr rfl) stepR_inScope'))⟩
  | exit id =>
    have hx : exitTo id (.inScope c :: k) = exitTo id k := by simp [exitTo]
    exact ⟨.exit id, a₁, w₁, hq, fun k' hk => .head h0 stepR_scope' (harr.1 k' (by rw [hx]; exact hk)),
      fun hr' hk => let ⟨k₁, h1, h2⟩ := harr.2 hr' (by rw [hx]; exact hk); ⟨k₁, h1, .head h0 stepR_scope' h2⟩⟩
  | goto l => exact hq.elim
  | ret => exact ⟨_, a₁, w₁, hq, .of_steps (.one h0 stepR_scope') harr⟩
  | panic ch => exact ⟨_, a₁, w₁, hq, .of_steps (.one h0 stepR_scope') harr⟩
  | outgrown => exact ⟨_, a₁, w₁, hq, .of_steps (.one h0 stepR_scope') harr⟩
end

def exitOf : AExit → Exit
  | .normal => .normal
  | .exit id => .exit id
  | .ret => .ret

/-- The marks among an activation's deferred calls. -/
def DR (β : Inj) : List Nat → List Deferred → Prop
  | [], ds => ds = []
  | m :: ms, ds => ∃ L ds', β m = some L ∧ ds = { target := .collected L.b, args := #[] } :: ds' ∧ DR β ms ds'

theorem DR.mono {β β' : Inj} (hb : β.le β') : ∀ {ms : List Nat} {ds : List Deferred}, DR β ms ds → DR β' ms ds
  | [], _, h => h
  | _ :: _, _, ⟨L, ds', h1, h2, h3⟩ => ⟨L, ds', hb _ _ h1, h2, DR.mono hb h3⟩

theorem keepOnly_get (fr : AFrame) : ∀ (ts : List Nat) (t : Nat) (v : AV), (keepOnly fr ts).get t = some v → fr.get t = some v
  | [], t, v, h => by simp [keepOnly, PT.get] at h
  | u :: ts, t, v, h => by
    simp only [keepOnly, PT.get_set] at h
    by_cases e : t = u
    · rw [if_pos e] at h; rw [e]; exact h
    · rw [if_neg e] at h; exact keepOnly_get fr ts t v h

section
variable {P : Program} {T : Tab} {E : Env}

/-- What stands of a state of the abstract machine. -/
structure ST (w0 : World) (β : Inj) (nt : Nat) (s : ASt) (a : Act) (w : World) : Prop extends SR w0 β nt s.fr s.h a w where
  dr : DR β s.ms a.defers

theorem ST.clean {w0 : World} {β : Inj} {nt : Nat} {s : ASt} {a : Act} {w : World} (h : ST w0 β nt s a w) (A : AFn) (k : Nat) : ST w0 β nt (clean A k s) a w := by
  unfold Am.clean
  split
  · exact ⟨⟨h.wr, fun t v hv => h.fr t v (keepOnly_get _ _ _ _ hv), h.size⟩, h.dr⟩
  · exact h

theorem ST.cleanJ {w0 : World} {β : Inj} {nt : Nat} {s : ASt} {a : Act} {w : World} (h : ST w0 β nt s a w) (A : AFn) (k : Nat) : ST w0 β nt (cleanJ A k s) a w := by
  unfold Am.cleanJ
  split
  · exact ⟨⟨h.wr, fun t v hv => h.fr t v (keepOnly_get _ _ _ _ hv), h.size⟩, h.dr⟩
  · exact h

theorem cleanJ_h (A : AFn) (k : Nat) (s : ASt) : (cleanJ A k s).h = s.h := by
  unfold Am.cleanJ
  split <;> rfl

theorem keepR_get {A : AFn} {k : Nat} {fr : AFrame} {t : Nat} {v : AV} (h : (keepR A k fr).get t = some v) : fr.get t = some v := by
  unfold keepR at h
  split at h
  · exact keepOnly_get _ _ _ _ h
  · exact h

theorem clean_h (A : AFn) (k : Nat) (s : ASt) : (clean A k s).h = s.h := by
  unfold Am.clean
  split <;> rfl

/-- Behind a range over a function: a jump that a round has left. -/
theorem jump_wp {F : Fence} {n : Nat} {Q : Exit → Act → World → Prop} {a : Act} {w : World} (e : AExit) (h : Q (exitOf e) a w) :
    (match jumpOf e with
       | none => Q .normal a w
       | some c => c.wpIn F n P Q a w) := by
  cases e with
  | normal => exact h
  | exit id => exact wpIn_exit h
  | ret => exact wpIn_ret h

/-- The loop's record is turned. -/
theorem WR.putLoop {w0 : World} {β : Inj} {h : AHeap} {w : World} (hw : WR w0 β h w) {o : Nat} {l l' : ALoop} {L : Loc} {r r' : Loop} (ho : h.get o = some (.loop l)) (hL : β o = some L) (hr : w.heap[L.b]? = some (.loop r)) (hl : LR β l' r') :
    (setObj L.b (.loop r')).run P w = .ok () { w with heap := w.heap.setIfInBounds L.b (.loop r') } ∧ WR w0 β (h.put o (.loop l')) { w with heap := w.heap.setIfInBounds L.b (.loop r') } ∧ Goes β h β (h.put o (.loop l')) := by
  have hx := hw.obj o _ L ho hL
  have hlt := hx.lt (by simp)
  have hB := hx.owned rfl
  refine ⟨by simp [setObj, Sem.run, hr], hw.turn ho rfl hL ⟨r', by simp [hlt], hl, hB⟩ rfl rfl rfl (by simp) fun k hk => ?_⟩
  simp [Array.getElem?_setIfInBounds, Ne.symm hk]

theorem run_getLoop {w : World} {l : Nat} {r : Loop} (h : w.heap[l]? = some (.loop r)) : (Instr.getLoop l).run P w = .ok r w := by
  simp [Instr.getLoop, getObj, Sem.run, Result.andThen, h]

/-- The record of a range over a function, and the block for its rounds' deferred calls. -/
theorem enter_sim {w0 : World} {β : Inj} {nt : Nat} {fr : AFrame} {h : AHeap} {a : Act} {w : World} (hs : SR w0 β nt fr h a w) (fn fid : Nat) (ps : Array Tmp) (assign body : Code) :
    ∃ β2 Lm Ll, WR w0 β2 ((h.add .marks).add (.loop { state := .ready, pending := .normal, fn := fid, fr := fr, nt := nt, params := ps.toList, assign := assign, body := body }))
        ((w.alloc (.deferred (some []))).alloc (.loop { state := .ready, pending := none, fn := fn, tmps := a.tmps, params := ps, assign := assign, body := body, defers := w.heap.size })) ∧
      Goes β h β2 ((h.add .marks).add (.loop { state := .ready, pending := .normal, fn := fid, fr := fr, nt := nt, params := ps.toList, assign := assign, body := body })) ∧ β2 h.next = some Lm ∧ β2 (h.add .marks).next = some Ll ∧
      (Instr.enterLoop fn a.tmps ps assign body none).run P w = .ok (Ll.b, [{ target := .collected Lm.b, args := #[] }])
        ((w.alloc (.deferred (some []))).alloc (.loop { state := .ready, pending := none, fn := fn, tmps := a.tmps, params := ps, assign := assign, body := body, defers := w.heap.size })) := by
  have hsz : (w.alloc (.deferred (some []))).heap.size = w.heap.size + 1 := Array.size_push _
  obtain ⟨W1, G1⟩ := hs.wr.alloc (x := .marks) (ob := .deferred (some [])) (L := ⟨w.heap.size, 0, 0⟩) rfl ⟨heap_push_new, hs.wr.below.size⟩
  have hfr : ∀ β', β.le β' → LR β' { state := .ready, pending := .normal, fn := fid, fr := fr, nt := nt, params := ps.toList, assign := assign, body := body } { state := .ready, pending := none, fn := fn, tmps := a.tmps, params := ps, assign := assign, body := body, defers := w.heap.size } :=
    fun β' hle => ⟨rfl, rfl, hs.fr.mono hle, hs.size, rfl, rfl, rfl⟩
  have le1 : β.le (β.with h.next ⟨w.heap.size, 0, 0⟩) := hs.wr.le G1
  have hn : (β.with h.next ⟨w.heap.size, 0, 0⟩) (h.add .marks).next = none := by
    cases e : (β.with h.next ⟨w.heap.size, 0, 0⟩) (h.add .marks).next with
    | none => rfl
    | some M => exact absurd (W1.dom _ _ e) (Nat.lt_irrefl _)
  have le2 : (β.with h.next ⟨w.heap.size, 0, 0⟩).le ((β.with h.next ⟨w.heap.size, 0, 0⟩).with (h.add .marks).next ⟨(w.alloc (.deferred (some []))).heap.size, 0, 0⟩) := fun j M e => by
    by_cases hj : j = (h.add .marks).next
    · subst hj; rw [hn] at e; cases e
    · rw [Inj.with_ne _ _ hj]; exact e
  obtain ⟨W2, G2⟩ := W1.alloc (x := .loop { state := .ready, pending := .normal, fn := fid, fr := fr, nt := nt, params := ps.toList, assign := assign, body := body })
    (ob := .loop { state := .ready, pending := none, fn := fn, tmps := a.tmps, params := ps, assign := assign, body := body, defers := w.heap.size }) (L := ⟨(w.alloc (.deferred (some []))).heap.size, 0, 0⟩) rfl
    ⟨_, heap_push_new, hfr _ (le1.trans le2), by have := hs.wr.below.size; show w0.heap.size ≤ (w.alloc (.deferred (some []))).heap.size; omega⟩
  refine ⟨_, ⟨w.heap.size, 0, 0⟩, ⟨(w.alloc (.deferred (some []))).heap.size, 0, 0⟩, W2, G1.trans G2, le2 _ _ (Inj.with_self _ _ _), Inj.with_self _ _ _, ?_⟩
  simp [Instr.enterLoop, newObj, Sem.run, Sem.run_bind, Result.andThen]
  rfl

theorem exec_sound (hT : TabOK P T) (hE : EnvOK P E) (hm : P.follows .mixedOrders = true) {w0 : World} {nt fid n : Nat} {A : AFn} {r : Option Nat} :
    ∀ (c : Code) {s s' : ASt} {e : AExit}, exec E T A fid nt n r.isSome c s = some (e, s') → ∀ {β : Inj} {a : Act} {w : World}, ST w0 β nt s a w → ∀ {Q : Exit → Act → World → Prop},
      (∀ β' a' w', ST w0 β' nt s' a' w' → Goes β s.h β' s'.h → Q (exitOf e) a' w') → c.wpIn (FW r) 0 P Q a w := by
  intro c
  induction c with
  | skip =>
    intro s s' e he β a w hs Q hQ
    simp only [exec, Option.some.injEq, Prod.mk.injEq] at he
    obtain ⟨rfl, rfl⟩ := he
    exact wpIn_skip (hQ β a w hs (Goes.refl _ _))
  | label l =>
    intro s s' e he β a w hs Q hQ
    simp only [exec, Option.some.injEq, Prod.mk.injEq] at he
    obtain ⟨rfl, rfl⟩ := he
    exact wpIn_label (hQ β a w hs (Goes.refl _ _))
  | ret =>
    intro s s' e he β a w hs Q hQ
    simp only [exec, Option.some.injEq, Prod.mk.injEq] at he
    obtain ⟨rfl, rfl⟩ := he
    exact wpIn_ret (hQ β a w hs (Goes.refl _ _))
  | exit id =>
    intro s s' e he β a w hs Q hQ
    simp only [exec, Option.some.injEq, Prod.mk.injEq] at he
    obtain ⟨rfl, rfl⟩ := he
    exact wpIn_exit (hQ β a w hs (Goes.refl _ _))
  | region id ops draw =>
    intro s s' e he β a w hs Q hQ
    simp only [exec] at he
    cases draw with
    | false =>
      simp only at he
      split at he
      · rename_i fr h hr
        cases he
        exact region_wp hT hE hs.toSR hr fun β' a' w' q1 q2 q3 => hQ β' a' w' ⟨q1, by rw [q3]; exact hs.dr.mono (hs.wr.le q2)⟩ q2
      · cases he
    | true =>
      simp only at he
      split at he
      · rename_i order bef hpl
        cases hpo : planOk T ops.toList order bef with
        | false => rw [hpo] at he; cases he
        | true =>
          rw [hpo] at he
          simp only [cond_true] at he
          split at he
          · rename_i fr h hr
            cases he
            exact draw_wp hT hE hm hpo hs.toSR hr fun β' a' w' q1 q2 q3 => hQ β' a' w' ⟨q1, by rw [q3]; exact hs.dr.mono (hs.wr.le q2)⟩ q2
          · cases he
      · cases he
  | seq x y ihx ihy =>
    intro s s' e he β a w hs Q hQ
    simp only [exec] at he
    refine wpIn_seq ?_
    split at he
    · rename_i s1 hx
      refine ihx hx hs fun β1 a1 w1 q1 g1 => ?_
      refine ihy he (q1.cleanJ A (firstRegion y)) fun β2 a2 w2 q2 g2 => ?_
      rw [cleanJ_h] at g2
      exact hQ β2 a2 w2 q2 (g1.trans g2)
    · rename_i hx
      refine ihx he hs fun β1 a1 w1 q1 g1 => ?_
      cases e with
      | normal => exact absurd he (hx s')
      | exit id => exact hQ β1 a1 w1 q1 g1
      | ret => exact hQ β1 a1 w1 q1 g1
  | cond c x y ihx ihy =>
    intro s s' e he β a w hs Q hQ
    simp only [exec] at he
    split at he
    · rename_i t hc
      have := hs.fr.rho c _ hc
      simp only [VR] at this
      cases t with
      | true => exact wpIn_cond_true this (ihx he hs hQ)
      | false => exact wpIn_cond_false this (ihy he hs hQ)
    · cases he
  | block id b ih =>
    intro s s' e he β a w hs Q hQ
    simp only [exec] at he
    refine wpIn_block ?_
    split at he
    · rename_i id' s1 hb
      cases hbe : Nat.beq id' id with
      | true =>
        rw [hbe] at he
        cases he
        refine ih hb hs fun β1 a1 w1 q1 g1 => ?_
        simp only [exitOf, Exit.inBlock, Nat.eq_of_beq_eq_true hbe, if_true]
        exact hQ β1 a1 w1 q1 g1
      | false =>
        rw [hbe] at he
        cases he
        refine ih hb hs fun β1 a1 w1 q1 g1 => ?_
        simp only [exitOf, Exit.inBlock, Nat.ne_of_beq_eq_false hbe, if_false]
        exact hQ β1 a1 w1 q1 g1
    · rename_i hb
      refine ih he hs fun β1 a1 w1 q1 g1 => ?_
      cases e with
      | normal => exact hQ β1 a1 w1 q1 g1
      | exit id' => exact absurd he (hb id' s')
      | ret => exact hQ β1 a1 w1 q1 g1
  | loop b ih =>
    intro s s' e he β a w hs Q hQ
    simp only [exec] at he
    refine wpIn_loop_rounds n ?_
    have key : ∀ (m : Nat) {s : ASt} {β : Inj} {a : Act} {w : World}, iter (exec E T A fid nt n r.isSome b) (clean A (firstRegion b)) m s = some (e, s') → ST w0 β nt s a w → (∀ β' a' w', ST w0 β' nt s' a' w' → Goes β s.h β' s'.h → Q (exitOf e) a' w') → Code.roundsIn (FW r) 0 P b Q m a w := by
      intro m
      induction m with
      | zero => intro s β a w hi; cases hi
      | succ m ihm =>
        intro s β a w hi hs hQ
        simp only [iter] at hi
        rw [roundsIn_succ]
        split at hi
        · rename_i s1 h1
          refine ih h1 (hs.clean A (firstRegion b)) fun β1 a1 w1 q1 g1 => ?_
          rw [clean_h] at g1
          exact ihm hi q1 fun β2 a2 w2 q2 g2 => hQ β2 a2 w2 q2 (g1.trans g2)
        · rename_i h1
          refine ih hi (hs.clean A (firstRegion b)) fun β1 a1 w1 q1 g1 => ?_
          rw [clean_h] at g1
          cases e with
          | normal => exact absurd hi (h1 s')
          | exit id => exact hQ β1 a1 w1 q1 g1
          | ret => exact hQ β1 a1 w1 q1 g1
    exact key n he hs hQ
  | scope b ih =>
    intro s s' e he β a w hs Q hQ
    simp only [exec] at he
    refine wpIn_scope (ih he hs fun β1 a1 w1 q1 g1 => ?_)
    have := hQ β1 a1 w1 q1 g1
    cases e <;> exact this
  | rangeFunc f ps assign body =>
    intro s s' e he β a w hs Q hQ
    cases r with
    | some l => simp [exec] at he
    | none =>
    simp only [exec, Option.isSome_none] at he
    split at he
    case h_2 => cases he
    rename_i g hg
    split at he
    case h_2 => cases he
    rename_i f1 args hc
    split at he
    case h_2 => cases he
    rename_i rv h3 hEc
    split at he
    case h_2 => cases he
    rename_i L hL
    refine wpIn_rangeFunc fun fn _ => ?_
    obtain ⟨β2, Lm, Ll, W2, G2, hβm, hβl, hrun⟩ := enter_sim (P := P) (fr := keepR A (firstRegion body) s.fr) ⟨hs.wr, fun t v hv => hs.fr t v (keepR_get hv), hs.size⟩ fn fid ps assign body
    have le2 : β.le β2 := hs.wr.le G2
    obtain ⟨d, vals, d1, d2, d3⟩ := acallV_sim (P := P) (Vs := [.func (.yield Ll.b) #[] #[]]) hc ((hs.fr.rho f _ hg).mono le2) (VRL.cons (by simp only [VR]; exact ⟨Ll, hβl, rfl⟩) VRL.nil) ((w.alloc (.deferred (some []))).alloc (.loop { state := .ready, pending := none, fn := fn, tmps := a.tmps, params := ps, assign := assign, body := body, defers := w.heap.size }))
    rcases d3 with ⟨f', hff, hinv⟩ | ⟨o', L', hff, hL', hinv⟩
    · cases hff
      obtain ⟨⟨fn', body', p1, p2, p3⟩, hC⟩ := hE _ _ _ _ _ hEc w0 β2 _ vals W2 d2
      have hcf : (callFunc f1 vals.toArray).run P ((w.alloc (.deferred (some []))).alloc (.loop { state := .ready, pending := none, fn := fn, tmps := a.tmps, params := ps, assign := assign, body := body, defers := w.heap.size })) = .ok (.enter f1 vals.toArray) ((w.alloc (.deferred (some []))).alloc (.loop { state := .ready, pending := none, fn := fn, tmps := a.tmps, params := ps, assign := assign, body := body, defers := w.heap.size })) := by
        simp [callFunc, p1, p2, p3]
      refine ⟨Ll.b, [{ target := .collected Lm.b, args := #[] }], _, d, _, f1, vals.toArray, _, hrun, ?_, fun _ _ => trivial, by rw [hinv]; exact hcf, fun hh => by simp [FW] at hh, hC.mono ?_⟩
      · have hmap : (#[Operand.const (Value.func (Fn.yield Ll.b) #[] #[])] : Array Operand).map a.eval = [Value.func (Fn.yield Ll.b) #[] #[]].toArray := by
          simp [Act.eval]
        show (Deferred.ofValue (a.eval f) ((#[Operand.const (Value.func (Fn.yield Ll.b) #[] #[])] : Array Operand).map a.eval)).run P _ = _
        rw [hmap, d1]
      · rintro ee w3 ⟨β3, V, rfl, q1, q2, q3⟩
        have hL3 : β3 (s.h.add .marks).next = some Ll := by
          rw [q3.old _ (by rw [AHeap.next_add]; exact Nat.lt_succ_self _)]; exact hβl
        obtain ⟨rec3, r1, r2, r3⟩ := q2.obj _ _ Ll hL hL3
        have hnb : L.state ≠ .busy := by
          intro hb
          rw [hb] at he
          cases he
        have he' : some (L.pending, ({ fr := s.fr, ms := s.h.next :: s.ms, h := h3.put (s.h.add .marks).next (.loop { L with state := .exhausted }) } : ASt)) = some (e, s') := by
          rw [← he]
          split
          · rename_i hb; exact absurd hb hnb
          · rfl
        cases he'
        obtain ⟨s1, s2, s3⟩ := q2.putLoop (P := P) (l' := { L with state := .exhausted }) (r' := { rec3 with state := .exhausted }) hL hL3 r1 { r2 with state := rfl }
        refine ⟨jumpOf L.pending, _, ?_, jump_wp _ (hQ β3 _ _ ⟨⟨s2, ?_, hs.size⟩, ?_⟩ ((G2.trans q3).trans s3))⟩
        · have hst : (rec3.state == LoopState.busy) = false := by
            rw [r2.state]
            cases hb : L.state <;> first | rfl | exact absurd hb hnb
          simp only [Instr.endLoop, Sem.run_bind, run_getLoop r1, Result.andThen_ok, hst]
          have s1' := s1
          simp only [r2.pending] at s1'
          simp [s1', r2.pending, Sem.run_bind, Result.andThen]
        · exact hs.fr.mono (le2.trans (W2.le q3))
        · exact ⟨Lm, _, (W2.le q3) _ _ hβm, rfl, hs.dr.mono (le2.trans (W2.le q3))⟩
    · cases hff
  | _ => intro s s' e he; simp [exec] at he
end
end Go.Am
