/-
  One operation: what the model does at it is what the abstract machine tells.
-/
import Derived.Test.YtcjjleelhaphkaaGreatDoorB8
import Derived.Calls
import Derived.Lib.OthersKept
import Derived.Laws.RangeString
set_option linter.unusedVariables false
set_option linter.unusedSimpArgs false
namespace Go.Am
section
variable {P : Program} {T : Tab}

theorem absConst_sim {β : Inj} {V : Value} {x : AV} (h : absConst V = some x) : VR β x V := by
  unfold absConst at h
  split at h <;> simp only [Option.some.injEq, reduceCtorEq] at h <;> subst h <;> simp [VR]

theorem absConstL_sim {β : Inj} : ∀ {Vs : List Value} {xs : List AV}, absConstL Vs = some xs → VRL β xs Vs
  | [], _, h => by simp only [absConstL, Option.some.injEq] at h; subst h; exact VRL.nil
  | V :: Vs, _, h => by
    simp only [absConstL] at h
    split at h
    · rename_i y ys h1 h2
      cases h
      exact VRL.cons (absConst_sim h1) (absConstL_sim h2)
    · cases h

theorem absConst2_sim {β : Inj} {V : Value} {x : AV} (h : absConst2 V = some x) : VR β x V := by
  unfold absConst2 at h
  split at h
  · rename_i cs
    simp only [Option.map_eq_some_iff] at h
    obtain ⟨xs, h1, rfl⟩ := h
    simp only [VR]
    exact ⟨cs.toList, absConstL_sim h1, by simp⟩
  · exact absConst_sim h

/-- Operands, as a frame has them. -/
def RhoR (β : Inj) (ρ : Operand → Option AV) (σ : Operand → Value) : Prop := ∀ x v, ρ x = some v → VR β v (σ x)

theorem FR.rho {β : Inj} {fr : AFrame} {a : Act} (h : FR β fr a.tmps) : RhoR β (aev fr) a.eval := by
  intro x v hx
  cases x with
  | tmp t =>
    obtain ⟨V, h1, h2⟩ := h t v hx
    have : a.eval (.tmp t) = V := by simp [Act.eval, Array.getD_eq_getD_getElem?, h1]
    rw [this]; exact h2
  | const V => exact absConst2_sim hx
  | global g => cases hx
  | func f => simp only [aev, Option.some.injEq] at hx; subst hx; simp only [VR]; exact ⟨[], [], VRL.nil, VRL.nil, rfl⟩

theorem aevL_sim {β : Inj} {ρ : Operand → Option AV} {σ : Operand → Value} (hr : RhoR β ρ σ) : ∀ {xs : List Operand} {vs : List AV}, aevL ρ xs = some vs → VRL β vs (xs.map σ)
  | [], _, h => by simp only [aevL, Option.some.injEq] at h; subst h; exact VRL.nil
  | x :: xs, _, h => by
    simp only [aevL] at h
    split at h
    · rename_i y ys h1 h2
      cases h
      exact VRL.cons (hr x y h1) (aevL_sim hr h2)
    · cases h

theorem parts_sim {β : Inj} {ρ : Operand → Option AV} {σ : Operand → Value} (hr : RhoR β ρ σ) : ∀ {xs : List (Nat × Operand)} {vs : List (Nat × AV)}, parts ρ xs = some vs → PR β vs (xs.map fun (i, x) => (i, σ x))
  | [], _, h => by simp only [parts, Option.some.injEq] at h; subst h; rfl
  | (i, x) :: xs, _, h => by
    simp only [parts] at h
    split at h
    · rename_i y ys h1 h2
      cases h
      exact ⟨σ x, _, hr x y h1, parts_sim hr h2, rfl⟩
    · cases h

/-- What an operation hands on. -/
def NxR (β : Inj) (v : Option AV) (nx : Next) : Prop := (nx = .skip ∧ v = none) ∨ ∃ V, nx = .value V ∧ ∀ x, v = some x → VR β x V

def OpSim (P : Program) (w0 : World) (β : Inj) (h : AHeap) (w : World) (S : Sem Next) (v : Option AV) (h' : AHeap) : Prop :=
  ∃ β' w' nx, S.run P w = .ok nx w' ∧ NxR β' v nx ∧ WR w0 β' h' w' ∧ Goes β h β' h'

theorem opSim_of_simV {w0 : World} {β : Inj} {h h' : AHeap} {w : World} {S : Sem Value} {v : Option AV} (hs : SimV P w0 β h w S v h') : OpSim P w0 β h w (do pure (.value (← S))) v h' := by
  obtain ⟨β', V, w', r1, r2, r3, r4⟩ := hs
  exact ⟨β', w', .value V, by simp [r1], .inr ⟨V, rfl, r2⟩, r3, r4⟩

theorem opSim_of_pure {w0 : World} {β : Inj} {h : AHeap} {w : World} {S : Sem Value} {v : AV} (hw : WR w0 β h w) (hs : ∃ V, S.run P w = .ok V w ∧ VR β v V) : OpSim P w0 β h w (do pure (.value (← S))) (some v) h := by
  obtain ⟨V, r1, r2⟩ := hs
  exact ⟨β, w, .value V, by simp [r1], .inr ⟨V, rfl, fun x hx => by cases hx; exact r2⟩, hw, Goes.refl _ _⟩

theorem opSim_of_value {w0 : World} {β : Inj} {h : AHeap} {w : World} {V : Value} {v : Option AV} (hw : WR w0 β h w) (hv : ∀ x, v = some x → VR β x V) : OpSim P w0 β h w (pure (.value V)) v h :=
  ⟨β, w, .value V, rfl, .inr ⟨V, rfl, hv⟩, hw, Goes.refl _ _⟩

theorem opSim_of_unit {w0 : World} {β : Inj} {h h' : AHeap} {w : World} {S : Sem Unit} (hs : ∃ w', S.run P w = .ok () w' ∧ WR w0 β h' w' ∧ Goes β h β h') : OpSim P w0 β h w (do S; pure .skip) none h' := by
  obtain ⟨w', r1, r2, r3⟩ := hs
  exact ⟨β, w', .skip, by simp [r1], .inl ⟨rfl, rfl⟩, r2, r3⟩

theorem ret1_inv {h : AHeap} {r : Option AV} {v : Option AV} {h' : AHeap} (hr : ret1 h r = some (.val v h')) : ∃ x, r = some x ∧ v = some x ∧ h' = h := by
  unfold ret1 at hr
  cases r with
  | none => cases hr
  | some x => cases hr; exact ⟨x, rfl, rfl, rfl⟩

theorem ret1_noCall {h : AHeap} {r : Option AV} {c : ACallee} {args : List AV} (hr : ret1 h r = some (.call c args)) : False := by
  unfold ret1 at hr
  cases r <;> cases hr

theorem ret2_inv {r : Option (AV × AHeap)} {v : Option AV} {h' : AHeap} (hr : ret2 r = some (.val v h')) : ∃ x, r = some (x, h') ∧ v = some x := by
  unfold ret2 at hr
  split at hr
  · cases hr; exact ⟨_, rfl, rfl⟩
  · cases hr

theorem ret2_noCall {r : Option (AV × AHeap)} {c : ACallee} {args : List AV} (hr : ret2 r = some (.call c args)) : False := by
  unfold ret2 at hr
  split at hr <;> cases hr

/-- Which operations call. -/
theorem aop_call_inv {ρ : Operand → Option AV} {h : AHeap} {op : Op} {c : ACallee} {args : List AV} (ha : aop T ρ h op = some (.call c args)) :
    ∃ cc f g as, op = .call cc ∧ cc.callee = .value f ∧ ρ f = some g ∧ aevL ρ cc.args.toList = some as ∧ acallV g as = some (.call c args) := by
  have nc : ∀ {r}, ret2 r ≠ some (.call c args) := fun e => ret2_noCall e
  have rc : ∀ {h r}, ret1 h r ≠ some (.call c args) := fun e => ret1_noCall e
  cases op <;> simp only [aop, reduceCtorEq, Option.some.injEq] at ha
  case call cc =>
    split at ha
    · rename_i as hargs
      split at ha
      · rename_i f hf
        split at ha
        · rename_i g hg
          exact ⟨cc, f, g, as, rfl, hf, hg, hargs, ha⟩
        · cases ha
      · split at ha
        · exact absurd ha nc
        · exact absurd ha rc
        · split at ha <;> cases ha
        · exact absurd ha rc
        · exact absurd ha rc
        · cases ha
      · cases ha
    · cases ha
  all_goals
    repeat' split at ha
    all_goals first | (cases ha; done) | exact absurd ha nc | exact absurd ha rc

/-- The call of a function value, as the model resolves it. -/
theorem acallV_sim {β : Inj} {g : AV} {G : Value} {as args : List AV} {Vs : List Value} {c : ACallee} (ha : acallV g as = some (.call c args)) (hg : VR β g G) (hv : VRL β as Vs) (w : World) :
    ∃ d vals, (Deferred.ofValue G Vs.toArray).run P w = .ok d w ∧ VRL β args vals ∧
      ((∃ f, c = .fn f ∧ invoke d.target d.args = callFunc f vals.toArray) ∨ (∃ o L, c = .yield o ∧ β o = some L ∧ invoke d.target d.args = Instr.yield L.b vals.toArray)) := by
  unfold acallV at ha
  split at ha
  · rename_i f first captured
    cases ha
    simp only [VR] at hg
    obtain ⟨Fs, Cs, h1, h2, rfl⟩ := hg
    refine ⟨_, Fs ++ (Vs ++ Cs), rfl, h1.append (hv.append h2), .inl ⟨f, rfl, ?_⟩⟩
    simp [invoke, List.append_assoc]
  · rename_i o
    cases ha
    simp only [VR] at hg
    obtain ⟨L, hL, rfl⟩ := hg
    exact ⟨_, Vs, rfl, hv, .inr ⟨o, L, rfl, hL, by simp [invoke]⟩⟩
  · cases ha

/-- An operation that does not call. -/
theorem aop_val {w0 : World} {β : Inj} {h h' : AHeap} {w : World} (hT : TabOK P T) (hw : WR w0 β h w) {ρ : Operand → Option AV} {σ : Operand → Value} (hr : RhoR β ρ σ) {o : Oper} {v : Option AV} (ha : aop T ρ h o.op = some (.val v h')) :
    OpSim P w0 β h w (execOp σ o) v h' := by
  unfold execOp
  obtain ⟨dst, op, ty, pos, after, guard⟩ := o
  simp only at ha ⊢
  cases op <;> simp only [aop, reduceCtorEq, Option.some.injEq, ARes.val.injEq] at ha <;> simp only
  case move x => obtain ⟨rfl, rfl⟩ := ha; exact opSim_of_value hw fun v hv => hr x v hv
  case assign x => obtain ⟨rfl, rfl⟩ := ha; exact opSim_of_value hw fun v hv => hr x v hv
  case pick c a b =>
    split at ha
    · rename_i t hc
      cases ha
      have := hr c _ hc
      simp only [VR] at this
      refine ⟨β, w, .value (if t = true then σ a else σ b), by simp [asBool, this], .inr ⟨_, rfl, fun x hx => ?_⟩, hw, Goes.refl _ _⟩
      cases t
      · simpa using hr b x hx
      · simpa using hr a x hx
    · cases ha
  case alloc e =>
    split at ha
    · rename_i te he
      obtain ⟨x, h1, rfl⟩ := ret2_inv ha
      obtain ⟨hone, rfl, rfl⟩ := newCells_inv h1
      exact opSim_of_simV ((alloc_alloc w hT he hone).simV hw)
    · cases ha
  case box e x =>
    split at ha
    · rename_i xv hx
      obtain ⟨y, h1, rfl⟩ := ret2_inv ha
      obtain ⟨hone, rfl, rfl⟩ := newCells_inv h1
      exact opSim_of_simV ((alloc_box w e (hr x _ hx) hone).simV hw)
    · cases ha
  case build t ps =>
    split at ha
    · rename_i qs hq
      obtain ⟨x, h1, rfl, rfl⟩ := ret1_inv ha
      have hp := parts_sim hr hq
      refine opSim_of_pure hw (abuild_sim w hT h1 ?_)
      simpa using hp
    · cases ha
  case buildSlice t len ps =>
    split at ha
    · rename_i qs hq
      obtain ⟨x, h1, rfl⟩ := ret2_inv ha
      have hp := parts_sim hr hq
      obtain ⟨ob, k, rfl, rfl, hA⟩ := alloc_buildSlice hT h1
      have hA' := hA β w (ps.map fun (i, x) => (i, σ x)) (by simpa using hp)
      exact opSim_of_simV (hA'.simV hw)
    · cases ha
  case insert t m k x =>
    split at ha
    · rename_i a b c h1 h2 h3
      split at ha
      · rename_i h2' hu
        cases ha
        exact opSim_of_unit (amapUpdate_sim hT hw hu (hr _ _ h1) (hr _ _ h2) (hr _ _ h3))
      · cases ha
    · cases ha
  case load t a =>
    split at ha
    · rename_i o i ho
      obtain ⟨x, h1, rfl, rfl⟩ := ret1_inv ha
      have := hr a _ ho
      simp only [VR] at this
      obtain ⟨L, hL, hV⟩ := this
      obtain ⟨V, r1, r2⟩ := aload_sim w hT hw h1 hL
      exact opSim_of_pure hw ⟨V, by simp [Instr.loadAt, hV, Instr.sureAddr, r1], r2⟩
    · cases ha
  case store t a x =>
    split at ha
    · rename_i o i xv ho hx
      split at ha
      · rename_i h2' hs
        cases ha
        have := hr a _ ho
        simp only [VR] at this
        obtain ⟨L, hL, hV⟩ := this
        obtain ⟨w', r1, r2, r3⟩ := astore_sim w hT hw hs hL (hr x _ hx)
        exact opSim_of_unit ⟨w', by simp [Instr.storeAt, hV, Instr.sureAddr, r1], r2, r3⟩
      · cases ha
    · cases ha
  case nilCheck x =>
    split at ha
    · rename_i o i hx
      cases ha
      have hx' := hr x _ hx
      have := hx'
      simp only [VR] at this
      obtain ⟨L, hL, hV⟩ := this
      rw [hV] at hx' ⊢
      exact opSim_of_value hw fun v hv => by cases hv; exact hx'
    · rename_i f a c hx
      cases ha
      have hx' := hr x _ hx
      have := hx'
      simp only [VR] at this
      obtain ⟨as, cs, _, _, hV⟩ := this
      rw [hV] at hx' ⊢
      exact opSim_of_value hw fun v hv => by cases hv; exact hx'
    · rename_i o hx
      cases ha
      have hx' := hr x _ hx
      have := hx'
      simp only [VR] at this
      obtain ⟨L, hL, hV⟩ := this
      rw [hV] at hx' ⊢
      exact opSim_of_value hw fun v hv => by cases hv; exact hx'
    · cases ha
  case binOp op t x y yt =>
    split at ha
    · rename_i a b h1 h2
      obtain ⟨z, h3, rfl, rfl⟩ := ret1_inv ha
      exact opSim_of_pure hw (abin_sim w hT h3 (hr _ _ h1) (hr _ _ h2) x y)
    · cases ha
  case unOp op t x =>
    split at ha
    · rename_i a h1
      obtain ⟨z, h3, rfl, rfl⟩ := ret1_inv ha
      exact opSim_of_pure hw (aun_sim w h3 (hr _ _ h1))
    · cases ha
  case convert s d x =>
    split at ha
    · rename_i a h1
      obtain ⟨z, h3, rfl⟩ := ret2_inv ha
      exact opSim_of_simV (aconvert_sim hT hw h3 (hr _ _ h1))
    · cases ha
  case makeFunc fn first captured =>
    split at ha
    · split at ha
      · rename_i f a c h1 h2
        cases ha
        refine opSim_of_value hw fun v hv => ?_
        cases hv
        simp only [VR]
        exact ⟨_, _, aevL_sim hr h1, aevL_sim hr h2, by congr 1 <;> (apply Array.ext'; simp)⟩
      · cases ha
    · cases ha
  case makeMap t r =>
    have fin : ∀ k, AllocSim P β w (Instr.makeMap t k) (.map [] 0) (fun o => .map o) → OpSim P w0 β h w (do pure (.value (← Instr.makeMap t k))) (some (.map h.next)) (h.add (.map [] 0)) := fun k hk => opSim_of_simV (hk.simV hw)
    have mk : ∀ k, (Instr.makeMap t k).run P w = .ok (.map (some w.heap.size)) (w.alloc (.map #[] 0)) → AllocSim P β w (Instr.makeMap t k) (.map [] 0) (fun o => .map o) := fun k hk =>
      ⟨.map #[] 0, _, 0, hk, fun β' o hle ho => ⟨by simp only [VR]; exact ⟨_, ho, rfl⟩, fun B0 hB => ⟨#[], heap_push_new, rfl, hB⟩⟩⟩
    split at ha
    · rename_i hty
      have hd := (hT t _ hty).desc
      obtain ⟨key, hkey, _⟩ := hd
      split at ha
      · cases ha
        exact fin none (mk none rfl)
      · rename_i r'
        split at ha
        · rename_i k n h1
          cases ha
          have := hr _ _ h1
          simp only [VR] at this
          refine fin (some (σ r')) (mk _ ?_)
          simp [Instr.makeMap, run_und w hkey, asInt, asIntOf, this]
        · cases ha
    · cases ha
  case makeSlice t l c =>
    split at ha
    · rename_i a b h1 h2
      obtain ⟨z, h3, rfl⟩ := ret2_inv ha
      exact opSim_of_simV (amakeSlice_sim hT hw h3 (hr _ _ h1) (hr _ _ h2))
    · cases ha
  case slice t x lo hi mx =>
    split at ha
    · rename_i a h0 h1 h2 h3
      obtain ⟨z, h4, rfl, rfl⟩ := ret1_inv ha
      have e1 : lo = none := by cases lo <;> simp_all
      have e2 : hi = none := by cases hi <;> simp_all
      subst e1 e2
      exact opSim_of_pure hw (aslice_sim w hT h4 (hr _ _ h1) (fun v hv => by cases hv) (fun _ => rfl) (fun v hv => by cases hv) (fun _ => rfl))
    · rename_i a l h0 h1 h2 h3
      obtain ⟨z, h4, rfl, rfl⟩ := ret1_inv ha
      have e2 : hi = none := by cases hi <;> simp_all
      cases lo with
      | none => simp at h2
      | some lo =>
        subst e2
        simp only [Option.map_some, Option.some.injEq] at h2
        exact opSim_of_pure hw (aslice_sim w hT h4 (hr _ _ h1) (fun v hv => by cases hv; exact ⟨_, rfl, hr _ _ h2⟩) (fun e => by cases e) (fun v hv => by cases hv) (fun _ => rfl))
    · rename_i a b h0 h1 h2 h3
      obtain ⟨z, h4, rfl, rfl⟩ := ret1_inv ha
      have e1 : lo = none := by cases lo <;> simp_all
      cases hi with
      | none => simp at h3
      | some hi =>
        subst e1
        simp only [Option.map_some, Option.some.injEq] at h3
        exact opSim_of_pure hw (aslice_sim w hT h4 (hr _ _ h1) (fun v hv => by cases hv) (fun _ => rfl) (fun v hv => by cases hv; exact ⟨_, rfl, hr _ _ h3⟩) (fun e => by cases e))
    · rename_i a l b h0 h1 h2 h3
      obtain ⟨z, h4, rfl, rfl⟩ := ret1_inv ha
      cases lo with
      | none => simp at h2
      | some lo =>
        cases hi with
        | none => simp at h3
        | some hi =>
          simp only [Option.map_some, Option.some.injEq] at h2 h3
          exact opSim_of_pure hw (aslice_sim w hT h4 (hr _ _ h1) (fun v hv => by cases hv; exact ⟨_, rfl, hr _ _ h2⟩) (fun e => by cases e) (fun v hv => by cases hv; exact ⟨_, rfl, hr _ _ h3⟩) (fun e => by cases e))
    · cases ha
  case fieldAddr s x f =>
    split at ha
    · rename_i a h1
      obtain ⟨z, h3, rfl, rfl⟩ := ret1_inv ha
      exact opSim_of_pure hw (afieldAddr_sim w hT h3 (hr _ _ h1))
    · cases ha
  case field s x f =>
    split at ha
    · rename_i a h1
      obtain ⟨z, h3, rfl, rfl⟩ := ret1_inv ha
      exact opSim_of_pure hw (afield_sim w hT h3 (hr _ _ h1))
    · cases ha
  case indexAddr t x i =>
    split at ha
    · rename_i a b h1 h2
      obtain ⟨z, h3, rfl, rfl⟩ := ret1_inv ha
      exact opSim_of_pure hw (aindexAddr_sim w hT h3 (hr _ _ h1) (hr _ _ h2))
    · cases ha
  case index t x i =>
    split at ha
    · rename_i a b h1 h2
      obtain ⟨z, h3, rfl, rfl⟩ := ret1_inv ha
      exact opSim_of_pure hw (aindex_sim w hT h3 (hr _ _ h1) (hr _ _ h2))
    · cases ha
  case lookup t x i ok =>
    split at ha
    · rename_i a b h1 h2
      obtain ⟨z, h3, rfl, rfl⟩ := ret1_inv ha
      exact opSim_of_pure hw (alookup_sim hT hw h3 (hr _ _ h1) (hr _ _ h2))
    · cases ha
  case mapUpdate t m k x =>
    split at ha
    · rename_i a b c h1 h2 h3
      split at ha
      · rename_i h2' hu
        cases ha
        exact opSim_of_unit (amapUpdate_sim hT hw hu (hr _ _ h1) (hr _ _ h2) (hr _ _ h3))
      · cases ha
    · cases ha
  case mapEntry t m k =>
    split at ha
    · rename_i a b h1 h2
      obtain ⟨z, h3, rfl⟩ := ret2_inv ha
      exact opSim_of_simV (amapEntry_sim hT hw h3 (hr _ _ h1) (hr _ _ h2))
    · cases ha
  case entryStore t m s x =>
    split at ha
    · rename_i a b c h1 h2 h3
      split at ha
      · rename_i h2' hu
        cases ha
        exact opSim_of_unit (aentryStore_sim hw t hu (hr _ _ h1) (hr _ _ h2) (hr _ _ h3))
      · cases ha
    · cases ha
  case range t x =>
    split at ha
    · rename_i s h1 h2
      cases ha
      have hs := hr _ _ h2
      simp only [VR] at hs
      have hty := (hT t _ h1).desc
      rw [hs]
      refine opSim_of_simV (AllocSim.simV (k := fun o => .ptr o 0) ⟨.stringIter ⟨s.toArray⟩ 0, _, 0, run_range_string w t ⟨s.toArray⟩ hty, fun β' o hle ho => ⟨?_, fun B0 hB => ⟨heap_push_new, rfl, hB⟩⟩⟩ hw)
      simp only [VR]
      exact ⟨_, ho, rfl⟩
    · cases ha
  case next it isStr =>
    split at ha
    · rename_i o h1
      split at ha
      · rename_i v' h2' hn
        cases ha
        have hs := hr _ _ h1
        simp only [VR] at hs
        obtain ⟨L, hL, hs⟩ := hs
        unfold anext at hn
        split at hn
        · rename_i s pos hg
          obtain ⟨hb, hoff, hB⟩ := hw.obj o _ L hg hL
          rw [hoff] at hs
          rw [hs]
          cases hlt : Nat.blt pos s.size with
          | true =>
            rw [hlt] at hn
            cases hn
            have hp : pos < s.size := by simpa using hlt
            have hrun := Lib.run_next_any_at (P := P) w L.b s pos ty hb hp
            have hit := Lib.iterAt_heap w L.b s pos (pos + (Utf8.decode s pos).2) hb
            obtain ⟨t1, t2⟩ := hw.turn (y := .raw (.stringIter s (pos + (Utf8.decode s pos).2))) (w' := w.iterAt L.b s (pos + (Utf8.decode s pos).2)) hg rfl hL ⟨hit, hoff, hB⟩ rfl rfl rfl (Lib.iterAt_size _ _ _ _) (fun k hk => Lib.iterAt_other w L.b k s _ hk)
            refine opSim_of_simV ⟨β, _, _, hrun, fun x hx => ?_, t1, t2⟩
            cases hx
            simp only [VR, VRL]
            exact ⟨_, ⟨_, _, rfl, ⟨_, _, rfl, ⟨_, _, rfl, rfl, rfl⟩, rfl⟩, rfl⟩, rfl⟩
          | false =>
            rw [hlt] at hn
            cases hn
            have hp : ¬ pos < s.size := fun hc => by rw [Nat.blt_eq.mpr hc] at hlt; cases hlt
            have hrun := Lib.run_next_end_at (P := P) w L.b s pos ty hb hp
            refine opSim_of_simV ⟨β, _, _, hrun, fun x hx => ?_, hw, Goes.refl _ _⟩
            cases hx
            simp only [VR, VRL]
            exact ⟨_, ⟨_, _, rfl, rfl, rfl⟩, rfl⟩
        · cases hn
      · cases ha
    · cases ha
  case extract x i =>
    split at ha
    · rename_i vs h1
      obtain ⟨z, h3, rfl, rfl⟩ := ret1_inv ha
      have := hr _ _ h1
      simp only [VR] at this
      obtain ⟨Vs, hV, e⟩ := this
      obtain ⟨V, r1, r2⟩ := hV.get _ _ h3
      refine opSim_of_pure hw ⟨V, ?_, r2⟩
      rw [e]
      simp [Instr.extract, r1]
    · cases ha
  case call cc =>
    split at ha
    · rename_i as hargs
      have hV := aevL_sim hr hargs
      split at ha
      · rename_i f hf
        split at ha
        · rename_i g hg
          unfold acallV at ha
          split at ha <;> cases ha
        · cases ha
      · rename_i b hb
        obtain ⟨callee, cargs, cty⟩ := cc
        simp only at hb hV hargs ha
        subst hb
        have hres : ∀ (S : Sem Value) (Vs : List Value), cargs.toList.map σ = Vs → (∀ consts, builtin b cty ty consts Vs.toArray = (do pure (.value (← S)) : Sem Next)) → SimV P w0 β h w S v h' →
            OpSim P w0 β h w (do let d ← resolve σ { callee := .builtin b, args := cargs, argTypes := cty } ty; invoke d.target d.args) v h' := by
          intro S Vs hVs hbu hS
          have := opSim_of_simV hS
          obtain ⟨β', w', nx, q1, q2⟩ := this
          refine ⟨β', w', nx, ?_, q2⟩
          have hmap : cargs.map σ = Vs.toArray := by rw [← hVs]; apply Array.ext'; simp
          simp only [resolve, Sem.run_bind, Sem.run_pure, Result.andThen_ok, invoke, hmap, hbu]
          simpa only [Sem.run_bind, Sem.run_pure] using q1
        split at ha
        · rename_i s x ts tx hty
          obtain ⟨z, h3, rfl⟩ := ret2_inv ha
          obtain ⟨S, Vs1, s1, s2, e1⟩ := hV.cons_inv
          obtain ⟨X, Vs2, x1, x2, rfl⟩ := s2.cons_inv
          obtain rfl := x2.nil_inv
          have hct : cty = #[ts, tx] := by rw [← hty]
          refine hres (Builtin.append_ cty ty #[S, X]) [S, X] e1 (fun _ => rfl) ?_
          rw [hct]
          exact aappend_sim hT hw h3 s1 x1
        · rename_i x t hty
          obtain ⟨z, h3, rfl, rfl⟩ := ret1_inv ha
          obtain ⟨X, Vs1, s1, s2, e1⟩ := hV.cons_inv
          obtain rfl := s2.nil_inv
          have hct : cty = #[t] := by rw [← hty]
          refine hres (Builtin.len_ cty ty #[X]) [X] e1 (fun _ => rfl) ?_
          rw [hct]
          obtain ⟨V, q1, q2⟩ := alen_sim (ty := ty) hT hw h3 s1
          exact ⟨β, V, w, q1, fun y hy => by cases hy; exact q2, hw, Goes.refl _ _⟩
        · rename_i m k t rest hty
          split at ha
          · rename_i h2' hd
            cases ha
            obtain ⟨M, Vs1, s1, s2, e1⟩ := hV.cons_inv
            obtain ⟨K, Vs2, x1, x2, rfl⟩ := s2.cons_inv
            obtain rfl := x2.nil_inv
            have hct : cty = (t :: rest).toArray := by rw [← hty]
            refine hres (Builtin.delete_ cty ty #[M, K]) [M, K] e1 (fun _ => rfl) ?_
            rw [hct]
            obtain ⟨w', q1, q2, q3⟩ := adelete_sim hT hw rest ty hd s1 x1
            exact ⟨β, _, w', q1, fun y hy => by cases hy; simp only [VR]; exact ⟨[], VRL.nil, rfl⟩, q2, q3⟩
          · cases ha
        · rename_i x y
          obtain ⟨z, h3, rfl, rfl⟩ := ret1_inv ha
          obtain ⟨X, Vs1, s1, s2, e1⟩ := hV.cons_inv
          obtain ⟨Y, Vs2, x1, x2, rfl⟩ := s2.cons_inv
          obtain rfl := x2.nil_inv
          refine hres (Builtin.min_ cty ty #[X, Y]) [X, Y] e1 (fun _ => rfl) ?_
          obtain ⟨V, q1, q2⟩ := amin_sim (P := P) w cty ty h3 s1 x1
          exact ⟨β, V, w, q1, fun y hy => by cases hy; exact q2, hw, Goes.refl _ _⟩
        · rename_i x y
          obtain ⟨z, h3, rfl, rfl⟩ := ret1_inv ha
          obtain ⟨X, Vs1, s1, s2, e1⟩ := hV.cons_inv
          obtain ⟨Y, Vs2, x1, x2, rfl⟩ := s2.cons_inv
          obtain rfl := x2.nil_inv
          refine hres (Builtin.max_ cty ty #[X, Y]) [X, Y] e1 (fun _ => rfl) ?_
          obtain ⟨V, q1, q2⟩ := amax_sim (P := P) w cty ty h3 s1 x1
          exact ⟨β, V, w, q1, fun y hy => by cases hy; exact q2, hw, Goes.refl _ _⟩
        · cases ha
      · cases ha
    · cases ha

end
end Go.Am
