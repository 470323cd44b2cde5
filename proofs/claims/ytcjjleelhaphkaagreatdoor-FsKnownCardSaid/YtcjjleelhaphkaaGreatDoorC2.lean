/-
  What a plan says; operations that do not hang on the heap, or make one block.
-/
import Derived.Test.YtcjjleelhaphkaaGreatDoorC1
import Derived.OrdersIn
set_option linter.unusedVariables false
set_option linter.unusedSimpArgs false
namespace Go.Am

section congr
variable {T : Tab}

theorem aevL_congr {ρ ρ' : Operand → Option AV} : ∀ {xs : List Operand}, (∀ x ∈ xs, ρ x = ρ' x) → aevL ρ xs = aevL ρ' xs
  | [], _ => rfl
  | x :: xs, h => by
    simp only [aevL]
    rw [h x List.mem_cons_self, aevL_congr fun y hy => h y (List.mem_cons_of_mem _ hy)]

theorem parts_congr {ρ ρ' : Operand → Option AV} : ∀ {xs : List (Nat × Operand)}, (∀ x ∈ xs, ρ x.2 = ρ' x.2) → parts ρ xs = parts ρ' xs
  | [], _ => rfl
  | (i, x) :: xs, h => by
    simp only [parts]
    rw [h (i, x) List.mem_cons_self, parts_congr fun y hy => h y (List.mem_cons_of_mem _ hy)]

theorem map_congr' {ρ ρ' : Operand → Option AV} {x : Option Operand} (h : ∀ y, x = some y → ρ y = ρ' y) : x.map ρ = x.map ρ' := by
  cases x with
  | none => rfl
  | some y => simp [h y rfl]

theorem aop_congr {ρ ρ' : Operand → Option AV} (h : AHeap) (op : Op) (hr : ∀ x ∈ op.operands, ρ x = ρ' x) : aop T ρ h op = aop T ρ' h op := by
  cases op <;> simp only [aop]
  case move x => rw [hr x (by simp [Op.operands])]
  case assign x => rw [hr x (by simp [Op.operands])]
  case pick c a b => rw [hr c (by simp [Op.operands]), hr a (by simp [Op.operands]), hr b (by simp [Op.operands])]
  case box e x => rw [hr x (by simp [Op.operands])]
  case build t ps => rw [parts_congr (ρ := ρ) (ρ' := ρ') fun x hx => hr x.2 (by simp only [Op.operands, List.mem_toArray, List.mem_map]; exact ⟨x, hx, rfl⟩)]
  case buildSlice t n ps => rw [parts_congr (ρ := ρ) (ρ' := ρ') fun x hx => hr x.2 (by simp only [Op.operands, List.mem_toArray, List.mem_map]; exact ⟨x, hx, rfl⟩)]
  case insert t m k x => rw [hr m (by simp [Op.operands]), hr k (by simp [Op.operands]), hr x (by simp [Op.operands])]
  case load t a => rw [hr a (by simp [Op.operands])]
  case store t a x => rw [hr a (by simp [Op.operands]), hr x (by simp [Op.operands])]
  case nilCheck x => rw [hr x (by simp [Op.operands])]
  case binOp op t x y yt => rw [hr x (by simp [Op.operands]), hr y (by simp [Op.operands])]
  case unOp op t x => rw [hr x (by simp [Op.operands])]
  case convert s d x => rw [hr x (by simp [Op.operands])]
  case makeFunc fn first captured =>
    rw [aevL_congr (ρ := ρ) (ρ' := ρ') (xs := first.toList) fun x hx => hr x (by simp only [Op.operands, Array.mem_append]; exact .inl (by simpa using hx)),
      aevL_congr (ρ := ρ) (ρ' := ρ') (xs := captured.toList) fun x hx => hr x (by simp only [Op.operands, Array.mem_append]; exact .inr (by simpa using hx))]
  case makeMap t r =>
    cases r with
    | none => rfl
    | some r => simp only; rw [hr r (by simp [Op.operands])]
  case makeSlice t l c => rw [hr l (by simp [Op.operands]), hr c (by simp [Op.operands])]
  case slice t x lo hi mx =>
    rw [hr x (by simp [Op.operands]), map_congr' (ρ := ρ) (ρ' := ρ') (x := lo) fun y hy => hr y (by subst hy; simp [Op.operands]), map_congr' (ρ := ρ) (ρ' := ρ') (x := hi) fun y hy => hr y (by subst hy; simp [Op.operands])]
  case fieldAddr s x f => rw [hr x (by simp [Op.operands])]
  case field s x f => rw [hr x (by simp [Op.operands])]
  case indexAddr t x i => rw [hr x (by simp [Op.operands]), hr i (by simp [Op.operands])]
  case index t x i => rw [hr x (by simp [Op.operands]), hr i (by simp [Op.operands])]
  case lookup t x i ok => rw [hr x (by simp [Op.operands]), hr i (by simp [Op.operands])]
  case mapUpdate t m k x => rw [hr m (by simp [Op.operands]), hr k (by simp [Op.operands]), hr x (by simp [Op.operands])]
  case mapEntry t m k => rw [hr m (by simp [Op.operands]), hr k (by simp [Op.operands])]
  case entryStore t m s x => rw [hr m (by simp [Op.operands]), hr s (by simp [Op.operands]), hr x (by simp [Op.operands])]
  case range t x => rw [hr x (by simp [Op.operands])]
  case next it isStr => rw [hr it (by simp [Op.operands])]
  case extract x i => rw [hr x (by simp [Op.operands])]
  case call c =>
    rw [aevL_congr (ρ := ρ) (ρ' := ρ') (xs := c.args.toList) fun x hx => hr x (by simp only [Op.operands, Call.operands, Array.mem_append]; exact .inr (by simpa using hx))]
    cases hc : c.callee with
    | value f => simp only; rw [hr f (by simp [Op.operands, Call.operands, hc])]
    | invoke r m => rfl
    | builtin b => rfl

/-- What is pure does not hang on the heap. -/
theorem aop_pure {ρ : Operand → Option AV} {h h1 : AHeap} {op : Op} {v : Option AV} (hc : clsOf T op = .pure) (ha : aop T ρ h op = some (.val v h1)) : h1 = h ∧ ∀ h2, aop T ρ h2 op = some (.val v h2) := by
  have r1 : ∀ {r}, ret1 h r = some (.val v h1) → h1 = h ∧ ∀ h2, ret1 h2 r = some (.val v h2) := by
    intro r hr
    obtain ⟨x, rfl, rfl, rfl⟩ := ret1_inv hr
    exact ⟨rfl, fun _ => rfl⟩
  cases op <;> simp only [clsOf, reduceCtorEq] at hc <;> simp only [aop] at ha ⊢
  case move => cases ha; exact ⟨rfl, fun _ => rfl⟩
  case assign => cases ha; exact ⟨rfl, fun _ => rfl⟩
  case pick => split at ha <;> cases ha; exact ⟨rfl, fun _ => rfl⟩
  case build => split at ha <;> first | exact r1 ha | cases ha
  case nilCheck => split at ha <;> cases ha <;> exact ⟨rfl, fun _ => rfl⟩
  case binOp => split at ha <;> first | exact r1 ha | cases ha
  case unOp => split at ha <;> first | exact r1 ha | cases ha
  case makeFunc => split at ha <;> first | (split at ha <;> cases ha; exact ⟨rfl, fun _ => rfl⟩) | cases ha
  case slice => split at ha <;> first | exact r1 ha | cases ha
  case fieldAddr => split at ha <;> first | exact r1 ha | cases ha
  case field => split at ha <;> first | exact r1 ha | cases ha
  case indexAddr => split at ha <;> first | exact r1 ha | cases ha
  case index => split at ha <;> first | exact r1 ha | cases ha
  case extract => split at ha <;> first | exact r1 ha | cases ha
  case convert s d x =>
    split at hc
    · rename_i k _ _ _ _ hd
      split at ha
      · rename_i a hx
        obtain ⟨z, h2, rfl⟩ := ret2_inv ha
        unfold aconvert at h2 ⊢
        rw [hd] at h2 ⊢
        cases hs : T.get s with
        | none => rw [hs] at h2; cases h2
        | some st =>
          obtain ⟨ds, _, _, _, _⟩ := st
          rw [hs] at h2
          cases a <;> simp only [reduceCtorEq, Option.some.injEq, Prod.mk.injEq] at h2
          obtain ⟨rfl, rfl⟩ := h2
          exact ⟨rfl, fun _ => rfl⟩
      · cases ha
    · cases hc
    · cases hc
  case call c =>
    split at ha
    · rename_i as hargs
      cases hcal : c.callee with
      | value f => rw [hcal] at hc; cases hc
      | invoke r m => rw [hcal] at ha; cases ha
      | builtin b =>
        rw [hcal] at hc ha
        cases b <;> simp only [reduceCtorEq] at hc <;> simp only at ha ⊢
        all_goals split at ha <;> first | exact r1 ha | contradiction | (cases ha; done)
    · cases ha

/-- What is converted to a text, is read. -/
theorem aconvert_str {h h1 : AHeap} {s d : Nat} {a z : AV} {n b : Nat} {g : Bool} {zz : AV} (hd : T.get d = some ⟨.str, n, b, g, zz⟩) (ha : aconvert T h s d a = some (z, h1)) :
    h1 = h ∧ ∀ h2 : AHeap, (∀ o y, h.get o = some y → h2.get o = some y) → aconvert T h2 s d a = some (z, h2) := by
  unfold aconvert at ha ⊢
  rw [hd] at ha ⊢
  cases hs : T.get s with
  | none => rw [hs] at ha; cases ha
  | some ts =>
    obtain ⟨ds, _, _, _, _⟩ := ts
    rw [hs] at ha
    simp only at ha ⊢
    have row : ∀ {x : AV} {cs : List AV} {h2 : AHeap}, (∀ o y, h.get o = some y → h2.get o = some y) → rowOf h x 1 = some cs → rowOf h2 x 1 = some cs := by
      intro x cs h2 hh hr
      cases x <;> simp only [rowOf] at hr ⊢ <;> try exact hr
      rename_i o off len e
      cases hb : Nat.beq e 1 with
      | false => rw [hb] at hr; cases hr
      | true =>
        rw [hb] at hr
        simp only [cond_true] at hr ⊢
        cases ho : h.get o with
        | none => rw [ho] at hr; cases hr
        | some y =>
          rw [ho] at hr
          rw [hh o y ho]
          exact hr
    cases a
    case str t => cases ha; exact ⟨rfl, fun _ _ => rfl⟩
    all_goals
      cases ds <;> simp only [reduceCtorEq] at ha ⊢
      rename_i e
      cases he : T.get e with
      | none => rw [he] at ha; cases ha
      | some te =>
        rw [he] at ha
        try simp only at ha ⊢
        split at ha
        · rename_i hte
          split at ha
          · rename_i cs hcs
            split at ha
            · rename_i bs hbs
              cases ha
              refine ⟨rfl, fun h2 hh => ?_⟩
              simp only [hte, row hh hcs, hbs]
            · cases ha
          · cases ha
        · cases ha

/-- What reads leaves the heap as it is. -/
theorem aop_read {ρ : Operand → Option AV} {h h1 : AHeap} {op : Op} {v : Option AV} (hc : clsOf T op = .read) (ha : aop T ρ h op = some (.val v h1)) : h1 = h := by
  have r1 : ∀ {r}, ret1 h r = some (.val v h1) → h1 = h := by
    intro r hr
    obtain ⟨x, rfl, rfl, rfl⟩ := ret1_inv hr
    rfl
  cases op <;> simp only [clsOf, reduceCtorEq] at hc <;> simp only [aop] at ha
  case load => split at ha <;> first | exact r1 ha | cases ha
  case lookup => split at ha <;> first | exact r1 ha | cases ha
  case convert s d x =>
    split at hc
    · cases hc
    · rename_i hd
      split at ha
      · obtain ⟨z, h2, rfl⟩ := ret2_inv ha
        exact (aconvert_str hd h2).1
      · cases ha
    · cases hc
  case call c =>
    split at ha
    · rename_i as hargs
      cases hcal : c.callee with
      | value f => rw [hcal] at hc; cases hc
      | invoke r m => rw [hcal] at ha; cases ha
      | builtin b =>
        rw [hcal] at hc ha
        cases b <;> simp only [reduceCtorEq] at hc <;> simp only at ha
        all_goals split at ha <;> first | exact r1 ha | contradiction | (cases ha; done)
    · cases ha

/-- What reads reads the same in a heap that has an object more. -/
theorem aop_read_add {ρ : Operand → Option AV} {h : AHeap} {op : Op} {v : Option AV} (x : AObj) (hwf : h.get h.next = none) (hc : clsOf T op = .read) (ha : aop T ρ h op = some (.val v h)) : aop T ρ (h.add x) op = some (.val v (h.add x)) := by
  have hget : ∀ o y, h.get o = some y → (h.add x).get o = some y := fun o y e => by
    rw [AHeap.get_add_ne _ _ (fun e' => by subst e'; rw [hwf] at e; cases e)]; exact e
  have r1 : ∀ {r r'}, (∀ z, r = some z → r' = some z) → ret1 h r = some (.val v h) → ret1 (h.add x) r' = some (.val v (h.add x)) := by
    intro r r' hrr hr
    obtain ⟨z, rfl, rfl, _⟩ := ret1_inv hr
    rw [hrr z rfl]; rfl
  cases op <;> simp only [clsOf, reduceCtorEq] at hc <;> simp only [aop] at ha ⊢
  case load t a =>
    split at ha
    · refine r1 (fun z hz => ?_) ha
      unfold aload at hz ⊢
      split at hz
      · rename_i vs rw' ty ho ht
        rw [hget _ _ ho, ht]
        exact hz
      · cases hz
    · cases ha
  case lookup t a i ok =>
    split at ha
    · rename_i x k hx hk
      refine r1 (fun z hz => ?_) ha
      unfold alookup at hz ⊢
      cases ht : T.get t with
      | none => rw [ht] at hz; cases hz
      | some ty =>
        rw [ht] at hz
        obtain ⟨d, _, _, _, _⟩ := ty
        cases d <;> simp only [reduceCtorEq] at hz
        rename_i kind e
        simp only
        cases hok : keyOk kind k with
        | false => rw [hok] at hz; cases hz
        | true =>
          rw [hok] at hz
          simp only [cond_true] at hz ⊢
          cases he : T.get e with
          | none => rw [he] at hz; cases hz
          | some te =>
            rw [he] at hz
            simp only at hz ⊢
            cases x <;> simp only [reduceCtorEq] at hz ⊢
            case nilmap => exact hz
            case map o =>
              cases ho : h.get o with
              | none => rw [ho] at hz; cases hz
              | some y =>
                rw [ho] at hz
                rw [hget _ _ ho]
                exact hz
    · cases ha
  case convert s d y =>
    split at hc
    · cases hc
    · rename_i hd
      split at ha
      · rename_i a hx
        obtain ⟨z, h2, rfl⟩ := ret2_inv ha
        rw [(aconvert_str hd h2).2 (h.add x) hget]
        rfl
      · cases ha
    · cases hc
  case call c =>
    split at ha
    · rename_i as hargs
      cases hcal : c.callee with
      | value f => rw [hcal] at hc; cases hc
      | invoke r m => rw [hcal] at ha; cases ha
      | builtin b =>
        rw [hcal] at hc ha
        cases b <;> simp only [reduceCtorEq] at hc <;> simp only at ha ⊢
        split at ha <;> first | contradiction | skip
        · rename_i y t _ _
          refine r1 (fun z hz => ?_) ha
          unfold alen at hz ⊢
          cases ht : T.get t with
          | none => rw [ht] at hz; cases hz
          | some ty =>
            rw [ht] at hz
            obtain ⟨d, _, _, _, _⟩ := ty
            cases d <;> cases y <;> simp only [reduceCtorEq] at hz ⊢ <;> first | exact hz | skip
            rename_i o
            cases ho : h.get o with
            | none => rw [ho] at hz; cases hz
            | some y =>
              rw [ho] at hz
              rw [hget _ _ ho]
              exact hz
    · cases ha

/-- What makes a block: one object more; what it is, and its value by its number; and so it is in the model. -/
theorem aop_alloc {P : Program} (hT : TabOK P T) {ρ : Operand → Option AV} {h h1 : AHeap} {o : Oper} {v : Option AV} (hc : clsOf T o.op = .alloc) (ha : aop T ρ h o.op = some (.val v h1)) :
    ∃ x k, v = some (k h.next) ∧ h1 = h.add x ∧ ∀ β (w : World) σ, RhoR β ρ σ → ∃ S : Sem Value, execOp σ o = (do pure (.value (← S))) ∧ AllocSim P β w S x k := by
  obtain ⟨dst, op, ty, pos, after, guard⟩ := o
  simp only at hc ha
  unfold execOp
  simp only
  cases op <;> simp only [clsOf, reduceCtorEq] at hc <;> simp only [aop] at ha ⊢
  case alloc e =>
    split at ha
    · rename_i te he
      obtain ⟨x, h2, rfl⟩ := ret2_inv ha
      obtain ⟨hone, rfl, rfl⟩ := newCells_inv h2
      exact ⟨.cells te.zero.cells true, fun o => .ptr o 0, rfl, rfl, fun β w σ _ => ⟨_, rfl, alloc_alloc w hT he hone⟩⟩
    · cases ha
  case box e x =>
    split at ha
    · rename_i xv hx
      obtain ⟨y, h2, rfl⟩ := ret2_inv ha
      obtain ⟨hone, rfl, rfl⟩ := newCells_inv h2
      exact ⟨.cells xv.cells true, fun o => .ptr o 0, rfl, rfl, fun β w σ hr => ⟨_, rfl, alloc_box w e (hr x _ hx) hone⟩⟩
    · cases ha
  case buildSlice t len ps =>
    split at ha
    · rename_i qs hq
      obtain ⟨x, h2, rfl⟩ := ret2_inv ha
      obtain ⟨ob, k, rfl, rfl, hA⟩ := alloc_buildSlice hT h2
      exact ⟨ob, k, rfl, rfl, fun β w σ hr => ⟨_, rfl, hA β w _ (by simpa using parts_sim hr hq)⟩⟩
    · cases ha
  case makeMap t r =>
    split at ha
    · rename_i hty
      have hd := (hT t _ hty).desc
      obtain ⟨key, hkey, _⟩ := hd
      have mk : ∀ (β : Inj) (w : World) k, (Instr.makeMap t k).run P w = .ok (.map (some w.heap.size)) (w.alloc (.map #[] 0)) → AllocSim P β w (Instr.makeMap t k) (.map [] 0) (fun o => .map o) := fun β w k hk =>
        ⟨.map #[] 0, _, 0, hk, fun β' o hle ho => ⟨by simp only [VR]; exact ⟨_, ho, rfl⟩, fun B0 hB => ⟨#[], heap_push_new, rfl, hB⟩⟩⟩
      split at ha
      · cases ha
        exact ⟨.map [] 0, fun o => .map o, rfl, rfl, fun β w σ _ => ⟨_, rfl, mk β w none rfl⟩⟩
      · rename_i r'
        split at ha
        · rename_i k n h1
          cases ha
          refine ⟨.map [] 0, fun o => .map o, rfl, rfl, fun β w σ hr => ⟨_, rfl, mk β w _ ?_⟩⟩
          have := hr _ _ h1
          simp only [VR] at this
          simp [Instr.makeMap, run_und w hkey, asInt, asIntOf, this]
        · cases ha
    · cases ha
  case convert => split at hc <;> cases hc
  case call c =>
    cases hcal : c.callee with
    | value f => rw [hcal] at hc; cases hc
    | invoke r m => rw [hcal] at hc; cases hc
    | builtin b =>
      rw [hcal] at hc
      cases b <;> cases hc
end congr

end Go.Am
