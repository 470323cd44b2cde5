/-
  More rounds and calls in one another change no answer; the limit of the abstract machine's environments.
-/
import Derived.Test.YtcjjleelhaphkaaGreatDoorC8
set_option linter.unusedVariables false
set_option linter.unusedSimpArgs false
namespace Go.Am

/-- The environments F come, call by call, to E. -/
def Lim (F : Nat → Env) (E : Env) : Prop := ∀ c args h r, E c args h = some r → ∃ N, ∀ m, N ≤ m → F m c args h = some r

section
variable {T : Tab} {E : Env} {F : Nat → Env}

theorem opGo_lim (hE : Lim F E) {nt : Nat} {o : Oper} {fr : AFrame} {h : AHeap} {x : AFrame × AHeap} (he : opGo E T nt o fr h = some x) : ∃ N, ∀ m, N ≤ m → opGo (F m) T nt o fr h = some x := by
  unfold opGo at he ⊢
  cases ha : aop T (aev fr) h o.op with
  | none => rw [ha] at he; cases he
  | some q =>
    rw [ha] at he
    cases q with
    | val v h' => exact ⟨0, fun m _ => he⟩
    | call c args =>
      simp only at he
      cases hc : E c args h with
      | none => rw [hc] at he; cases he
      | some p =>
        rw [hc] at he
        obtain ⟨N, hN⟩ := hE _ _ _ _ hc
        exact ⟨N, fun m hm => by simp only [hN m hm]; exact he⟩

theorem opStep_lim (hE : Lim F E) {nt : Nat} {ops : List Oper} {o : Oper} {fr : AFrame} {h : AHeap} {x : AFrame × AHeap} (he : opStep E T nt ops o fr h = some x) : ∃ N, ∀ m, N ≤ m → opStep (F m) T nt ops o fr h = some x := by
  unfold opStep at he ⊢
  cases hg : guardOf ops fr o with
  | none => rw [hg] at he; cases he
  | some b =>
    rw [hg] at he
    cases b with
    | true => exact opGo_lim hE he
    | false => exact ⟨0, fun m _ => he⟩

theorem runSeq_lim (hE : Lim F E) {nt : Nat} {ops : List Oper} : ∀ (l : List Oper) {fr : AFrame} {h : AHeap} {x : AFrame × AHeap}, runSeq E T nt ops l fr h = some x → ∃ N, ∀ m, N ≤ m → runSeq (F m) T nt ops l fr h = some x
  | [], fr, h, x, he => ⟨0, fun m _ => he⟩
  | o :: l, fr, h, x, he => by
    simp only [runSeq] at he ⊢
    cases hs : opStep E T nt ops o fr h with
    | none => rw [hs] at he; cases he
    | some p =>
      rw [hs] at he
      obtain ⟨N1, h1⟩ := opStep_lim hE hs
      obtain ⟨N2, h2⟩ := runSeq_lim hE l he
      exact ⟨max N1 N2, fun m hm => by rw [h1 m (by omega)]; exact h2 m (by omega)⟩

theorem runPlan_lim (hE : Lim F E) {nt : Nat} {ops : List Oper} {bef : List Nat} : ∀ (l : List Nat) {fr : AFrame} {h : AHeap} {rds : List (Nat × Option AV)} {x : AFrame × AHeap}, runPlan E T nt ops bef l fr h rds = some x → ∃ N, ∀ m, N ≤ m → runPlan (F m) T nt ops bef l fr h rds = some x
  | [], fr, h, rds, x, he => ⟨0, fun m _ => he⟩
  | i :: l, fr, h, rds, x, he => by
    simp only [runPlan] at he ⊢
    cases ho : ops[i]? with
    | none => rw [ho] at he; cases he
    | some o =>
      rw [ho] at he
      simp only at he ⊢
      cases hg : guardOf ops fr o with
      | none => rw [hg] at he; cases he
      | some b =>
        rw [hg] at he
        cases b with
        | false =>
          simp only at he ⊢
          cases hp : putT nt fr o.dst (some (.tuple [])) with
          | none => rw [hp] at he; cases he
          | some fr' => rw [hp] at he; exact runPlan_lim hE l he
        | true =>
          simp only at he ⊢
          cases hc : clsOf T o.op with
          | eff =>
            rw [hc] at he
            simp only at he ⊢
            cases hq : opGo E T nt o fr h with
            | none => rw [hq] at he; cases he
            | some q =>
              obtain ⟨fr', h'⟩ := q
              rw [hq] at he
              obtain ⟨N1, h1⟩ := opGo_lim hE hq
              simp only at he
              cases hag : again T ops fr' h' (bef.getD i 0) rds with
              | false => rw [hag] at he; cases he
              | true =>
                rw [hag] at he
                obtain ⟨N2, h2⟩ := runPlan_lim hE l he
                exact ⟨max N1 N2, fun m hm => by rw [h1 m (by omega)]; simp only [hag, cond_true]; exact h2 m (by omega)⟩
          | pure =>
            rw [hc] at he
            simp only at he ⊢
            cases hq : aop T (aev fr) h o.op with
            | none => rw [hq] at he; cases he
            | some q =>
              cases q with
              | call c args => rw [hq] at he; cases he
              | val v h' =>
                rw [hq] at he
                simp only at he ⊢
                cases hp : putT nt fr o.dst v with
                | none => rw [hp] at he; cases he
                | some fr' => rw [hp] at he; exact runPlan_lim hE l he
          | read =>
            rw [hc] at he
            simp only at he ⊢
            cases hq : aop T (aev fr) h o.op with
            | none => rw [hq] at he; cases he
            | some q =>
              cases q with
              | call c args => rw [hq] at he; cases he
              | val v h' =>
                rw [hq] at he
                simp only at he ⊢
                cases hp : putT nt fr o.dst v with
                | none => rw [hp] at he; cases he
                | some fr' => rw [hp] at he; exact runPlan_lim hE l he
          | alloc =>
            rw [hc] at he
            simp only at he ⊢
            cases hq : aop T (aev fr) h o.op with
            | none => rw [hq] at he; cases he
            | some q =>
              cases q with
              | call c args => rw [hq] at he; cases he
              | val v h' =>
                rw [hq] at he
                simp only at he ⊢
                cases hp : putT nt fr o.dst v with
                | none => rw [hp] at he; cases he
                | some fr' => rw [hp] at he; exact runPlan_lim hE l he

theorem exec_lim (hE : Lim F E) {A : AFn} {fid nt n : Nat} {rd : Bool} : ∀ (c : Code) {s : ASt} {x : AExit × ASt}, exec E T A fid nt n rd c s = some x → ∃ N, ∀ m, N ≤ m → ∀ n', n ≤ n' → exec (F m) T A fid nt n' rd c s = some x := by
  intro c
  induction c with
  | skip => intro s x he; exact ⟨0, fun m _ n' _ => he⟩
  | label l => intro s x he; exact ⟨0, fun m _ n' _ => he⟩
  | ret => intro s x he; exact ⟨0, fun m _ n' _ => he⟩
  | exit id => intro s x he; exact ⟨0, fun m _ n' _ => he⟩
  | region id ops draw =>
    intro s x he
    simp only [exec] at he ⊢
    cases draw with
    | false =>
      simp only at he ⊢
      cases hr : runSeq E T nt ops.toList ops.toList s.fr s.h with
      | none => rw [hr] at he; cases he
      | some p =>
        rw [hr] at he
        obtain ⟨N, hN⟩ := runSeq_lim hE _ hr
        exact ⟨N, fun m hm n' _ => by rw [hN m hm]; exact he⟩
    | true =>
      simp only at he ⊢
      cases hp : A.plan.get id with
      | none => rw [hp] at he; cases he
      | some p =>
        obtain ⟨order, bef⟩ := p
        rw [hp] at he
        simp only at he ⊢
        cases hok : planOk T ops.toList order bef with
        | false => rw [hok] at he; cases he
        | true =>
          rw [hok] at he
          simp only [cond_true] at he ⊢
          cases hr : runPlan E T nt ops.toList bef order s.fr s.h [] with
          | none => rw [hr] at he; cases he
          | some p =>
            rw [hr] at he
            obtain ⟨N, hN⟩ := runPlan_lim hE _ hr
            exact ⟨N, fun m hm n' _ => by rw [hN m hm]; exact he⟩
  | seq a b iha ihb =>
    intro s x he
    simp only [exec] at he ⊢
    cases ha : exec E T A fid nt n rd a s with
    | none => rw [ha] at he; cases he
    | some p =>
      obtain ⟨e, s1⟩ := p
      rw [ha] at he
      obtain ⟨N1, h1⟩ := iha ha
      cases e with
      | normal =>
        obtain ⟨N2, h2⟩ := ihb he
        exact ⟨max N1 N2, fun m hm n' hn => by rw [h1 m (by omega) n' hn]; exact h2 m (by omega) n' hn⟩
      | exit id => exact ⟨N1, fun m hm n' hn => by rw [h1 m hm n' hn]; exact he⟩
      | ret => exact ⟨N1, fun m hm n' hn => by rw [h1 m hm n' hn]; exact he⟩
  | cond c a b iha ihb =>
    intro s x he
    simp only [exec] at he ⊢
    cases hc : aev s.fr c with
    | none => rw [hc] at he; cases he
    | some v =>
      rw [hc] at he
      cases v <;> try cases he
      rename_i t
      cases t with
      | true => exact iha he
      | false => exact ihb he
  | block id b ih =>
    intro s x he
    simp only [exec] at he ⊢
    cases hb : exec E T A fid nt n rd b s with
    | none => rw [hb] at he; cases he
    | some p =>
      rw [hb] at he
      obtain ⟨N, hN⟩ := ih hb
      exact ⟨N, fun m hm n' hn => by rw [hN m hm n' hn]; exact he⟩
  | loop b ih =>
    intro s x he
    simp only [exec] at he ⊢
    have key : ∀ (k : Nat) {s : ASt}, iter (exec E T A fid nt n rd b) (clean A (firstRegion b)) k s = some x → ∃ N, ∀ m, N ≤ m → ∀ n', n ≤ n' → ∀ k', k ≤ k' → iter (exec (F m) T A fid nt n' rd b) (clean A (firstRegion b)) k' s = some x := by
      intro k
      induction k with
      | zero => intro s hi; cases hi
      | succ k ihk =>
        intro s hi
        simp only [iter] at hi
        cases hb : exec E T A fid nt n rd b (clean A (firstRegion b) s) with
        | none => rw [hb] at hi; cases hi
        | some p =>
          obtain ⟨e, s1⟩ := p
          rw [hb] at hi
          obtain ⟨N1, h1⟩ := ih hb
          cases e with
          | normal =>
            obtain ⟨N2, h2⟩ := ihk hi
            refine ⟨max N1 N2, fun m hm n' hn k' hk => ?_⟩
            obtain ⟨k1, rfl⟩ : ∃ k1, k' = k1 + 1 := ⟨k' - 1, by omega⟩
            simp only [iter]
            rw [h1 m (by omega) n' hn]
            exact h2 m (by omega) n' hn k1 (by omega)
          | exit id =>
            refine ⟨N1, fun m hm n' hn k' hk => ?_⟩
            obtain ⟨k1, rfl⟩ : ∃ k1, k' = k1 + 1 := ⟨k' - 1, by omega⟩
            simp only [iter]
            rw [h1 m hm n' hn]; exact hi
          | ret =>
            refine ⟨N1, fun m hm n' hn k' hk => ?_⟩
            obtain ⟨k1, rfl⟩ : ∃ k1, k' = k1 + 1 := ⟨k' - 1, by omega⟩
            simp only [iter]
            rw [h1 m hm n' hn]; exact hi
    obtain ⟨N, hN⟩ := key n he
    exact ⟨N, fun m hm n' hn => hN m hm n' hn n' hn⟩
  | scope b ih =>
    intro s x he
    simp only [exec] at he ⊢
    exact ih he
  | rangeFunc f ps assign body =>
    intro s x he
    simp only [exec] at he ⊢
    cases rd with
    | true => cases he
    | false =>
      simp only at he ⊢
      cases hf : aev s.fr f with
      | none => rw [hf] at he; cases he
      | some g =>
        rw [hf] at he
        simp only at he ⊢
        split at he
        case h_2 => cases he
        rename_i f1 args hc
        split at he
        case h_2 => cases he
        rename_i rv h3 hEc
        obtain ⟨N, hN⟩ := hE _ _ _ _ hEc
        exact ⟨N, fun m hm n' _ => by simp only [hc, hN m hm]; exact he⟩
  | _ => intro s x he; simp [exec] at he

theorem callFn_lim (hE : Lim F E) {A : AFn} {fid n : Nat} {args : List AV} {h : AHeap} {x : AV × AHeap} (he : callFn E T A fid n args h = some x) : ∃ N, ∀ m, N ≤ m → ∀ n', n ≤ n' → callFn (F m) T A fid n' args h = some x := by
  unfold callFn at he ⊢
  cases hb : A.fn.body with
  | none => rw [hb] at he; cases he
  | some c =>
    rw [hb] at he
    simp only at he ⊢
    cases hl : Nat.ble args.length A.fn.ntmps with
    | false => rw [hl] at he; cases he
    | true =>
      rw [hl] at he
      simp only [cond_true] at he ⊢
      cases hx : exec E T A fid A.fn.ntmps n false c { fr := initFrame args 0, ms := [], h } with
      | none => rw [hx] at he; cases he
      | some p =>
        rw [hx] at he
        obtain ⟨N, hN⟩ := exec_lim hE c hx
        exact ⟨N, fun m hm n' hn => by rw [hN m hm n' hn]; exact he⟩

theorem callRound_lim (hE : Lim F E) {Fs : PT AFn} {n l : Nat} {args : List AV} {h : AHeap} {x : AV × AHeap} (he : callRound E T Fs n l args h = some x) : ∃ N, ∀ m, N ≤ m → ∀ n', n ≤ n' → callRound (F m) T Fs n' l args h = some x := by
  unfold callRound at he
  split at he
  case h_2 => cases he
  rename_i L hl
  split at he
  case h_2 => cases he
  rename_i A hA
  cases hb : Nat.beq args.length L.params.length && inBounds L.nt L.params with
  | false => rw [hb] at he; cases he
  | true =>
    rw [hb] at he
    simp only [cond_true] at he
    split at he
    case h_2 => cases he
    rename_i s1 he1
    obtain ⟨N1, h1⟩ := exec_lim hE _ he1
    split at he
    case h_2 => cases he
    rename_i L1 hl1
    split at he
    case h_2 => cases he
    rename_i hst
    split at he
    case h_2 => cases he
    rename_i e s2 he2
    obtain ⟨N2, h2⟩ := exec_lim hE _ he2
    refine ⟨max N1 N2, fun m hm n' hn => ?_⟩
    unfold callRound
    simp only [hl, hA, hb, cond_true, h1 m (by omega) n' hn, hl1, hst, h2 m (by omega) n' hn]
    exact he

/-- A library function's answer needs but finitely much of the environment. -/
def PrimLim (p : Env → List AV → AHeap → Option (AV × AHeap)) : Prop :=
  ∀ (F : Nat → Env) (E : Env), Lim F E → ∀ args h r, p E args h = some r → ∃ N, ∀ m, N ≤ m → p (F m) args h = some r

def Prims.Lim (Pr : Prims) : Prop := ∀ f p, Pr f = some p → PrimLim p

theorem primLim_const {q : List AV → AHeap → Option (AV × AHeap)} : PrimLim fun _ => q := fun F E _ args h r he => ⟨0, fun m _ => he⟩

variable {Fs : PT AFn} {Pr : Prims}

/-- One step of the environments. -/
theorem mkE_step (hP : Pr.Lim) (hE : Lim F E) {n : Nat} {c : ACallee} {args : List AV} {h : AHeap} {r : AV × AHeap}
    (he : (match c with
      | .fn f => match Pr f with
        | some p => p E args h
        | none => match Fs.get f with
          | some A => callFn E T A f n args h
          | none => none
      | .enter f => match Pr f with
        | some _ => none
        | none => match Fs.get f with
          | some A => callFn E T A f n args h
          | none => none
      | .yield l => callRound E T Fs n l args h) = some r) :
    ∃ N, ∀ m, N ≤ m → ∀ n', n ≤ n' → (match c with
      | .fn f => match Pr f with
        | some p => p (F m) args h
        | none => match Fs.get f with
          | some A => callFn (F m) T A f n' args h
          | none => none
      | .enter f => match Pr f with
        | some _ => none
        | none => match Fs.get f with
          | some A => callFn (F m) T A f n' args h
          | none => none
      | .yield l => callRound (F m) T Fs n' l args h) = some r := by
  cases c with
  | fn f =>
    simp only at he ⊢
    cases hp : Pr f with
    | some p =>
      rw [hp] at he
      obtain ⟨N, hN⟩ := hP f p hp F E hE _ _ _ he
      exact ⟨N, fun m hm n' _ => hN m hm⟩
    | none =>
      rw [hp] at he
      cases ha : Fs.get f with
      | none => rw [ha] at he; cases he
      | some A => rw [ha] at he; exact callFn_lim hE he
  | enter f =>
    simp only at he ⊢
    cases hp : Pr f with
    | some p => rw [hp] at he; cases he
    | none =>
      rw [hp] at he
      cases ha : Fs.get f with
      | none => rw [ha] at he; cases he
      | some A => rw [ha] at he; exact callFn_lim hE he
  | yield l => exact callRound_lim hE he

theorem mkE_le (hP : Pr.Lim) : ∀ (n : Nat) {m : Nat}, n ≤ m → ∀ c args h r, mkE T Fs Pr n c args h = some r → mkE T Fs Pr m c args h = some r
  | 0, m, hm, c, args, h, r, he => by cases he
  | n + 1, m, hm, c, args, h, r, he => by
    obtain ⟨k, rfl⟩ : ∃ k, m = k + 1 := ⟨m - 1, by omega⟩
    have hE : Lim (fun _ => mkE T Fs Pr k) (mkE T Fs Pr n) := fun c args h r he => ⟨0, fun _ _ => mkE_le hP n (by omega) c args h r he⟩
    obtain ⟨N, hN⟩ := mkE_step (T := T) (Fs := Fs) (c := c) (args := args) (h := h) (r := r) (n := n) hP hE (by
      simp only [mkE] at he
      exact he)
    have := hN N (Nat.le_refl _) k (by omega)
    simp only [mkE]
    exact this

/-- The limit: what comes of a call, however many rounds and calls it takes. -/
noncomputable def EE (T : Tab) (Fs : PT AFn) (Pr : Prims) : Env := fun c args h =>
  open Classical in if hx : ∃ r n, mkE T Fs Pr n c args h = some r then some hx.choose else none

theorem EE_iff (hP : Pr.Lim) {c : ACallee} {args : List AV} {h : AHeap} {r : AV × AHeap} : EE T Fs Pr c args h = some r ↔ ∃ n, mkE T Fs Pr n c args h = some r := by
  unfold EE
  constructor
  · intro he
    split at he
    · rename_i hx
      cases he
      exact hx.choose_spec
    · cases he
  · rintro ⟨n, hn⟩
    have hx : ∃ r n, mkE T Fs Pr n c args h = some r := ⟨r, n, hn⟩
    rw [dif_pos hx]
    obtain ⟨n', hn'⟩ := hx.choose_spec
    have h1 := mkE_le hP n (Nat.le_max_left n n') c args h r hn
    have h2 := mkE_le hP n' (Nat.le_max_right n n') c args h _ hn'
    rw [h1] at h2
    exact h2.symm

theorem lim_EE (hP : Pr.Lim) : Lim (mkE T Fs Pr) (EE T Fs Pr) := fun c args h r he => by
  obtain ⟨n, hn⟩ := (EE_iff hP).1 he
  exact ⟨n, fun m hm => mkE_le hP n hm c args h r hn⟩

theorem EE_step (hP : Pr.Lim) {n : Nat} {c : ACallee} {args : List AV} {h : AHeap} {r : AV × AHeap}
    (he : (match c with
      | .fn f => match Pr f with
        | some p => p (EE T Fs Pr) args h
        | none => match Fs.get f with
          | some A => callFn (EE T Fs Pr) T A f n args h
          | none => none
      | .enter f => match Pr f with
        | some _ => none
        | none => match Fs.get f with
          | some A => callFn (EE T Fs Pr) T A f n args h
          | none => none
      | .yield l => callRound (EE T Fs Pr) T Fs n l args h) = some r) : EE T Fs Pr c args h = some r := by
  obtain ⟨N, hN⟩ := mkE_step hP (lim_EE hP) he
  refine (EE_iff hP).2 ⟨max N n + 1, ?_⟩
  have h1 := hN (max N n) (by omega) (max N n) (by omega)
  simp only [mkE]
  exact h1

theorem EE_prim (hP : Pr.Lim) {f : Nat} {p : Env → List AV → AHeap → Option (AV × AHeap)} (hp : Pr f = some p) {args : List AV} {h : AHeap} {r : AV × AHeap} (he : p (EE T Fs Pr) args h = some r) : EE T Fs Pr (.fn f) args h = some r :=
  EE_step (n := 0) hP (by simp only [hp]; exact he)

theorem EE_fn (hP : Pr.Lim) {f n : Nat} {A : AFn} (hp : Pr f = none) (hA : Fs.get f = some A) {args : List AV} {h : AHeap} {r : AV × AHeap} (he : callFn (EE T Fs Pr) T A f n args h = some r) : EE T Fs Pr (.fn f) args h = some r :=
  EE_step (n := n) hP (by simp only [hp, hA]; exact he)

theorem EE_enter (hP : Pr.Lim) {f n : Nat} {A : AFn} (hp : Pr f = none) (hA : Fs.get f = some A) {args : List AV} {h : AHeap} {r : AV × AHeap} (he : callFn (EE T Fs Pr) T A f n args h = some r) : EE T Fs Pr (.enter f) args h = some r :=
  EE_step (n := n) hP (by simp only [hp, hA]; exact he)

theorem EE_yield (hP : Pr.Lim) {l n : Nat} {args : List AV} {h : AHeap} {r : AV × AHeap} (he : callRound (EE T Fs Pr) T Fs n l args h = some r) : EE T Fs Pr (.yield l) args h = some r :=
  EE_step (n := n) hP he

theorem EE_sound {P : Program} (hP : Pr.Lim) (h : ∀ n, EnvOK P (mkE T Fs Pr n)) : EnvOK P (EE T Fs Pr) := by
  intro c args hp r h' he
  obtain ⟨n, hn⟩ := (EE_iff hP).1 he
  exact h n c args hp r h' hn

end
end Go.Am
