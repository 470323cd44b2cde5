/-
  A quick evaluator for closed laws: functions in their plain form where one is given, the machine's own run elsewhere; what it answers the limit environment answers.
-/
import Derived.Test.YtcjjleelhaphkaaGreatDoorK1
import Derived.Test.YtcjjleelhaphkaaGreatDoorC9
import Derived.Test.YtcjjleelhaphkaaGreatDoorQ1
set_option linter.unusedVariables false
set_option linter.unusedSimpArgs false
namespace Go.Am

abbrev FRun := Env → Nat → List AV → AHeap → Option (AV × AHeap)

noncomputable def qFn (T : Tab) (Fs : PT AFn) (G : PT FRun) (E : Env) (n f : Nat) (args : List AV) (h : AHeap) : Option (AV × AHeap) :=
  match G.get f with
  | some g => g E n args h
  | none => match Fs.get f with
    | some A => callFn E T A f n args h
    | none => none

noncomputable def qStep (T : Tab) (Fs : PT AFn) (Pr : Prims) (G : PT FRun) (n : Nat) (E : Env) : Env := fun c args h =>
  match c with
  | .fn f => match Pr f with
    | some p => p E args h
    | none => qFn T Fs G E n f args h
  | .enter f => match Pr f with
    | some _ => none
    | none => qFn T Fs G E n f args h
  | .yield l => callRound E T Fs n l args h

noncomputable def qE (T : Tab) (Fs : PT AFn) (Pr : Prims) (G : PT FRun) (n : Nat) : Env :=
  Nat.rec (motive := fun _ => Env) (fun _ _ _ => none) (fun n ih => qStep T Fs Pr G n ih) n

/-- A plain form answers what the function's run answers. -/
def RunOK (T : Tab) (Fs : PT AFn) (f : Nat) (g : FRun) : Prop := ∃ A, Fs.get f = some A ∧ ∀ E n args h r, g E n args h = some r → callFn E T A f n args h = some r

section
variable {T : Tab} {Fs : PT AFn} {Pr : Prims} {G : PT FRun}

theorem qE_le (hP : Pr.Lim) (hG : ∀ f g, G.get f = some g → RunOK T Fs f g) : ∀ (n : Nat) (c : ACallee) (args : List AV) (h : AHeap) (r : AV × AHeap), qE T Fs Pr G n c args h = some r → EE T Fs Pr c args h = some r := by
  intro n
  induction n with
  | zero => intro c args h r he; cases he
  | succ n ih =>
    intro c args h r he
    have hL : Lim (fun _ => EE T Fs Pr) (qE T Fs Pr G n) := fun c args h r he => ⟨0, fun _ _ => ih c args h r he⟩
    have hF : ∀ {f : Nat} {x : AV × AHeap}, qFn T Fs G (qE T Fs Pr G n) n f args h = some x → ∃ A m, Fs.get f = some A ∧ callFn (EE T Fs Pr) T A f m args h = some x := by
      intro f x hx
      unfold qFn at hx
      cases hg : G.get f with
      | some g =>
        rw [hg] at hx
        obtain ⟨A, hA, hr⟩ := hG f g hg
        obtain ⟨N, hN⟩ := callFn_lim hL (hr _ _ _ _ _ hx)
        exact ⟨A, n, hA, hN N (Nat.le_refl _) n (Nat.le_refl _)⟩
      | none =>
        rw [hg] at hx
        simp only at hx
        cases hA : Fs.get f with
        | none => rw [hA] at hx; cases hx
        | some A =>
          rw [hA] at hx
          obtain ⟨N, hN⟩ := callFn_lim hL hx
          exact ⟨A, n, rfl, hN N (Nat.le_refl _) n (Nat.le_refl _)⟩
    change qStep T Fs Pr G n (qE T Fs Pr G n) c args h = some r at he
    unfold qStep at he
    cases c with
    | fn f =>
      simp only at he
      cases hp : Pr f with
      | some p =>
        rw [hp] at he
        obtain ⟨N, hN⟩ := hP f p hp _ _ hL _ _ _ he
        exact EE_prim hP hp (hN N (Nat.le_refl _))
      | none =>
        rw [hp] at he
        obtain ⟨A, m, hA, hx⟩ := hF he
        exact EE_fn hP hp hA hx
    | enter f =>
      simp only at he
      cases hp : Pr f with
      | some p => rw [hp] at he; cases he
      | none =>
        rw [hp] at he
        obtain ⟨A, m, hA, hx⟩ := hF he
        exact EE_enter hP hp hA hx
    | yield l =>
      simp only at he
      obtain ⟨N, hN⟩ := callRound_lim hL he
      exact EE_yield hP (hN N (Nat.le_refl _) n (Nat.le_refl _))
end

theorem qE_answer {T : Tab} {Fs : PT AFn} {Pr : Prims} {G : PT FRun} (hP : Pr.Lim) (hG : ∀ f g, G.get f = some g → RunOK T Fs f g) {n : Nat} {c : ACallee} {args : List AV} {h : AHeap} {v : AV}
    (he : answer (qE T Fs Pr G n c args h) = some v) : answer (EE T Fs Pr c args h) = some v := by
  obtain ⟨h', hx⟩ := answer_some he
  rw [qE_le hP hG n c args h _ hx]
  rfl

/-! plain forms, by how many arguments they have -/
section
variable {T : Tab} {Fs : PT AFn} {A : AFn} {f : Nat}
abbrev R0 := Option (AV × AHeap)

def ar0 (F : Env → Nat → AHeap → R0) : FRun := fun E n args h => match args with | [] => F E n h | _ => none
def ar1 (F : Env → Nat → AV → AHeap → R0) : FRun := fun E n args h => match args with | [a] => F E n a h | _ => none
def ar2 (F : Env → Nat → AV → AV → AHeap → R0) : FRun := fun E n args h => match args with | [a, b] => F E n a b h | _ => none
def ar3 (F : Env → Nat → AV → AV → AV → AHeap → R0) : FRun := fun E n args h => match args with | [a, b, c] => F E n a b c h | _ => none
def ar4 (F : Env → Nat → AV → AV → AV → AV → AHeap → R0) : FRun := fun E n args h => match args with | [a, b, c, d] => F E n a b c d h | _ => none
def ar5 (F : Env → Nat → AV → AV → AV → AV → AV → AHeap → R0) : FRun := fun E n args h => match args with | [a, b, c, d, e] => F E n a b c d e h | _ => none
def ar6 (F : Env → Nat → AV → AV → AV → AV → AV → AV → AHeap → R0) : FRun := fun E n args h => match args with | [a, b, c, d, e, g] => F E n a b c d e g h | _ => none
def ar7 (F : Env → Nat → AV → AV → AV → AV → AV → AV → AV → AHeap → R0) : FRun := fun E n args h => match args with | [a, b, c, d, e, g, i] => F E n a b c d e g i h | _ => none

theorem ar0_ok {F} (hA : Fs.get f = some A) (hF : ∀ E n h, fnK E T A f n [] h = F E n h) : RunOK T Fs f (ar0 F) := ⟨A, hA, fun E n args h r he => by
  unfold ar0 at he
  split at he
  · exact fnK_some ((hF _ _ _).trans he)
  · cases he⟩
theorem ar1_ok {F} (hA : Fs.get f = some A) (hF : ∀ E n a h, fnK E T A f n [a] h = F E n a h) : RunOK T Fs f (ar1 F) := ⟨A, hA, fun E n args h r he => by
  unfold ar1 at he
  split at he
  · exact fnK_some ((hF _ _ _ _).trans he)
  · cases he⟩
theorem ar2_ok {F} (hA : Fs.get f = some A) (hF : ∀ E n a b h, fnK E T A f n [a, b] h = F E n a b h) : RunOK T Fs f (ar2 F) := ⟨A, hA, fun E n args h r he => by
  unfold ar2 at he
  split at he
  · exact fnK_some ((hF _ _ _ _ _).trans he)
  · cases he⟩
theorem ar3_ok {F} (hA : Fs.get f = some A) (hF : ∀ E n a b c h, fnK E T A f n [a, b, c] h = F E n a b c h) : RunOK T Fs f (ar3 F) := ⟨A, hA, fun E n args h r he => by
  unfold ar3 at he
  split at he
  · exact fnK_some ((hF _ _ _ _ _ _).trans he)
  · cases he⟩
theorem ar4_ok {F} (hA : Fs.get f = some A) (hF : ∀ E n a b c d h, fnK E T A f n [a, b, c, d] h = F E n a b c d h) : RunOK T Fs f (ar4 F) := ⟨A, hA, fun E n args h r he => by
  unfold ar4 at he
  split at he
  · exact fnK_some ((hF _ _ _ _ _ _ _).trans he)
  · cases he⟩
theorem ar5_ok {F} (hA : Fs.get f = some A) (hF : ∀ E n a b c d e h, fnK E T A f n [a, b, c, d, e] h = F E n a b c d e h) : RunOK T Fs f (ar5 F) := ⟨A, hA, fun E n args h r he => by
  unfold ar5 at he
  split at he
  · exact fnK_some ((hF _ _ _ _ _ _ _ _).trans he)
  · cases he⟩
theorem ar6_ok {F} (hA : Fs.get f = some A) (hF : ∀ E n a b c d e g h, fnK E T A f n [a, b, c, d, e, g] h = F E n a b c d e g h) : RunOK T Fs f (ar6 F) := ⟨A, hA, fun E n args h r he => by
  unfold ar6 at he
  split at he
  · exact fnK_some ((hF _ _ _ _ _ _ _ _ _).trans he)
  · cases he⟩
theorem ar7_ok {F} (hA : Fs.get f = some A) (hF : ∀ E n a b c d e g i h, fnK E T A f n [a, b, c, d, e, g, i] h = F E n a b c d e g i h) : RunOK T Fs f (ar7 F) := ⟨A, hA, fun E n args h r he => by
  unfold ar7 at he
  split at he
  · exact fnK_some ((hF _ _ _ _ _ _ _ _ _ _).trans he)
  · cases he⟩
end
end Go.Am
