/-
  InodeLinks: the table, in plain Lean.
-/
import Derived.Test.YtpofhpkdjcnhmaaT8
set_option linter.unusedVariables false
set_option linter.unusedSimpArgs false
namespace Go.Am
open Go Go.Proofs

/-- Names: one letter. -/
def nm (i : Nat) : Bs := [UInt8.ofNat (97 + i)]

theorem nm_inj12 {i j : Nat} (hi : i < 12) (hj : j < 12) (h : nm i = nm j) : i = j := by
  have : ∀ i : Fin 12, ∀ j : Fin 12, nm i.val = nm j.val → i = j := by decide
  have := this ⟨i, hi⟩ ⟨j, hj⟩ h
  exact congrArg Fin.val this

theorem nm_good {i : Nat} (hi : i < 12) : nameE (nm i) = 0 := by
  have : ∀ i : Fin 12, nameE (nm i.val) = 0 := by decide
  exact this ⟨i, hi⟩

theorem nm_any {i : Nat} (hi : i < 12) : AnyOK (nm i) := by
  have : ∀ i : Fin 12, (nm i.val).all (fun b => Nat.blt b.toNat 128) = true := by decide
  exact anyOK_ascii (by simp [nm]) (this ⟨i, hi⟩)

def three (E1 E2 : NE) (dat : Bs) (n : Int) : Int → Option Nd := fun k =>
  if k = 1 then some ⟨2, 493, [], 1, 1, E1⟩ else if k = 2 then some ⟨2, 493, [], 1, 1, E2⟩ else if k = 3 then some ⟨1, 420, dat, n, 0, []⟩ else none
def linkTb (E1 E2 : NE) (dat : Bs) (n : Int) : Tb := ⟨10, 300, 3, dat.length, 3, three E1 E2 dat n⟩

def dirOf (i : Nat) : Int := if i % 2 = 1 then 2 else 1
def entsOf (E1 E2 : NE) (i : Nat) : NE := if i % 2 = 1 then E2 else E1

structure LI (names : List Bs) (E1 E2 : NE) : Prop where
  get : ∀ i, i < 12 → getN (nm i) (entsOf E1 E2 i) = if nm i ∈ names then some 3 else none
  nodup : names.Nodup
  known : ∀ s ∈ names, ∃ i, i < 12 ∧ s = nm i

section
variable {names : List Bs} {E1 E2 : NE} {dat : Bs} {n : Int} {i : Nat}

theorem find_link (i : Nat) (s : Bs) : findT (linkTb E1 E2 dat n) (dirOf i) s = getN s (entsOf E1 E2 i) := by
  unfold dirOf entsOf
  by_cases h : i % 2 = 1
  · simp only [h, if_true]; rfl
  · simp only [h, if_false]; rfl

theorem dirE_link (i : Nat) : dirE (linkTb E1 E2 dat n) (dirOf i) = 0 := by
  unfold dirOf
  by_cases h : i % 2 = 1
  · simp only [h, if_true]; rfl
  · simp only [h, if_false]; rfl

def set1 (E1 : NE) (i : Nat) (f : NE → NE) : NE := if i % 2 = 1 then E1 else f E1
def set2 (E2 : NE) (i : Nat) (f : NE → NE) : NE := if i % 2 = 1 then f E2 else E2

theorem three_add (s : Bs) (m : Int) : addE (three E1 E2 dat n) (dirOf i) s m = three (set1 E1 i fun e => e ++ [(s, m)]) (set2 E2 i fun e => e ++ [(s, m)]) dat n := by
  funext k
  unfold addE dirOf set1 set2
  by_cases h : i % 2 = 1
  · simp only [h, if_true]
    by_cases h1 : k = 2
    · subst h1; rfl
    · show upd _ 2 _ k = _
      rw [upd_ne _ _ h1]
      by_cases h2 : k = 1
      · subst h2; rfl
      · simp [three, h1, h2]
  · simp only [h, if_false]
    by_cases h1 : k = 1
    · subst h1; rfl
    · show upd _ 1 _ k = _
      rw [upd_ne _ _ h1]
      simp [three, h1]
theorem three_del (s : Bs) : delE (three E1 E2 dat n) (dirOf i) s = three (set1 E1 i (delN s)) (set2 E2 i (delN s)) dat n := by
  funext k
  unfold delE dirOf set1 set2
  by_cases h : i % 2 = 1
  · simp only [h, if_true]
    by_cases h1 : k = 2
    · subst h1; rfl
    · show upd _ 2 _ k = _
      rw [upd_ne _ _ h1]
      by_cases h2 : k = 1
      · subst h2; rfl
      · simp [three, h1, h2]
  · simp only [h, if_false]
    by_cases h1 : k = 1
    · subst h1; rfl
    · show upd _ 1 _ k = _
      rw [upd_ne _ _ h1]
      simp [three, h1]
theorem three_put (dat' : Bs) (n' : Int) : upd (three E1 E2 dat n) 3 (some ⟨1, 420, dat', n', 0, []⟩) = three E1 E2 dat' n' := by
  funext k
  by_cases h : k = 3
  · subst h; rfl
  · rw [upd_ne _ _ h]
    simp [three, h]

theorem getSet {f : NE → NE} {g : Nat → Option Int → Option Int} (hg : ∀ j e, j < 12 → getN (nm j) (f e) = g j (getN (nm j) e)) {j : Nat} (hj : j < 12) (hsame : j % 2 = i % 2 → True) :
    getN (nm j) (entsOf (set1 E1 i f) (set2 E2 i f) j) = if j % 2 = i % 2 then g j (getN (nm j) (entsOf E1 E2 j)) else getN (nm j) (entsOf E1 E2 j) := by
  unfold entsOf set1 set2
  by_cases h1 : i % 2 = 1 <;> by_cases h2 : j % 2 = 1
  · simp [h1, h2, hg _ _ hj]
  · have : ¬ j % 2 = 1 := h2
    simp [h1, h2]
  · simp [h1, h2]
    omega
  · have e1 : i % 2 = 0 := by omega
    have e2 : j % 2 = 0 := by omega
    simp [e1, e2, hg _ _ hj]

/-- One more name. -/
theorem link_at (a : LI names E1 E2) (hi : i < 12) (hn : nm i ∉ names) :
    linkE (linkTb E1 E2 dat n) (dirOf i) (nm i) 3 = 0 ∧ ∃ F1 F2, linkT (linkTb E1 E2 dat n) (dirOf i) (nm i) 3 = linkTb F1 F2 dat (n + 1) ∧ LI (names ++ [nm i]) F1 F2 := by
  have hE : linkE (linkTb E1 E2 dat n) (dirOf i) (nm i) 3 = 0 := by
    refine firstE_zero.2 fun e he => ?_
    simp only [List.mem_cons, List.not_mem_nil, or_false] at he
    rcases he with rfl | rfl | rfl | rfl | rfl
    · rfl
    · exact dirE_link i
    · exact nm_good hi
    · rfl
    · simp only [freeE, find_link, a.get i hi, hn, if_false]; rfl
  refine ⟨hE, set1 E1 i fun e => e ++ [(nm i, 3)], set2 E2 i fun e => e ++ [(nm i, 3)], ?_, ?_⟩
  · rw [linkT, if_pos hE]
    have : incL (addE (linkTb E1 E2 dat n).nodes (dirOf i) (nm i) 3) 3 1 = three (set1 E1 i fun e => e ++ [(nm i, 3)]) (set2 E2 i fun e => e ++ [(nm i, 3)]) dat (n + 1) := by
      show incL (addE (three E1 E2 dat n) _ _ _) 3 1 = _
      rw [three_add, incL_some (nd := ⟨1, 420, dat, n, 0, []⟩) rfl]
      exact three_put dat (n + 1)
    rw [this]; rfl
  · refine ⟨fun j hj => ?_, ?_, ?_⟩
    · rw [getSet (g := fun j o => match o with | some v => some v | none => if nm j = nm i then some 3 else none) (fun j e _ => by rw [getN_append]; cases getN (nm j) e <;> simp [getN]) hj (fun _ => trivial), a.get j hj]
      by_cases e : j = i
      · subst e; simp [hn]
      · have hne : nm j ≠ nm i := fun h => e (nm_inj12 hj hi h)
        by_cases hm : nm j ∈ names <;> simp [hm, hne]
    · rw [List.nodup_append]
      exact ⟨a.nodup, by simp, fun x hx y hy => by have := List.mem_singleton.1 hy; subst this; exact fun e => hn (e ▸ hx)⟩
    · intro s hs
      rcases List.mem_append.1 hs with hs | hs
      · exact a.known s hs
      · exact ⟨i, hi, List.mem_singleton.1 hs⟩

theorem write_at {dat' : Bs} (h1 : dat.length ≤ 300) (h2 : dat'.length ≤ 300) : writeE (linkTb E1 E2 dat n) 3 dat' = 0 ∧ writeT (linkTb E1 E2 dat n) 3 dat' = linkTb E1 E2 dat' n := by
  have hE : writeE (linkTb E1 E2 dat n) 3 dat' = 0 := by
    refine firstE_zero.2 fun e he => ?_
    simp only [List.mem_cons, List.not_mem_nil, or_false] at he
    rcases he with rfl | rfl | rfl
    · rfl
    · rfl
    · show roomE (linkTb E1 E2 dat n) 0 ((dat'.length : Int) - dat.length) = 0
      unfold roomE
      rw [if_pos]
      show (3 : Int) + 0 ≤ 10 ∧ (dat.length : Int) + ((dat'.length : Int) - dat.length) ≤ 300
      omega
  refine ⟨hE, ?_⟩
  rw [writeT, if_pos hE]
  show (⟨10, 300, 3, (dat.length : Int) + ((dat'.length : Int) - dat.length), 3, upd (three E1 E2 dat n) 3 (some ⟨1, 420, dat', n, 0, []⟩)⟩ : Tb) = _
  rw [three_put]
  have : (dat.length : Int) + ((dat'.length : Int) - dat.length) = dat'.length := by omega
  rw [this]; rfl

/-- One name less. -/
theorem unlink_at (a : LI names E1 E2) (hi : i < 12) (hn : nm i ∈ names) :
    findT (linkTb E1 E2 dat n) (dirOf i) (nm i) = some 3 ∧ unlinkE (linkTb E1 E2 dat n) (dirOf i) (nm i) = 0 ∧ ∃ F1 F2, LI (names.filter fun s => decide (s ≠ nm i)) F1 F2 ∧
      unlinkT (linkTb E1 E2 dat n) (dirOf i) (nm i) = (if n = 1 then ⟨10, 300, 2, 0, 3, upd (three F1 F2 dat n) 3 none⟩ else linkTb F1 F2 dat (n - 1)) := by
  have hf : findT (linkTb E1 E2 dat n) (dirOf i) (nm i) = some 3 := by rw [find_link, a.get i hi, if_pos hn]
  have hE : unlinkE (linkTb E1 E2 dat n) (dirOf i) (nm i) = 0 := by
    refine firstE_zero.2 fun e he => ?_
    simp only [List.mem_cons, List.not_mem_nil, or_false] at he
    rcases he with rfl | rfl | rfl | rfl
    · rfl
    · exact dirE_link i
    · simp only [entryE, hf]; rfl
    · simp only [emptyE, hf]; rfl
  refine ⟨hf, hE, set1 E1 i (delN (nm i)), set2 E2 i (delN (nm i)), ⟨fun j hj => ?_, a.nodup.filter _, fun s hs => a.known s (List.mem_filter.1 hs).1⟩, ?_⟩
  · rw [getSet (g := fun j o => if nm j = nm i then none else o) (fun j e _ => getN_del) hj (fun _ => trivial), a.get j hj]
    by_cases e : j = i
    · subst e; simp
    · have hne : nm j ≠ nm i := fun h => e (nm_inj12 hj hi h)
      simp [hne]
  · rw [unlinkT, if_pos hE, hf]
    show goneT (linkTb E1 E2 dat n) (delE (three E1 E2 dat n) (dirOf i) (nm i)) 3 = _
    rw [three_del]
    have h3 : three (set1 E1 i (delN (nm i))) (set2 E2 i (delN (nm i))) dat n 3 = some ⟨1, 420, dat, n, 0, []⟩ := rfl
    simp only [goneT, h3]
    by_cases h1 : n = 1
    · have h0 : n - 1 = 0 := by omega
      rw [if_pos h0, if_pos h1]
      show (⟨10, 300, 3 - 1, (dat.length : Int) - dat.length, 3, _⟩ : Tb) = _
      have : (dat.length : Int) - dat.length = 0 := by omega
      rw [this]; rfl
    · have h0 : ¬ n - 1 = 0 := by omega
      rw [if_neg h0, if_neg h1]
      rw [three_put]; rfl
end
end Go.Am
