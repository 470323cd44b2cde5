/-
  A law's arguments: whatever a plain reading (numbers, texts, truths, slices, structs, arrays) tells lies in an abstract heap too.
-/
import Derived.Test.YtpofhpkdjcnhmaaK2
import Derived.ChangeArms
import Derived.OpenShut
import Derived.DataReads
import Derived.ProofKit
set_option linter.unusedVariables false
set_option linter.unusedSimpArgs false
namespace Go.Am
open Go.RowKit Go.ChangeShapes

/-- Cells that stand for what is read. -/
inductive DRep {H : Type} (P : Program) (h : AHeap) : TypeId → List AV → DataW H → Prop
  | bool {t b} (ht : P.underlying t = some .bool) : DRep P h t [.bool b] (.lit (.bool b))
  | int {t k n} (ht : P.underlying t = some (.int k)) (hw : (Lit.int k n).wf = true) : DRep P h t [.int k n] (.lit (.int k n))
  | str {t s} (ht : P.underlying t = some .string) (hl : s.length ≤ maxLen) : DRep P h t [.str s] (.lit (.string s))
  | nil {t e} (ht : P.underlying t = some (.slice e)) : DRep P h t [.nilslice] .nil
  | slice {t e v vs elems spare} (ht : P.underlying t = some (.slice e)) (hl : elems.length ≤ maxLen) (hr : Row h v elems.length (P.cellsOf e) vs)
      (he : ∀ (i : Nat) (d : DataW H), elems[i]? = some d → DRep P h e ((vs.drop (i * P.cellsOf e)).take (P.cellsOf e)) d) : DRep P h t [v] (.slice elems spare)
  | struct {t fs xs parts} (ht : P.underlying t = some (.struct fs)) (hl : xs.length = P.cellsOf t) (hn : parts.length = fs.size)
      (he : ∀ (i : Nat) (f : Go.Field) (d : DataW H), fs[i]? = some f → parts[i]? = some d → DRep P h f.type ((xs.drop f.offset).take (P.cellsOf f.type)) d) : DRep P h t xs (.agg parts)
  | array {t n e xs parts} (ht : P.underlying t = some (.array n e)) (hl : xs.length = P.cellsOf t) (hn : parts.length = n)
      (he : ∀ (i : Nat) (d : DataW H), parts[i]? = some d → DRep P h e ((xs.drop (i * P.cellsOf e)).take (P.cellsOf e)) d) : DRep P h t xs (.agg parts)

theorem DRep.ext {H : Type} {P : Program} {h h' : AHeap} (e : Ext h h') {t : Nat} {xs : List AV} {d : DataW H} (a : DRep P h t xs d) : DRep P h' t xs d := by
  induction a with
  | bool ht => exact .bool ht
  | int ht hw => exact .int ht hw
  | str ht hl => exact .str ht hl
  | nil ht => exact .nil ht
  | slice ht hl hr _ ih => exact .slice ht hl (hr.ext e) ih
  | struct ht hl hn _ ih => exact .struct ht hl hn ih
  | array ht hl hn _ ih => exact .array ht hl hn ih

structure Start (W : World) (β : Inj) (h : AHeap) : Prop where
  wr : WR W β h W
  quiet : ∀ j z, h.get j = some z → z.own = false

def Adopts {H : Type} (P : Program) (W : World) (t : Nat) (cs : List Value) (d : DataW H) : Prop :=
  ∀ β h, Start W β h → ∃ β' h' xs, Start W β' h' ∧ β.le β' ∧ Ext h h' ∧ VRL β' xs cs ∧ allOne xs = true ∧ DRep P h' t xs d

theorem adopt_list {H : Type} {P : Program} {W : World} : ∀ (items : List (Nat × List Value × DataW H)), (∀ it ∈ items, Adopts P W it.1 it.2.1 it.2.2) → ∀ β h, Start W β h →
    ∃ β' h', ∃ xss : List (List AV), Start W β' h' ∧ β.le β' ∧ Ext h h' ∧ xss.length = items.length ∧ ∀ (i : Nat) it xs, items[i]? = some it → xss[i]? = some xs → VRL β' xs it.2.1 ∧ allOne xs = true ∧ DRep P h' it.1 xs it.2.2
  | [], _, β, h, hs => ⟨β, h, [], hs, Inj.le_refl β, Ext.refl hs.wr.wf, rfl, fun i it xs hi => by simp at hi⟩
  | it :: items, ha, β, h, hs => by
    obtain ⟨β1, h1, xs, s1, l1, e1, v1, o1, d1⟩ := ha it List.mem_cons_self β h hs
    obtain ⟨β2, h2, xss, s2, l2, e2, n2, f2⟩ := adopt_list items (fun x hx => ha x (List.mem_cons_of_mem _ hx)) β1 h1 s1
    refine ⟨β2, h2, xs :: xss, s2, l1.trans l2, e1.trans e2, by simp [n2], fun i it' xs' hi hx => ?_⟩
    cases i with
    | zero => simp at hi hx; subst hi hx; exact ⟨v1.mono l2, o1, d1.ext e2⟩
    | succ i => exact f2 i it' xs' (by simpa using hi) (by simpa using hx)

theorem flat_at {α : Type} : ∀ (xss : List (List α)) (i : Nat) (xs : List α), xss[i]? = some xs → ((xss.flatten).drop (((xss.take i).map List.length).sum)).take xs.length = xs
  | [], i, xs, h => by simp at h
  | y :: xss, 0, xs, h => by simp at h; subst h; simp
  | y :: xss, i + 1, xs, h => by
    have := flat_at xss i xs (by simpa using h)
    simp only [List.flatten_cons, List.take_succ_cons, List.map_cons, List.sum_cons]
    rw [← List.drop_drop, List.drop_left]
    exact this

theorem flat_len {α : Type} {sz : Nat} : ∀ (xss : List (List α)), (∀ xs ∈ xss, xs.length = sz) → (xss.map List.length).sum = xss.length * sz
  | [], _ => by simp
  | y :: xss, h => by
    have := flat_len xss fun x hx => h x (List.mem_cons_of_mem _ hx)
    simp only [List.map_cons, List.sum_cons, List.length_cons, this, h y List.mem_cons_self, Nat.succ_mul]; omega

/-- Do pieces lie one behind the other, from a place to the end? -/
def tilesB : List (Nat × Nat) → Nat → Nat → Bool
  | [], pos, n => Nat.beq pos n
  | (off, sz) :: l, pos, n => Nat.beq off pos && tilesB l (pos + sz) n

theorem tiles_flat {α : Type} : ∀ (l : List (Nat × Nat)) (pos n : Nat) (cs : List α), tilesB l pos n = true → cs.length = n → (l.map fun x => (cs.drop x.1).take x.2).flatten = cs.drop pos
  | [], pos, n, cs, h, hl => by
    simp only [tilesB] at h
    have := Nat.eq_of_beq_eq_true h
    simp [this, ← hl]
  | (off, sz) :: l, pos, n, cs, h, hl => by
    simp only [tilesB, Bool.and_eq_true] at h
    have h1 := Nat.eq_of_beq_eq_true h.1
    have ih := tiles_flat l (pos + sz) n cs h.2 hl
    simp only [List.map_cons, List.flatten_cons, ih, h1]
    rw [← List.drop_drop, List.take_append_drop]

theorem tiles_off : ∀ (l : List (Nat × Nat)) (pos n : Nat), tilesB l pos n = true → (∀ i x, l[i]? = some x → x.1 = pos + ((l.take i).map (·.2)).sum) ∧ pos + (l.map (·.2)).sum = n
  | [], pos, n, h => by
    simp only [tilesB] at h
    exact ⟨fun i x hx => by simp at hx, by simpa using Nat.eq_of_beq_eq_true h⟩
  | (off, sz) :: l, pos, n, h => by
    simp only [tilesB, Bool.and_eq_true] at h
    have h1 := Nat.eq_of_beq_eq_true h.1
    obtain ⟨q1, q2⟩ := tiles_off l (pos + sz) n h.2
    refine ⟨fun i x hx => ?_, by simp only [List.map_cons, List.sum_cons]; omega⟩
    cases i with
    | zero => simp at hx; subst hx; simp [h1]
    | succ i =>
      have := q1 i x (by simpa using hx)
      simp only [List.take_succ_cons, List.map_cons, List.sum_cons]; omega

theorem tiles_array : ∀ (n k sz : Nat), tilesB ((List.range' k n).map fun i => (i * sz, sz)) (k * sz) ((k + n) * sz) = true
  | 0, k, sz => by simp [tilesB]
  | n + 1, k, sz => by
    simp only [List.range'_succ, List.map_cons, tilesB, Nat.beq_refl, Bool.true_and]
    have := tiles_array n (k + 1) sz
    rw [Nat.succ_mul] at this
    rw [show k + (n + 1) = k + 1 + n by omega]
    exact this

/-- Parts of cells: all of them adopted, all is. -/
theorem adopt_parts {H : Type} {P : Program} {W : World} {cs : List Value} {n : Nat} (l : List (Nat × Nat × Nat × DataW H)) (ht : tilesB (l.map fun x => (x.2.1, x.2.2.1)) 0 n = true) (hl : cs.length = n)
    (ha : ∀ x ∈ l, Adopts P W x.1 ((cs.drop x.2.1).take x.2.2.1) x.2.2.2) : ∀ β h, Start W β h →
    ∃ β' h' xs, Start W β' h' ∧ β.le β' ∧ Ext h h' ∧ VRL β' xs cs ∧ allOne xs = true ∧ xs.length = n ∧ ∀ x ∈ l, DRep P h' x.1 ((xs.drop x.2.1).take x.2.2.1) x.2.2.2 := by
  intro β h hs
  obtain ⟨β', h', xss, s1, l1, e1, n1, f1⟩ := adopt_list (l.map fun x => (x.1, (cs.drop x.2.1).take x.2.2.1, x.2.2.2)) (fun it hit => by
    obtain ⟨x, hx, rfl⟩ := List.mem_map.1 hit
    exact ha x hx) β h hs
  rw [List.length_map] at n1
  obtain ⟨o1, o2⟩ := tiles_off _ _ _ ht
  have hflat := tiles_flat _ _ _ cs ht hl
  rw [List.drop_zero, List.map_map] at hflat
  have hlen : ∀ (i : Nat) (x : Nat × Nat × Nat × DataW H) (xs : List AV), l[i]? = some x → xss[i]? = some xs → xs.length = x.2.2.1 := fun i x xs hx hxs => by
    obtain ⟨q1, _, _⟩ := f1 i _ xs (by rw [List.getElem?_map, hx]; rfl) hxs
    have q2 := q1.length
    have q3 := o1 i (x.2.1, x.2.2.1) (by rw [List.getElem?_map, hx]; rfl)
    have q4 : ((l.take i).map fun x => x.2.2.1).sum + x.2.2.1 ≤ (l.map fun x => x.2.2.1).sum := by
      have hi := (List.getElem?_eq_some_iff.1 hx)
      obtain ⟨hi, hxi⟩ := hi
      have : l = l.take i ++ x :: l.drop (i + 1) := by
        rw [← hxi, ← List.drop_eq_getElem_cons hi, List.take_append_drop]
      conv => rhs; rw [this]
      simp only [List.map_append, List.map_cons, List.sum_append_nat, List.sum_cons]; omega
    have q5 : (l.map (fun x => (x.2.1, x.2.2.1))).map (·.2) = l.map fun x => x.2.2.1 := by simp [Function.comp_def]
    have q6 : ((l.map (fun x => (x.2.1, x.2.2.1))).take i).map (·.2) = (l.take i).map fun x => x.2.2.1 := by simp [← List.map_take, Function.comp_def]
    rw [q5] at o2
    rw [q6] at q3
    simp only [List.length_take, List.length_drop] at q2
    simp only at q3
    omega
  have hlens : ∀ i, i ≤ l.length → ((xss.take i).map List.length).sum = ((l.take i).map fun x => x.2.2.1).sum := by
    intro i
    induction i with
    | zero => intro _; simp
    | succ i ih =>
      intro hi
      have hi' : i < l.length := hi
      have hi2 : i < xss.length := by omega
      rw [List.take_succ_eq_append_getElem hi', List.take_succ_eq_append_getElem hi2]
      simp only [List.map_append, List.sum_append_nat, List.map_cons, List.map_nil, List.sum_cons, List.sum_nil, ih (by omega)]
      rw [hlen i l[i] xss[i] (List.getElem?_eq_getElem hi') (List.getElem?_eq_getElem hi2)]
  have hvrl : ∀ (ys : List (List AV)) (ds : List (List Value)), ys.length = ds.length → (∀ (i : Nat) y d, ys[i]? = some y → ds[i]? = some d → VRL β' y d ∧ allOne y = true) → VRL β' ys.flatten ds.flatten ∧ allOne ys.flatten = true := by
    intro ys
    induction ys with
    | nil => intro ds hd _; cases ds with | nil => exact ⟨VRL.nil, rfl⟩ | cons => simp at hd
    | cons y ys ih =>
      intro ds hd hh
      cases ds with
      | nil => simp at hd
      | cons d ds =>
        obtain ⟨q1, q2⟩ := hh 0 y d rfl rfl
        obtain ⟨q3, q4⟩ := ih ds (by simpa using hd) fun i y' d' h1 h2 => hh (i + 1) y' d' (by simpa using h1) (by simpa using h2)
        refine ⟨q1.append q3, ?_⟩
        have : ∀ (a b : List AV), allOne a = true → allOne b = true → allOne (a ++ b) = true := by
          intro a
          induction a with
          | nil => intro b _ hb; exact hb
          | cons x a ih => intro b ha hb; simp only [List.cons_append, allOne, Bool.and_eq_true] at ha ⊢; exact ⟨ha.1, ih b ha.2 hb⟩
        exact this _ _ q2 q4
  obtain ⟨v1, v2⟩ := hvrl xss (l.map fun x => (cs.drop x.2.1).take x.2.2.1) (by simp [n1]) fun i y d hy hd => by
    rw [List.getElem?_map] at hd
    cases hx : l[i]? with
    | none => rw [hx] at hd; cases hd
    | some x =>
      rw [hx] at hd; cases hd
      obtain ⟨q1, q2, _⟩ := f1 i _ y (by rw [List.getElem?_map, hx]; rfl) hy
      exact ⟨q1, q2⟩
  have hflat' : (l.map fun x => (cs.drop x.2.1).take x.2.2.1).flatten = cs := hflat
  rw [hflat'] at v1
  refine ⟨β', h', xss.flatten, s1, l1, e1, v1, v2, by rw [← v1.length, hl], fun x hx => ?_⟩
  obtain ⟨i, hi, rfl⟩ := List.getElem_of_mem hx
  have hi2 : i < xss.length := by omega
  have hxs : xss[i]? = some xss[i] := List.getElem?_eq_getElem hi2
  have hli := hlen i l[i] xss[i] (List.getElem?_eq_getElem hi) hxs
  have hfa := flat_at xss i _ hxs
  rw [hlens i (by omega), hli] at hfa
  have hoff := o1 i (l[i].2.1, l[i].2.2.1) (by rw [List.getElem?_map, List.getElem?_eq_getElem hi]; rfl)
  have q6 : ((l.map (fun x => (x.2.1, x.2.2.1))).take i).map (·.2) = (l.take i).map fun x => x.2.2.1 := by simp [← List.map_take, Function.comp_def]
  rw [q6, Nat.zero_add] at hoff
  simp only at hoff
  rw [hoff, hfa]
  obtain ⟨_, _, q3⟩ := f1 i _ _ (by rw [List.getElem?_map, List.getElem?_eq_getElem hi]; rfl) hxs
  exact q3

/-- Types of plain readings. -/
def plainB (P : Program) (l : List Nat) : Bool := l.all fun t => match P.underlying t with
  | some .bool => true
  | some (.int _) => true
  | some .string => true
  | some (.slice e) => l.contains e && Nat.blt 0 (P.cellsOf e)
  | some (.struct fs) => (fs.toList.all fun f => l.contains f.type) && tilesB (fs.toList.map fun f => (f.offset, P.cellsOf f.type)) 0 (P.cellsOf t)
  | some (.array n e) => l.contains e && Nat.beq (P.cellsOf t) (n * P.cellsOf e)
  | _ => false

theorem adopt {H : Type} {enc : TypeId × Value → H} {P : Program} {W : World} {l : List Nat} (hp : plainB P l = true) : ∀ (n : Nat) (t : Nat) (cs : List Value) (x : DataW H × List MemPlace), t ∈ l →
    DataW.trod enc P W 0 (fun _ => true) true n t cs = some x → Adopts P W t cs x.1 := by
  intro n
  induction n with
  | zero => intro t cs x _ h; simp [DataW.trod] at h
  | succ n ih =>
    intro t cs x hl h
    have hk := (List.all_eq_true.1 hp) t hl
    cases hu : P.underlying t with
    | none => rw [hu] at hk; cases hk
    | some ds =>
      rw [hu] at hk
      cases ds with
      | bool =>
        obtain ⟨b, rfl, rfl⟩ := DataW.trod_bool hu h
        exact fun β g hs => ⟨β, g, [.bool b], hs, Inj.le_refl β, Ext.refl hs.wr.wf, VRL.cons (by simp [VR]) VRL.nil, rfl, .bool hu⟩
      | int k =>
        obtain ⟨m, rfl, rfl, hw⟩ := DataW.trod_int hu h
        exact fun β g hs => ⟨β, g, [.int k m], hs, Inj.le_refl β, Ext.refl hs.wr.wf, VRL.cons (by simp [VR]) VRL.nil, rfl, .int hu hw⟩
      | string =>
        obtain ⟨s, rfl, rfl, hsz⟩ := DataW.trod_string hu h
        exact fun β g hs => ⟨β, g, [.str s.data.toList], hs, Inj.le_refl β, Ext.refl hs.wr.wf, VRL.cons (by simp [VR]) VRL.nil, rfl, .str hu (by simpa using hsz)⟩
      | slice e =>
        simp only [Bool.and_eq_true] at hk
        have hel : e ∈ l := by simpa using hk.1
        have hpos : 0 < P.cellsOf e := by simpa using hk.2
        rcases DataW.trod_slice hu h with ⟨rfl, rfl⟩ | ⟨a, len, cap, elems, rest, m, hm, rfl, rfl, _, hlc, hcm, hel1, hel2, hrest, _⟩
        · exact fun β g hs => ⟨β, g, [.nilslice], hs, Inj.le_refl β, Ext.refl hs.wr.wf, VRL.cons (by simp [VR]) VRL.nil, rfl, .nil hu⟩
        · obtain rfl : m = n := by omega
          obtain ⟨hr1, hr2⟩ := hrest rfl
          by_cases hz : len = 0
          · subst hz
            have : elems = [] := List.eq_nil_of_length_eq_zero hel1
            subst this
            exact fun β g hs => ⟨β, g, [.eslice], hs, Inj.le_refl β, Ext.refl hs.wr.wf, VRL.cons (by simp only [VR]; exact ⟨a, cap, rfl⟩) VRL.nil, rfl,
              .slice (vs := []) hu (by simp) ⟨by simp, .inr (.inl ⟨rfl, rfl⟩)⟩ fun i d hd => by simp at hd⟩
          · -- each element's cells
            have hcells : ∀ i, i < len → ∃ ci, W.cells? 0 (a.add (i * P.cellsOf e)) (P.cellsOf e) = some ci ∧ ∃ xe, elems[i]? = some xe ∧ DataW.trod enc P W 0 (fun _ => true) true m e ci = some xe := fun i hi => by
              have h1 := hel2 i hi
              have h2 : elems[i]? = some elems[i] := List.getElem?_eq_getElem (by omega)
              rw [h2] at h1
              obtain ⟨ci, h3, h4⟩ := Option.bind_eq_some_iff.1 h1
              exact ⟨ci, h3, _, h2, h4⟩
            have hcap : ∀ i, i < cap → ∃ ci, W.cells? 0 (a.add (i * P.cellsOf e)) (P.cellsOf e) = some ci := fun i hi => by
              rcases Nat.lt_or_ge i len with hlt | hge
              · obtain ⟨ci, h1, _⟩ := hcells i hlt; exact ⟨ci, h1⟩
              · have h1 := hr2 (i - len) (by omega)
                rw [show len + (i - len) = i by omega] at h1
                have h2 : rest[i - len]? = some rest[i - len] := List.getElem?_eq_getElem (by omega)
                rw [h2] at h1
                obtain ⟨ci, h3, _⟩ := Option.bind_eq_some_iff.1 h1
                exact ⟨ci, h3⟩
            -- the block
            obtain ⟨c0, hc0⟩ := hcap 0 (by omega)
            obtain ⟨_, hcl0, hcell0⟩ := World.cells?_some hc0
            have hsp : a.spot = none := by
              have h1 := hcell0 0 hpos
              rw [List.getElem?_eq_getElem (by omega)] at h1
              simpa [Addr.add] using World.cell?_spot h1
            obtain ⟨b, off, spot⟩ := a
            simp only at hsp
            subst hsp
            have hplain : ∀ j, (⟨b, off, none⟩ : Addr).add j = ⟨b, off + j, none⟩ := fun j => by
              unfold Addr.add; split
              · rename_i hj; subst hj; rfl
              · rfl
            have hcellAt : ∀ i ci, W.cells? 0 ((⟨b, off, none⟩ : Addr).add (i * P.cellsOf e)) (P.cellsOf e) = some ci → ci.length = P.cellsOf e ∧ ∀ j, j < P.cellsOf e → W.cell? ⟨b, off + i * P.cellsOf e + j, none⟩ = ci[j]? := fun i ci hci => by
              obtain ⟨_, q1, q2⟩ := World.cells?_some hci
              refine ⟨q1, fun j hj => ?_⟩
              have := q2 j hj
              rw [hplain] at this
              have hadd : (⟨b, off + i * P.cellsOf e, none⟩ : Addr).add j = ⟨b, off + i * P.cellsOf e + j, none⟩ := by
                unfold Addr.add; split
                · rename_i hj; subst hj; rfl
                · rfl
              rwa [hadd] at this
            obtain ⟨c, el, fz, hheap⟩ : ∃ c el fz, W.heap[b]? = some (.cells c el fz) := by
              have h1 := (hcellAt 0 c0 hc0).2 0 hpos
              rw [List.getElem?_eq_getElem (by omega)] at h1
              unfold World.cell? at h1
              split at h1
              · rename_i c el fz hh; exact ⟨c, el, fz, hh⟩
              · cases h1
            have hcAt : ∀ j, W.cell? ⟨b, j, none⟩ = c[j]? := fun j => by
              simp only [World.cell?, hheap]; rfl
            have hsize : off + cap * P.cellsOf e ≤ c.size := by
              obtain ⟨ci, hci⟩ := hcap (cap - 1) (by omega)
              obtain ⟨q1, q2⟩ := hcellAt _ ci hci
              have q3 := q2 (P.cellsOf e - 1) (by omega)
              rw [hcAt, List.getElem?_eq_getElem (by omega)] at q3
              have q4 := (Array.getElem?_eq_some_iff.1 q3).1
              have q5 : cap * P.cellsOf e = (cap - 1) * P.cellsOf e + P.cellsOf e := by
                rw [← Nat.succ_mul]; congr 1; omega
              omega
            -- all elements, as one list of cells
            let all : List Value := (List.range (len * P.cellsOf e)).map fun j => (c[off + j]?).getD undef
            have hall : ∀ j, j < len * P.cellsOf e → all[j]? = c[off + j]? := fun j hj => by
              simp only [all, List.getElem?_map, List.getElem?_range hj, Option.map_some]
              have : off + j < c.size := by
                have : len * P.cellsOf e ≤ cap * P.cellsOf e := Nat.mul_le_mul_right _ hlc
                omega
              simp [this]
            have halll : all.length = len * P.cellsOf e := by simp [all]
            intro β g hs
            obtain ⟨β', g', xs, s1, l1, e1, v1, o1, n1, d1⟩ := adopt_parts (P := P) (W := W) (cs := all) (n := len * P.cellsOf e)
              ((List.range len).map fun i => (e, i * P.cellsOf e, P.cellsOf e, (elems.map (·.1)).getD i .nil)) (by
                have := tiles_array len 0 (P.cellsOf e)
                rw [List.map_map, List.range_eq_range']
                simpa [Function.comp_def] using this) halll (fun x hx => by
                obtain ⟨i, hi, rfl⟩ := List.mem_map.1 hx
                have hi : i < len := by simpa using hi
                obtain ⟨ci, h1, xe, h2, h3⟩ := hcells i hi
                obtain ⟨q1, q2⟩ := hcellAt i ci h1
                have hci : (all.drop (i * P.cellsOf e)).take (P.cellsOf e) = ci := by
                  apply List.ext_getElem?
                  intro j
                  have hle : i * P.cellsOf e + P.cellsOf e ≤ len * P.cellsOf e := by rw [← Nat.succ_mul]; exact Nat.mul_le_mul_right _ hi
                  by_cases hj : j < P.cellsOf e
                  · rw [List.getElem?_take_of_lt hj, List.getElem?_drop, hall _ (by omega), ← hcAt, ← q2 j hj, Nat.add_assoc]
                  · rw [List.getElem?_eq_none (by simp; omega), List.getElem?_eq_none (by omega)]
                show Adopts P W e ((all.drop (i * P.cellsOf e)).take (P.cellsOf e)) ((elems.map (·.1)).getD i .nil)
                rw [hci]
                have hd : (elems.map (·.1)).getD i .nil = xe.1 := by simp [List.getD_eq_getElem?_getD, h2]
                rw [hd]
                exact ih e ci xe hel h3) β g hs
            have hob : ObjR W.heap.size (β'.with g'.next ⟨b, off, cap * P.cellsOf e⟩) W.heap ⟨b, off, cap * P.cellsOf e⟩ (.cells xs false) := by
              have hle : β'.le (β'.with g'.next ⟨b, off, cap * P.cellsOf e⟩) := fun j M e => by
                by_cases hj : j = g'.next
                · subst hj; exact absurd (s1.wr.dom _ _ e) (Nat.lt_irrefl _)
                · rw [Inj.with_ne _ _ hj]; exact e
              refine ⟨c, el, fz, hheap, hsize, ?_, fun j v hj => ?_, fun hh => (by cases hh), fun _ => ?_⟩
              · rw [n1]; exact Nat.mul_le_mul_right _ hlc
              · obtain ⟨V, q1, q2⟩ := v1.get j v hj
                have hj' : j < len * P.cellsOf e := by rw [← n1]; exact (List.getElem?_eq_some_iff.1 hj).1
                rw [hall j hj'] at q1
                exact ⟨V, q1, q2.mono hle⟩
              · show b < W.heap.size
                rcases Nat.lt_or_ge b W.heap.size with hh | hh
                · exact hh
                · rw [Array.getElem?_eq_none hh] at hheap; cases hheap
            obtain ⟨w1, w2⟩ := s1.wr.adopt (x := .cells xs false) (L := ⟨b, off, cap * P.cellsOf e⟩) (fun j z M hz ho hM => by
              rw [s1.quiet j z hz] at ho; cases ho) hob
            have e2 : Ext g' (g'.add (.cells xs false)) := (Ext.refl s1.wr.wf).add _
            refine ⟨_, _, [.slice g'.next 0 len (P.cellsOf e)], ⟨w1, fun j z hz => ?_⟩, l1.trans fun j M e => ?_, e1.trans e2, VRL.cons ?_ VRL.nil, rfl, ?_⟩
            · rw [AHeap.get_add] at hz
              split at hz
              · cases hz; rfl
              · exact s1.quiet j z hz
            · by_cases hj : j = g'.next
              · subst hj; exact absurd (s1.wr.dom _ _ e) (Nat.lt_irrefl _)
              · rw [Inj.with_ne _ _ hj]; exact e
            · simp only [VR]
              exact ⟨⟨b, off, cap * P.cellsOf e⟩, cap, Inj.with_self _ _ _, by simp, hlc, by simp⟩
            · have hlen : (elems.map (·.1)).length = len := by simp [hel1]
              refine .slice (vs := xs) hu (by rw [hlen]; omega) ⟨by rw [hlen]; exact n1, .inr (.inr ⟨g'.next, 0, xs, false, by rw [hlen], AHeap.get_add_self _ _, by rw [hlen, n1]; omega, fun j _ => by rw [Nat.zero_add]⟩)⟩ fun i d hd => ?_
              have hi : i < len := by rw [← hlen]; exact (List.getElem?_eq_some_iff.1 hd).1
              have := d1 (e, i * P.cellsOf e, P.cellsOf e, (elems.map (·.1)).getD i .nil) (List.mem_map.2 ⟨i, by simpa using hi, rfl⟩)
              have hd' : (elems.map (·.1)).getD i .nil = d := by simp only [List.getD_eq_getElem?_getD, hd, Option.getD_some]
              rw [hd'] at this
              exact this.ext e2
      | struct fs =>
        simp only [Bool.and_eq_true] at hk
        obtain ⟨xs, m, hm, rfl, hcl, hxl, hx⟩ := DataW.trod_struct hu h
        obtain rfl : m = n := by omega
        intro β g hs
        obtain ⟨β', g', ys, s1, l1, e1, v1, o1, n1, d1⟩ := adopt_parts (P := P) (W := W) (cs := cs) (n := P.cellsOf t)
          ((List.range fs.size).map fun i => ((fs[i]?.getD default).type, (fs[i]?.getD default).offset, P.cellsOf (fs[i]?.getD default).type, (xs.map (·.1)).getD i .nil)) (by
            have : (List.map (fun x => (x.2.1, x.2.2.1)) (List.map (fun i => ((fs[i]?.getD default).type, (fs[i]?.getD default).offset, P.cellsOf (fs[i]?.getD default).type, (xs.map (·.1)).getD i (DataW.nil : DataW H))) (List.range fs.size))) = fs.toList.map fun f => (f.offset, P.cellsOf f.type) := by
              rw [List.map_map]
              apply List.ext_getElem?
              intro i
              by_cases hi : i < fs.size
              · simp [hi, Function.comp_def]
              · rw [List.getElem?_eq_none (by simp; omega), List.getElem?_eq_none (by simp; omega)]
            rw [this]; exact hk.2) hcl (fun x hx' => by
            obtain ⟨i, hi, rfl⟩ := List.mem_map.1 hx'
            have hi : i < fs.size := by simpa using hi
            have hf : fs[i]? = some fs[i] := Array.getElem?_eq_getElem hi
            have h1 := hx i fs[i] hf
            have h2 : xs[i]? = some xs[i] := List.getElem?_eq_getElem (by omega)
            rw [h2] at h1
            have hmem : fs[i].type ∈ l := by
              have := (List.all_eq_true.1 hk.1) fs[i] (by simp)
              simpa using this
            have := ih _ _ _ hmem h1
            simpa [hf, List.getD_eq_getElem?_getD, h2] using this) β g hs
        refine ⟨β', g', ys, s1, l1, e1, v1, o1, .struct hu n1 (by simp [hxl]) fun i f d hf hd => ?_⟩
        have hi : i < fs.size := (Array.getElem?_eq_some_iff.1 hf).1
        have := d1 ((fs[i]?.getD default).type, (fs[i]?.getD default).offset, P.cellsOf (fs[i]?.getD default).type, (xs.map (·.1)).getD i .nil) (List.mem_map.2 ⟨i, by simpa using hi, rfl⟩)
        have hd' : (xs.map (·.1)).getD i .nil = d := by simp only [List.getD_eq_getElem?_getD, hd, Option.getD_some]
        rw [hd', hf] at this
        exact this
      | array k e =>
        simp only [Bool.and_eq_true] at hk
        have hel : e ∈ l := by simpa using hk.1
        have hsz := Nat.eq_of_beq_eq_true hk.2
        obtain ⟨xs, m, hm, rfl, hcl, hxl, hx⟩ := DataW.trod_array hu h
        obtain rfl : m = n := by omega
        intro β g hs
        obtain ⟨β', g', ys, s1, l1, e1, v1, o1, n1, d1⟩ := adopt_parts (P := P) (W := W) (cs := cs) (n := P.cellsOf t)
          ((List.range k).map fun i => (e, i * P.cellsOf e, P.cellsOf e, (xs.map (·.1)).getD i .nil)) (by
            have := tiles_array k 0 (P.cellsOf e)
            rw [List.map_map, List.range_eq_range', hsz]
            simpa [Function.comp_def] using this) hcl (fun x hx' => by
            obtain ⟨i, hi, rfl⟩ := List.mem_map.1 hx'
            have hi : i < k := by simpa using hi
            have h1 := hx i hi
            have h2 : xs[i]? = some xs[i] := List.getElem?_eq_getElem (by omega)
            rw [h2] at h1
            have := ih _ _ _ hel h1
            simpa [List.getD_eq_getElem?_getD, h2] using this) β g hs
        refine ⟨β', g', ys, s1, l1, e1, v1, o1, .array hu n1 (by simp [hxl]) fun i d hd => ?_⟩
        have hi : i < k := by
          have := (List.getElem?_eq_some_iff.1 hd).1
          simpa [hxl] using this
        have := d1 (e, i * P.cellsOf e, P.cellsOf e, (xs.map (·.1)).getD i .nil) (List.mem_map.2 ⟨i, by simpa using hi, rfl⟩)
        have hd' : (xs.map (·.1)).getD i .nil = d := by simp only [List.getD_eq_getElem?_getD, hd, Option.getD_some]
        rw [hd'] at this
        exact this
      | _ => cases hk

theorem start0 (W : World) (h : WR W (fun _ => none) ⟨.leaf, 0⟩ W) : Start W (fun _ => none) ⟨.leaf, 0⟩ :=
  ⟨h, fun j z hz => by simp [AHeap.get, PT.get] at hz⟩

/-- All arguments, one behind the other. -/
theorem adopt_all {H : Type} {enc : TypeId × Value → H} {P : Program} {W : World} {l : List Nat} (hp : plainB P l = true) : ∀ {ts : List TypeId} {vs : List Value} {ds : List (DataW H)} {ps : List MemPlace}, (∀ t ∈ ts, t ∈ l) →
    DataW.TrodAll enc P W 0 (fun _ => true) true ts vs ds ps → ∀ β h, Start W β h → ∃ β' h', ∃ xss : List (List AV), Start W β' h' ∧ β.le β' ∧ Ext h h' ∧ xss.length = vs.length ∧
      ∀ (i : Nat) t v d xs, ts[i]? = some t → vs[i]? = some v → ds[i]? = some d → xss[i]? = some xs → VRL β' xs v.cells.toList ∧ allOne xs = true ∧ DRep P h' t xs d
  | [], [], [], ps, _, _, β, h, hs => ⟨β, h, [], hs, Inj.le_refl β, Ext.refl hs.wr.wf, rfl, fun i t v d xs hi => by simp at hi⟩
  | t :: ts, v :: vs, d :: ds, ps, hts, hA, β, h, hs => by
    obtain ⟨p, q, ⟨fuel, hf⟩, hr, rfl⟩ := hA
    obtain ⟨β1, h1, xs, s1, l1, e1, v1, o1, d1⟩ := adopt hp fuel t _ _ (hts t List.mem_cons_self) hf β h hs
    obtain ⟨β2, h2, xss, s2, l2, e2, n2, f2⟩ := adopt_all hp (fun t ht => hts t (List.mem_cons_of_mem _ ht)) hr β1 h1 s1
    refine ⟨β2, h2, xs :: xss, s2, l1.trans l2, e1.trans e2, by simp [n2], fun i t' v' d' xs' ht hv hd hx => ?_⟩
    cases i with
    | zero => simp at ht hv hd hx; subst ht hv hd hx; exact ⟨v1.mono l2, o1, d1.ext e2⟩
    | succ i => exact f2 i t' v' d' xs' (by simpa using ht) (by simpa using hv) (by simpa using hd) (by simpa using hx)
  | [], [], _ :: _, _, _, h, _, _, _ => h.elim
  | [], _ :: _, _, _, _, h, _, _, _ => h.elim
  | _ :: _, [], _, _, _, h, _, _, _ => h.elim
  | _ :: _, _ :: _, [], _, _, h, _, _, _ => h.elim

end Go.Am
