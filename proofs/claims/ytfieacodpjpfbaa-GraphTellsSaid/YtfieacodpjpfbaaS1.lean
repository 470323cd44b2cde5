/-
  Steps of the abstract machine, as equations: for runs whose values are not all known.
-/
import Derived.Test.YtfieacodpjpfbaaC9
set_option linter.unusedVariables false
set_option linter.unusedSimpArgs false
namespace Go.Am

section
variable {E : Env} {T : Tab} {A : AFn} {fid nt n : Nat} {rd : Bool} {ops l : List Oper} {fr fr' fr1 : AFrame} {h h' h1 : AHeap} {o : Oper} {v : Option AV}

theorem rs_nil : runSeq E T nt ops [] fr h = some (fr, h) := rfl

theorem rs_val (hg : guardOf ops fr o = some true) (ha : aop T (aev fr) h o.op = some (.val v h1)) (hp : putT nt fr o.dst v = some fr1) (hr : runSeq E T nt ops l fr1 h1 = some (fr', h')) : runSeq E T nt ops (o :: l) fr h = some (fr', h') := by
  simp only [runSeq, opStep, hg, opGo, ha, hp, hr]

theorem rs_call {c : ACallee} {args : List AV} {r : AV} (hg : guardOf ops fr o = some true) (ha : aop T (aev fr) h o.op = some (.call c args)) (hE : E c args h = some (r, h1)) (hp : putT nt fr o.dst (some r) = some fr1) (hr : runSeq E T nt ops l fr1 h1 = some (fr', h')) : runSeq E T nt ops (o :: l) fr h = some (fr', h') := by
  simp only [runSeq, opStep, hg, opGo, ha, hE, hp, hr]

theorem rs_skip (hg : guardOf ops fr o = some false) (hp : putT nt fr o.dst (some (.tuple [])) = some fr1) (hr : runSeq E T nt ops l fr1 h = some (fr', h')) : runSeq E T nt ops (o :: l) fr h = some (fr', h') := by
  simp only [runSeq, opStep, hg, hp, hr]

theorem ex_region {id : Nat} {ops : Array Oper} {s : ASt} (hr : runSeq E T nt ops.toList ops.toList s.fr s.h = some (fr', h')) : exec E T A fid nt n rd (.region id ops false) s = some (.normal, { s with fr := fr', h := h' }) := by
  simp only [exec, hr]

theorem ex_seq {a b : Code} {s s1 : ASt} {r : Option (AExit × ASt)} (ha : exec E T A fid nt n rd a s = some (.normal, s1)) (hb : exec E T A fid nt n rd b (cleanJ A (firstRegion b) s1) = r) : exec E T A fid nt n rd (.seq a b) s = r := by
  simp only [exec, ha, hb]

theorem ex_seq_out {a b : Code} {s s1 : ASt} {e : AExit} (ha : exec E T A fid nt n rd a s = some (e, s1)) (he : e ≠ .normal) : exec E T A fid nt n rd (.seq a b) s = some (e, s1) := by
  simp only [exec, ha]
  cases e with
  | normal => exact absurd rfl he
  | exit id => rfl
  | ret => rfl

theorem ex_true {c : Operand} {a b : Code} {s : ASt} {r : Option (AExit × ASt)} (hc : aev s.fr c = some (.bool true)) (ha : exec E T A fid nt n rd a s = r) : exec E T A fid nt n rd (.cond c a b) s = r := by
  simp only [exec, hc, ha]

theorem ex_false {c : Operand} {a b : Code} {s : ASt} {r : Option (AExit × ASt)} (hc : aev s.fr c = some (.bool false)) (hb : exec E T A fid nt n rd b s = r) : exec E T A fid nt n rd (.cond c a b) s = r := by
  simp only [exec, hc, hb]

theorem ex_block {id : Nat} {b : Code} {s s1 : ASt} (h : exec E T A fid nt n rd b s = some (.normal, s1)) : exec E T A fid nt n rd (.block id b) s = some (.normal, s1) := by
  simp only [exec, h]

theorem ex_block_exit {id : Nat} {b : Code} {s s1 : ASt} (h : exec E T A fid nt n rd b s = some (.exit id, s1)) : exec E T A fid nt n rd (.block id b) s = some (.normal, s1) := by
  simp only [exec, h, Nat.beq_refl, cond_true]

theorem ex_block_ret {id : Nat} {b : Code} {s s1 : ASt} (h : exec E T A fid nt n rd b s = some (.ret, s1)) : exec E T A fid nt n rd (.block id b) s = some (.ret, s1) := by
  simp only [exec, h]

/-! ### Operations -/

variable {ρ : Operand → Option AV}

theorem op_load {t : Nat} {a : Operand} {ob i : Nat} {vs : List AV} {rw : Bool} {x : AV} {ty : ATy} (ha : ρ a = some (.ptr ob i)) (ho : h.get ob = some (.cells vs rw)) (ht : T.get t = some ty) (hg : ty.agg = false) (hv : vs[i]? = some x) :
    aop T ρ h (.load t a) = some (.val (some x) h) := by
  simp only [aop, ha, aload, ho, ht, hg, cond_false, hv, ret1]

theorem op_indexAddr {t : Nat} {x y : Operand} {ob off len esz e : Nat} {k : IntKind} {i : Nat} {te : ATy} {a b : Nat} {c : Bool} {d : AV} (hx : ρ x = some (.slice ob off len esz)) (hy : ρ y = some (.int k (i : Int))) (ht : T.get t = some ⟨.slice e, a, b, c, d⟩) (he : T.get e = some te) (hs : te.size = esz) (hi : i < len) :
    aop T ρ h (.indexAddr t x y) = some (.val (some (.ptr ob (off + i * esz))) h) := by
  have h1 : Nat.beq te.size esz = true := by rw [hs]; exact Nat.beq_refl _
  have h2 : inside (.int k (i : Int)) len = some i := by
    show (bif Nat.blt i len then some i else none) = _
    have : Nat.blt i len = true := by simpa using hi
    rw [this]; rfl
  simp only [aop, hx, hy, aindexAddr, ht, he, h1, cond_true, h2, ret1]

theorem op_lookup {t : Nat} {x y : Operand} {ob : Nat} {es : List (AV × AV × Nat)} {clock kind e : Nat} {key : AV} {te : ATy} {a b : Nat} {c ok : Bool} {d : AV} {r : Option (Nat × AV × Nat)} (hx : ρ x = some (.map ob)) (hy : ρ y = some key) (ht : T.get t = some ⟨.map kind e, a, b, c, d⟩) (hk : keyOk kind key = true) (he : T.get e = some te)
    (ho : h.get ob = some (.map es clock)) (hf : findE key es 0 = some r) :
    aop T ρ h (.lookup t x y ok) = some (.val (some (match r with
      | some (_, v, _) => bif ok then .tuple [v, .bool true] else v
      | none => bif ok then .tuple [te.zero, .bool false] else te.zero)) h) := by
  simp only [aop, hx, hy, alookup, ht, hk, cond_true, he, ho, hf]
  cases r with
  | none => rfl
  | some p => obtain ⟨_, v, _⟩ := p; rfl

theorem op_len_slice {c : Call} {x : Operand} {t : Nat} {ob off len esz : Nat} {e : Nat} {a b : Nat} {f : Bool} {d : AV} (hc : c.callee = .builtin .len) (ha : c.args.toList = [x]) (htt : c.argTypes.toList = [t]) (hx : ρ x = some (.slice ob off len esz)) (ht : T.get t = some ⟨.slice e, a, b, f, d⟩) :
    aop T ρ h (.call c) = some (.val (some (.int .i64 len)) h) := by
  simp only [aop, ha, aevL, hx, hc, htt, alen, ht, ret1]

theorem op_bin {op : BinOp} {t t' : Nat} {x y : Operand} {a b r : AV} (hx : ρ x = some a) (hy : ρ y = some b) (hr : abin T op t a b = some r) : aop T ρ h (.binOp op t x y t') = some (.val (some r) h) := by
  simp only [aop, hx, hy, hr, ret1]

theorem add_i64 {i j : Int} (h1 : -9223372036854775808 ≤ i + j) (h2 : i + j ≤ 9223372036854775807) {t : Nat} : abin T .add t (.int .i64 i) (.int .i64 j) = some (.int .i64 (i + j)) := by
  show some (AV.int .i64 (awrap .i64 (i + j))) = _
  have : i64Fits (i + j) = true := by simp [i64Fits]; omega
  simp only [awrap, this, cond_true]

end
end Go.Am
