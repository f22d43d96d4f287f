/- Own text, packed by pack.py, part 2: words, functions with their walks, plain lemmas. -/
import Derived.Test.YtlofmgdjnaajjaaMm1
/- Own words beside the print's: calls through function values that are known, and what the walks of given functions use. -/
namespace Go.Proofs.Ytlofmgdjnaajjaa.Q
open Go.RowKit Go.Proofs.YtlofmgdjnaajjaaW.PrintWords Go.Proofs.YtlofmgdjnaajjaaW.PrintLast Go.Proofs.YtlofmgdjnaajjaaW.PrintMore
set_option linter.unusedVariables false
set_option linter.unusedSimpArgs false
theorem run_makeFunc_own (P : Program) (fn : Fn) (first cap : Array Value) (w : World) : (Instr.makeFunc fn first cap).run P w = .ok (.func fn first cap) w := rfl
/-- A whole variable is stored: cell by cell, as the walk spells it. -/
def setCells (w : World) (g : Nat) : List Value → Nat → World
  | [], _ => w
  | v :: rest, i => setCells (w.setCell ⟨g, i, none⟩ v) g rest (i + 1)
theorem run_storeCells_set {P : Program} (g : Nat) (t : TypeId) : ∀ (vs : List Value) (i : Nat) (cur : Array Value) (w : World), w.heap[g]? = some (.cells cur t (0, 0)) → i + vs.length = cur.size → (∀ v ∈ vs, v.oneCell' = true) →
    (storeCells ⟨g, 0, none⟩ vs i).run P w = .ok () (setCells w g vs i)
  | [], i, cur, w, _, _, _ => rfl
  | v :: rest, i, cur, w, hg, hl, h1 => by
    have hi : i < cur.size := by simp at hl; omega
    have hadd : (⟨g, 0, none⟩ : Addr).add i = ⟨g, i, none⟩ := by unfold Addr.add; split <;> simp_all
    have hcell : w.cell? ⟨g, i, none⟩ = some cur[i] := by simp [World.cell?, hg, hi]
    have hfro : w.frozen? ⟨g, i, none⟩ = false := by simp [World.frozen?, hg]
    have hst : (store ((⟨g, 0, none⟩ : Addr).add i) v).run P w = .ok () (w.setCell ⟨g, i, none⟩ v) := by
      rw [hadd, run_store P w _ v _ (h1 v (by simp)), hcell]
      simp [hfro]
    have hg' : (w.setCell ⟨g, i, none⟩ v).heap[g]? = some (.cells (cur.setIfInBounds i v) t (0, 0)) := by
      rw [setCell_eq_setRow w g i cur t (0, 0) v hg]
      exact setRow_heap w g cur _ t _ hg
    have ih := run_storeCells_set (P := P) g t rest (i + 1) (cur.setIfInBounds i v) (w.setCell ⟨g, i, none⟩ v) hg' (by simp at hl ⊢; omega) (fun x hx => h1 x (by simp [hx]))
    simp only [storeCells, Sem.run_bind, hst, Result.andThen_ok, ih, setCells]
theorem store_box {P : Program} {ρ : Operand → Value} {o : Oper} {w0 w w1 : World} {ty : TypeId} {p v : Operand} {g : Nat} {t : TypeId} {old : Array Value} {vs : List Value} (_hBK : Aside0 (w0.heap[g]? = some (.cells old t (0, 0)))) (hop : o.op = .store ty p v) (hp : ρ p = .pointer (some ⟨g, 0, none⟩)) (hv : ρ v = .agg vs.toArray)
    (hg : w.heap[g]? = some (.cells old t (0, 0))) (hi : (P.info? ty).map (·.size) = some vs.length) (ho : old.size = vs.length) (h1 : vs.all (·.oneCell') = true) (hw : setCells w g vs 0 = w1) :
    (execOp ρ o).run P w = .ok .skip w1 := by
  subst hw
  have h2 := run_storeCells_set (P := P) g t vs 0 old w hg (by omega) (fun v hv => (List.all_eq_true.1 h1) v hv)
  have h3 : (storeVar ty ⟨g, 0, none⟩ (.agg vs.toArray)).run P w = .ok () (setCells w g vs 0) := by
    cases hq : P.info? ty with
    | none => simp [hq] at hi
    | some i =>
      have hs : vs.length = i.size := by simp [hq] at hi; omega
      simp [storeVar, sizeOf, typeInfo, hq, Value.cells, hs, h2]
  unfold execOp
  simp [hop, hp, hv, Instr.storeAt, Instr.sureAddr, asAddr, h3]
/-- A step that leaves what stands in the old blocks. -/
class BxStep (w' : World) (w : outParam World) : Prop where
  keeps : ∀ (g : Nat) (o : Obj), w.heap[g]? = some o → w'.heap[g]? = some o
instance bxDrewN (w : World) (n : Nat) : BxStep (w.drewN n) w := ⟨fun _ _ h => blk_drewN h n⟩
instance bxDrew (w : World) : BxStep w.drew w := ⟨fun _ _ h => blk_drew h⟩
instance bxAlloc (w : World) (o : Obj) : BxStep (w.alloc o) w := ⟨fun _ _ h => blk_alloc h o⟩
/-- Steps that leave what stands in the old blocks. -/
class BxTo (w' w : World) : Prop where
  keeps : ∀ (g : Nat) (o : Obj), w.heap[g]? = some o → w'.heap[g]? = some o
  below : ∀ w0 : World, Below w0.heap.size w0 w → Below w0.heap.size w0 w'
instance bxRefl (w : World) : BxTo w w := ⟨fun _ _ h => h, fun _ h => h⟩
instance bxToDrewN (w' w : World) (n : Nat) [k : BxTo w' w] : BxTo (w'.drewN n) w := ⟨fun g o h => blk_drewN (k.keeps g o h) n, fun w0 h => pw_below_drewN (k.below w0 h) n⟩
instance bxToDrew (w' w : World) [k : BxTo w' w] : BxTo w'.drew w := ⟨fun g o h => blk_drew (k.keeps g o h), fun w0 h => below_drew1 (k.below w0 h)⟩
instance bxToAlloc (w' w : World) (b : Obj) [k : BxTo w' w] : BxTo (w'.alloc b) w := ⟨fun g o h => blk_alloc (k.keeps g o h) b, fun w0 h => below_alloc (k.below w0 h) b⟩
theorem bx0 {w w' : World} {g : Nat} {o : Obj} (h : Aside0 (w.heap[g]? = some o)) [k : BxTo w' w] : w'.heap[g]? = some o := k.keeps g o h.out
theorem bxb {w w' w1 : World} {g : Nat} {o : Obj} (h : Aside0 (w.heap[g]? = some o)) (hb : Below w'.heap.size w' w1) [k : BxTo w' w] : Aside0 (w1.heap[g]? = some o) := ⟨blk_below (k.keeps g o h.out) hb⟩
theorem bwt {w0 w w' : World} (h : Aside0 (Below w0.heap.size w0 w)) [k : BxTo w' w] : Below w0.heap.size w0 w' := k.below w0 h.out
theorem nlt_ {w w' : World} {g m : Nat} {o : Obj} (h : Aside0 (w.heap[g]? = some o)) (hg : m = w'.heap.size) [k : BxTo w' w] : Aside0 (g ≠ m) := ⟨by rw [hg]; exact Nat.ne_of_lt (blk_lt (k.keeps g o h.out))⟩
theorem ngt_ {w w' : World} {g m : Nat} {o : Obj} (h : Aside0 (w.heap[g]? = some o)) (hg : m = w'.heap.size) [k : BxTo w' w] : Aside0 (m ≠ g) := ⟨by rw [hg]; exact Nat.ne_of_gt (blk_lt (k.keeps g o h.out))⟩
theorem bc {w : World} {g : Nat} {cs : Array Value} {t : TypeId} (h : Aside0 (w.heap[g]? = some (.cells cs t (0, 0)))) (j : Nat) {v : Value} (hv : cs[j]? = some v := by rfl) : w.cell? ⟨g, j, none⟩ = some v := (blk_cell h.out j).trans hv
theorem bp_ {w' w : World} [k : BxStep w' w] {g : Nat} {o : Obj} (h : w.heap[g]? = some o) : w'.heap[g]? = some o := k.keeps g o h
section
variable {P : Program} {ops : Array Oper} {rest : List Oper} {o : Oper} {a : Act} {Q : Exit → Act → World → Prop} {W : World}
theorem gate_value {t : Tmp} {as : Array Operand} {ts : Array TypeId} (_ho : o.op = .call { callee := .value (.tmp t), args := as, argTypes := ts }) (h : wpList P ops Q (o :: rest) a W) : wpList P ops Q (o :: rest) a W := h
end
section
variable {P : Program} {ops : Array Oper} {Q : Exit → Act → World → Prop} {md : Region.Mode} {S : World → Prop} {ds : List Nat}
/-- A call through a value that is a known function, in a region that draws. -/
theorem goesV_ {oi : Oper} {N : Option Tmp} {a : Act} {w : World} {K : Act → World → Prop} {f : FuncId} {fn : Func} {t : Tmp} {as : Array Operand} {ts : Array TypeId} (hf : P.funcs[f]? = some fn) (hname : (fn.name == "runtime.NumGoroutine") = false) (hb : fn.body.isSome = true) (args : Array Value)
    (hw : Region.wanted oi (yielded ops a.tmps) = true) (hN : oi.dst = N) (hop : oi.op = .call { callee := .value (.tmp t), args := as, argTypes := ts }) (hargs : ∃ first, a.eval (.tmp t) = .func (.func f) first #[] ∧ first ++ as.map a.eval = args)
    (h : Calls P f args w fun e w' => ∃ v, e = .returned v ∧ K (a.put N v) w') : if Region.wanted oi (yielded ops a.tmps) = true then Oper.wp P oi a w K Q else K (a.put N undef) w := by
  refine call_ f args hw hN ?_ h
  obtain ⟨first, hv, hargs⟩ := hargs
  have he := enters_ hf hname hb args w
  unfold execOp
  simp only [Act.eval] at hv
  simp [hop, resolve, Deferred.ofValue, invoke, Act.eval, hv]
  rw [hargs]
  simp [he]
/-- The same in a plain region. -/
theorem goesVL_ {rest : List Oper} {oi : Oper} {a : Act} {w : World} (N : Option Tmp) (hd : oi.dst = N) (hg : oi.guard = none) {f : FuncId} {fn : Func} {t : Tmp} {as : Array Operand} {ts : Array TypeId} (hf : P.funcs[f]? = some fn) (hname : (fn.name == "runtime.NumGoroutine") = false) (hb : fn.body.isSome = true) (args : Array Value)
    (hop : oi.op = .call { callee := .value (.tmp t), args := as, argTypes := ts }) (hargs : ∃ first, a.eval (.tmp t) = .func (.func f) first #[] ∧ first ++ as.map a.eval = args)
    (h : Calls P f args w fun e w' => ∃ v, e = .returned v ∧ wpList P ops Q rest (a.put N v) w') : wpList P ops Q (oi :: rest) a w := by
  refine wpList_plain hg fun K hK => ?_
  obtain ⟨first, hv, hargs⟩ := hargs
  have he := enters_ hf hname hb args w
  have hrun : (execOp a.eval oi).run P w = .ok (.enter f args) w := by
    unfold execOp
    simp only [Act.eval] at hv
    simp [hop, resolve, Deferred.ofValue, invoke, Act.eval, hv]
    rw [hargs]
    simp [he]
  unfold Oper.wp
  rw [hrun, Oper.upon_enter]
  refine h.mono fun e w'' hh => ?_
  obtain ⟨v, rfl, hk⟩ := hh
  subst hd
  exact hK _ _ hk
end
end Go.Proofs.Ytlofmgdjnaajjaa.Q

