/- Own text: each operation does what the evaluator says, one after the other. -/
import Derived.Test.YtlofmgdjnaajjaaEv4
namespace Go.Ev
open Go Go.RowKit
set_option linter.unusedVariables false
set_option linter.unusedSimpArgs false

section
variable {P : Program} {O0 : Nat → Prop} {η : Eta} {H Ĥ : Nat → Option Blk} {w : World} {ρ : Operand → Value} {env : Env} {next : Nat} {o : Oper} {v : AV} {u : Heap} {n' : Nat}

theorem opd_one {O : Nat → Prop} {xs : List Operand} {x : Operand} {a : AV} (ho : Opd w O η env ρ xs) (hx : x ∈ xs) (h : opA env x = some a) : VRel w O η a (ρ x) := ho x hx a h

theorem vrel_v {O : Nat → Prop} {x y : Value} (h : VRel w O η (.v x) y) : y = x := by cases h; rfl
theorem vrel_agg {O : Nat → Prop} {l : List AV} {y : Value} (h : VRel w O η (.agg l) y) : ∃ xs : List Value, y = .agg xs.toArray ∧ VRels w O η l xs ∧ ∀ u ∈ xs, u.oneCell' = true := by
  cases h with
  | agg _ _ xs h1 h2 => exact ⟨xs, rfl, h1, h2⟩

theorem vrel_one {O : Nat → Prop} {a : AV} {y : Value} (h : VRel w O η a y) (h1 : a.one = true) : y.oneCell' = true := by
  cases h <;> first | rfl | (simp [AV.one] at h1; done) | (simpa [AV.one] using h1)

theorem vrels_ones {O : Nat → Prop} : ∀ {l : List AV} {xs : List Value}, VRels w O η l xs → aOnes l = true → ∀ u ∈ xs, u.oneCell' = true
  | _, _, .nil _, _ => by simp
  | _, _, .cons _ a x as xs h1 h2, h => by
    have hh := and_split (by simpa only [aOnes] using h)
    intro u hu
    rcases List.mem_cons.1 hu with rfl | hu
    · exact vrel_one h1 hh.1
    · exact vrels_ones h2 hh.2 u hu

/-- The cells of a value. -/
theorem cells_rel {O : Nat → Prop} {a : AV} {y : Value} (h : VRel w O η a y) (h1 : aOnes a.cells = true) : VRels w O η a.cells y.cells.toList ∧ ∀ u ∈ y.cells.toList, u.oneCell' = true := by
  have hs : ∀ (hone : a.one = true), a.cells = [a] → VRels w O η a.cells y.cells.toList ∧ ∀ u ∈ y.cells.toList, u.oneCell' = true := by
    intro hone hc
    have hy := vrel_one h hone
    have hyc : y.cells = #[y] := by cases y <;> first | rfl | (simp [Value.oneCell'] at hy; done)
    rw [hc, hyc]
    exact ⟨.cons _ _ _ _ _ h (.nil _), by simpa using hy⟩
  cases h with
  | agg _ l xs g1 g2 => exact ⟨by simpa [AV.cells, Value.cells] using g1, by simpa [Value.cells] using g2⟩
  | _ => exact hs (by simpa [AV.cells, aOnes] using h1) rfl

theorem run_zero {t : TypeId} {z : List AV} (h : zeroT P t = some z) : ∃ zv : Value, (zeroValue t).run P w = .ok zv w ∧ z = zv.cells.toList.map AV.v ∧ (∀ u ∈ zv.cells.toList, u.oneCell' = true) ∧ ∃ i, P.info? t = some i ∧ i.zero = some zv := by
  unfold zeroT at h
  split at h
  · rename_i i hi
    split at h
    · rename_i zv hz
      split at h
      · rename_i hall
        simp only [Option.some.injEq] at h
        exact ⟨zv, by simp [zeroValue, typeInfo, hi, hz], h.symm, fun u hu => List.all_eq_true.1 hall u hu, i, hi, hz⟩
      · cases h
    · cases h
  · cases h

/-- A new block of single cells. -/
theorem res_new (hH : HRel O0 η Ĥ w) (hn : η next = none) (T : TypeId) (xs : List Value) (k : Blk) (w1 : World) (hw1 : w1.heap = w.heap ∧ w1.os = w.os ∧ w1.tape = w.tape ∧ w1.output = w.output)
    (hk : ∀ (w' : World) (O : Nat → Prop) (η' : Eta), EtaLe η η' → Kept (Own O0 η Ĥ) w O w' → w'.heap[w.heap.size]? = some (.cells xs.toArray T (0, 0)) → BRel w' O η' w.heap.size xs.length k) (v : AV) (x : Value)
    (hv : ∀ (w' : World) (O : Nat → Prop) (η' : Eta), η' next = some (w.heap.size, xs.length) → VRel w' O η' v x) :
    Res O0 η Ĥ next w v [(next, some k)] (next + 1) x (w1.alloc (.cells xs.toArray T)) := by
  have hheap : (w1.alloc (.cells xs.toArray T)).heap = w.heap.push (.cells xs.toArray T) := by rw [← hw1.1]; rfl
  have hlow : Below w.heap.size w (w1.alloc (.cells xs.toArray T)) := ⟨hw1.2.1, hw1.2.2.1, hw1.2.2.2, by rw [hheap]; simp, fun k hk => by rw [hheap, Array.getElem?_push, if_neg (by omega)]⟩
  have hnewc : (w1.alloc (.cells xs.toArray T)).heap[w.heap.size]? = some (.cells xs.toArray T (0, 0)) := by rw [hheap]; simp
  have hkept' : Kept (Own O0 η Ĥ) w (Own O0 (etaSet η next w.heap.size xs.length) (hupd Ĥ [(next, some k)])) (w1.alloc (.cells xs.toArray T)) := Kept.low hlow fun y hy => by
    rcases hy with hy | ⟨b', k', N', h1, h2⟩
    · exact .inl (.inl hy)
    · by_cases hbb : b' = next
      · subst hbb; simp [etaSet] at h2; exact .inr (by omega)
      · rw [hupd_one_ne _ _ (Ne.symm hbb)] at h1
        simp [etaSet, hbb] at h2
        exact .inl (.inr ⟨b', k', N', h1, h2⟩)
  obtain ⟨h1, h2⟩ := hH.new hn k (w1.alloc (.cells xs.toArray T)) w.heap.size xs.length hlow (Nat.le_refl _) (by rw [hheap]; simp) (hk _ _ _ (etaSet_le hn) hkept' hnewc)
  exact ⟨_, etaSet_le hn, fun b hb => by unfold etaSet; rw [if_neg (by omega)], hv _ _ _ (by simp [etaSet]), h1, h2, hlow.mono (Nat.zero_le _), fun c hc => hlow.block c (hH.O0lt c hc)⟩

theorem world_same (w : World) : w.heap = w.heap ∧ w.os = w.os ∧ w.tape = w.tape ∧ w.output = w.output := ⟨rfl, rfl, rfl, rfl⟩

theorem sound_alloc {t : TypeId} (ho : o.op = .alloc t) {z : List AV} (hz : zeroT P t = some z) (hH : HRel O0 η Ĥ w) (hn : η next = none) :
    Goes P o ρ w (Res O0 η Ĥ next w (.ptr next 0) [(next, some (.cells z))] (next + 1)) := by
  obtain ⟨zv, hrun, hzz, hone, _⟩ := run_zero (w := w) hz
  refine goes_value (s := Instr.alloc t true (.tuple #[])) (x := .pointer (some ⟨w.heap.size, 0, none⟩)) (w' := w.alloc (.cells zv.cells.toList.toArray t)) (by simp only [execOp, ho]) ?_ ?_
  · simp [Instr.alloc, hrun, newVar, newRow]
  · exact res_new hH hn t zv.cells.toList (.cells z) w (world_same w) (fun w' O η' _ _ hw' => ⟨_, t, hw', rfl, hzz ▸ VRels.vs _ _, hone⟩) _ _ (fun w' O η' he => .ptr _ _ _ _ _ he)

theorem sound_box {t : TypeId} {x : Operand} {a : AV} (ho : o.op = .box t x) (ha : VRel w (Own O0 η Ĥ) η a (ρ x)) (h1 : aOnes a.cells = true) (hH : HRel O0 η Ĥ w) (hn : η next = none) :
    Goes P o ρ w (Res O0 η Ĥ next w (.ptr next 0) [(next, some (.cells a.cells))] (next + 1)) := by
  obtain ⟨hc, hone⟩ := cells_rel ha h1
  refine goes_value (s := Instr.box t (ρ x)) (x := .pointer (some ⟨w.heap.size, 0, none⟩)) (w' := w.alloc (.cells (ρ x).cells.toList.toArray t)) (by simp only [execOp, ho]) ?_ ?_
  · simp [Instr.box, newVar, newRow]
  · exact res_new hH hn t (ρ x).cells.toList (.cells a.cells) w (world_same w) (fun w' O η' he hk hw' => ⟨_, t, hw', rfl, (hc.kept hk).ext _ he, hone⟩) _ _ (fun w' O η' he => .ptr _ _ _ _ _ he)

/-! ### values of one word -/
theorem res_v (hH : HRel O0 η Ĥ w) (x : Value) : Res O0 η Ĥ next w (.v x) [] next x w := Res.same hH (.v η x)

theorem binI_run {op : BinOp} {t : TypeId} {k : IntKind} {a b : Int} {x : Value} (hs : op ≠ .shl ∧ op ≠ .shr) (h : binI op k a b (fun y => y = x)) : (binOp op t (.int k a) (.int k b)).run P w = .ok x w := by
  cases op <;> simp only [binI] at h <;> first
    | (subst h; simp [binOp_add, binOp_sub, binOp_mul, binOp_and, binOp_or, binOp_xor, binOp_andNot, binOp_eql, binOp_neq, binOp_lss, binOp_leq, binOp_gtr, binOp_geq, Op.intArith, Op.intBits, intBitsV]; done)
    | (obtain ⟨hb, rfl⟩ := h; simp [binOp_quo, binOp_rem, Op.intDiv, hb]; done)
    | exact h.elim
    | exact absurd rfl hs.1
    | exact absurd rfl hs.2

theorem shl_run {op : BinOp} {t : TypeId} {k yk : IntKind} {a b : Int} {x : Value} (h : shl op k a b (fun y => y = x)) : (binOp op t (.int k a) (.int yk b)).run P w = .ok x w := by
  cases op <;> simp only [shl] at h <;> first
    | exact h.elim
    | (obtain ⟨hb, rfl⟩ := h
       simp only [binOp_shl, binOp_shr, Op.shift]
       rw [if_neg (by omega)]
       rfl)
end
end Go.Ev
