/- Own text: each operation does what the evaluator says. -/
import Derived.Test.YtlofmgdjnaajjaaEv3
import Derived.Laws.StructEq
import Derived.Laws.Slices
import Derived.Laws.Rows
namespace Go.Ev
open Go Go.RowKit
set_option linter.unusedVariables false
set_option linter.unusedSimpArgs false

/-- An operation comes to a value. -/
def Goes (P : Program) (o : Oper) (ρ : Operand → Value) (w : World) (R : Value → World → Prop) : Prop :=
  match (execOp ρ o).run P w with
  | .ok (.value x) w' => R x w'
  | .ok .skip w' => R undef w'
  | .ok (.enter f args) w' => Calls P f args w' fun e w'' => ∃ x, e = .returned x ∧ R x w''
  | _ => False

theorem Goes.wp {P : Program} {o : Oper} {a : Act} {w : World} {R : Value → World → Prop} {K : Act → World → Prop} {Q : Exit → Act → World → Prop} (h : Goes P o a.eval w R) (hk : ∀ x w', R x w' → K (a.put o.dst x) w') : o.wp P a w K Q := by
  unfold Goes at h
  unfold Oper.wp
  generalize (execOp a.eval o).run P w = r at h
  cases r with
  | halt x w' => exact h.elim
  | ok n w' =>
    cases n <;> simp only [Oper.upon] at h ⊢ <;> first
      | exact hk _ _ h
      | exact h.elim
      | (refine Calls.mono h fun e w'' he => ?_
         obtain ⟨x, rfl, hr⟩ := he
         exact hk _ _ hr)

theorem goes_value {P : Program} {o : Oper} {ρ : Operand → Value} {w w' : World} {R : Value → World → Prop} {s : Sem Value} {x : Value} (he : execOp ρ o = (do pure (.value (← s)))) (hr : s.run P w = .ok x w') (h : R x w') : Goes P o ρ w R := by
  unfold Goes
  rw [he]
  simp [hr, h]
theorem goes_skip {P : Program} {o : Oper} {ρ : Operand → Value} {w w' : World} {R : Value → World → Prop} {s : Sem Unit} (he : execOp ρ o = (do s; pure .skip)) (hr : s.run P w = .ok () w') (h : R undef w') : Goes P o ρ w R := by
  unfold Goes
  rw [he]
  simp [hr, h]

/-- What an operation leaves. -/
def Res (O0 : Nat → Prop) (η : Eta) (H : Nat → Option Blk) (next : Nat) (w : World) (v : AV) (u : Heap) (n' : Nat) (x : Value) (w' : World) : Prop :=
  ∃ η', EtaLe η η' ∧ (∀ b, ¬ (next ≤ b ∧ b < n') → η' b = η b) ∧ VRel w' (Own O0 η' (hupd H u)) η' v x ∧ HRel O0 η' (hupd H u) w' ∧ Kept (Own O0 η H) w (Own O0 η' (hupd H u)) w' ∧ Below 0 w w' ∧ ∀ c, O0 c → w'.heap[c]? = w.heap[c]?

theorem Res.same {O0 : Nat → Prop} {η : Eta} {H : Nat → Option Blk} {next : Nat} {w : World} {v : AV} {x : Value} (h : HRel O0 η H w) (hv : VRel w (Own O0 η H) η v x) : Res O0 η H next w v [] next x w :=
  ⟨η, EtaLe.refl η, fun _ _ => rfl, hv, h, Kept.refl _ _, Below.refl 0 w, fun _ _ => rfl⟩

section
variable {P : Program} {O0 : Nat → Prop} {η : Eta} {H Ĥ : Nat → Option Blk} {w : World} {ρ : Operand → Value} {env : Env}

/-- Operands stand to their values. -/
def Opd (w : World) (O : Nat → Prop) (η : Eta) (env : Env) (ρ : Operand → Value) (xs : List Operand) : Prop := ∀ x, x ∈ xs → ∀ a, opA env x = some a → VRel w O η a (ρ x)

theorem opAs_rel {O : Nat → Prop} : ∀ {xs : List Operand} {l : List AV}, Opd w O η env ρ xs → opAs env xs = some l → VRels w O η l (xs.map ρ)
  | [], l, _, h => by simp only [opAs, Option.some.injEq] at h; subst h; exact .nil η
  | x :: r, l, ho, h => by
    simp only [opAs] at h
    split at h
    · rename_i a as ha has
      simp only [Option.some.injEq] at h
      subst h
      exact .cons η _ _ _ _ (ho x (by simp) a ha) (opAs_rel (fun y hy => ho y (by simp [hy])) has)
    · cases h

/-! ### types -/
theorem run_sizeOf {t : TypeId} {n : Nat} (h : sizeT P t = some n) : (sizeOf t).run P w = .ok n w := by
  unfold sizeT at h
  split at h
  · rename_i i hi
    simp only [Option.some.injEq] at h
    subst h
    simp [sizeOf, typeInfo, hi]
  · cases h
theorem run_isAgg {t : TypeId} {g : Bool} (h : aggT P t = some g) : (isAgg t).run P w = .ok g w := by
  unfold aggT at h
  unfold isAgg
  cases hu : P.underlying t with
  | none => rw [hu] at h; cases h
  | some d => rw [hu] at h; rw [Sem.run_bind, run_underlying hu w]; cases d <;> simp at h <;> subst h <;> simp

theorem partA_rel {O : Nat → Prop} {t : TypeId} {cs : List AV} {off : Nat} {v : AV} {xs : List Value} (h : partA P t cs off = some v) (hr : VRels w O η cs xs) (h1 : ∀ u ∈ xs, u.oneCell' = true) :
    ∃ x, (part t xs.toArray off).run P w = .ok x w ∧ VRel w O η v x := by
  unfold partA at h
  split at h
  · rename_i hagg
    split at h
    · rename_i n hn
      split at h
      · rename_i hle
        simp only [Option.some.injEq] at h
        subst h
        have hle' : off + n ≤ cs.length := Nat.le_of_ble_eq_true hle
        refine ⟨.agg ((xs.drop off).take n).toArray, ?_, .agg η _ _ ((hr.drop off).take n) (fun u hu' => h1 u (List.mem_of_mem_drop (List.mem_of_mem_take hu')))⟩
        unfold part
        simp only [Sem.run_bind, run_isAgg hagg, Result.andThen_ok, if_true, run_sizeOf hn, Sem.run_pure]
        congr 2
        apply Array.ext'
        simp [Array.toList_extract, List.extract, List.drop_take]
      · cases h
    · cases h
  · rename_i hagg
    obtain ⟨u, hu', hv⟩ := hr.get off v h
    refine ⟨u, ?_, hv⟩
    unfold part
    simp [Sem.run_bind, run_isAgg hagg, hu']
  · cases h

/-! ### loads -/
theorem row_cells {O : Nat → Prop} : ∀ {c off : Nat} {l : List AV}, VRow w O c off l → ∃ xs : List Value, VRels w O noEta l xs ∧ (∀ u ∈ xs, u.oneCell' = true) ∧ (∀ j u, xs[j]? = some u → w.cell? ⟨c, off + j, none⟩ = some u ∧ ¬ O c)
  | _, _, _, .nil c off => ⟨[], .nil _, by simp, by simp⟩
  | _, _, _, .cons c off a x as h1 h2 h3 h4 h5 => by
    obtain ⟨xs, k1, k2, k3⟩ := row_cells h5
    refine ⟨x :: xs, .cons _ _ _ _ _ h4 k1, by simpa [h3] using k2, fun j u hj => ?_⟩
    cases j with
    | zero => simp at hj; subst hj; exact ⟨h2, h1⟩
    | succ j => have := k3 j u (by simpa using hj); rw [show off + 1 + j = off + (j + 1) by omega] at this; exact this
theorem row_of {O : Nat → Prop} : ∀ {l : List AV} {xs : List Value} {c off : Nat}, VRels w O noEta l xs → (∀ u ∈ xs, u.oneCell' = true) → (∀ j u, xs[j]? = some u → w.cell? ⟨c, off + j, none⟩ = some u ∧ ¬ O c) → VRow w O c off l
  | _, _, c, off, .nil _, _, _ => .nil c off
  | _, _, c, off, .cons _ a x as xs h1 h2, h3, h4 => by
    have h0 := h4 0 x (by simp)
    refine .cons c off a x as h0.2 (by simpa using h0.1) (h3 x (by simp)) h1 (row_of h2 (fun u hu => h3 u (by simp [hu])) fun j u hj => ?_)
    have := h4 (j + 1) u (by simpa using hj)
    rwa [show off + (j + 1) = off + 1 + j by omega] at this

/-- A variable of type t is read out of cells that are known. -/
theorem run_loadVar_cells {t : TypeId} {l : List AV} {xs : List Value} {v : AV} {off c base : Nat} {O : Nat → Prop} (h : partA P t l off = some v) (hr : VRels w O η l xs) (h1 : ∀ u ∈ xs, u.oneCell' = true)
    (hc : ∀ j u, xs[j]? = some u → w.cell? ⟨c, base + j, none⟩ = some u) : ∃ x, (loadVar t ⟨c, base + off, none⟩).run P w = .ok x w ∧ VRel w O η v x := by
  unfold partA at h
  split at h
  · rename_i hagg
    split at h
    · rename_i n hn
      split at h
      · rename_i hle
        simp only [Option.some.injEq] at h
        subst h
        have hle' : off + n ≤ l.length := Nat.le_of_ble_eq_true hle
        have hlen := hr.length
        refine ⟨.agg ((xs.drop off).take n).toArray, ?_, .agg η _ _ ((hr.drop off).take n) (fun u hu' => h1 u (List.mem_of_mem_drop (List.mem_of_mem_take hu')))⟩
        have hl : (loadCells ⟨c, base + off, none⟩ ((xs.drop off).take n).length).run P w = .ok ((xs.drop off).take n).toArray w := by
          refine run_loadCells_list (P := P) w ⟨c, base + off, none⟩ _ fun j u hj => ?_
          rw [Addr.add_lit]
          rw [List.getElem?_take] at hj
          split at hj
          · rw [List.getElem?_drop] at hj
            rw [show base + off + j = base + (off + j) by omega]
            exact hc _ _ hj
          · cases hj
        have hl2 : ((xs.drop off).take n).length = n := by simp; omega
        rw [hl2] at hl
        unfold loadVar
        simp only [Sem.run_bind, run_isAgg hagg, Result.andThen_ok, if_true, run_sizeOf hn, hl, Sem.run_pure]
      · cases h
    · cases h
  · rename_i hagg
    obtain ⟨u, hu', hv⟩ := hr.get off v h
    refine ⟨u, ?_, hv⟩
    unfold loadVar
    simp [Sem.run_bind, run_isAgg hagg, hc off u hu']
  · cases h

theorem blk_cells {c N : Nat} {k : Blk} {O : Nat → Prop} {l : List AV} (h : BRel w O η c N (.cells l)) : ∃ (xs : List Value) (T : TypeId), w.heap[c]? = some (.cells xs.toArray T (0, 0)) ∧ xs.length = N ∧ VRels w O η l xs ∧ (∀ u ∈ xs, u.oneCell' = true) := by
  obtain ⟨cur, T, h1, h2, h3⟩ := h
  exact ⟨cur, T, h1, h2, h3.1, h3.2⟩

theorem loadA_run {t : TypeId} {p v : AV} {x : Value} (hl : loadA P t p H = some v) (hp : VRel w (Own O0 η Ĥ) η p x) (hH : HRel O0 η Ĥ w) (hf : ∀ b, (match p with | .ptr b _ => some b | _ => none) = some b → Ĥ b = H b) :
    ∃ a y, x = .pointer (some a) ∧ (loadVar t a).run P w = .ok y w ∧ VRel w (Own O0 η Ĥ) η v y := by
  unfold loadA at hl
  split at hl
  · rename_i b off
    split at hl
    · rename_i l hb
      cases hp with
      | ptr _ _ _ c N he =>
      have hb' := (hf b rfl).trans hb
      obtain ⟨h2, h3⟩ := hH.real hb' he
      obtain ⟨xs, T, g1, g2, g3, g4⟩ := blk_cells (k := .cells l) h3
      obtain ⟨y, hy, hv⟩ := run_loadVar_cells (c := c) (base := 0) hl g3 g4 (fun j u hj => by rw [cell_of_row w c (0 + j) _ T _ g1]; simpa using hj)
      exact ⟨_, y, rfl, by simpa using hy, hv⟩
    · cases hl
  · rename_i sz n f i j
    cases hp with
    | ep _ _ _ _ _ _ c off h1 h2 h3 =>
    obtain ⟨xs, k1, k2, k3⟩ := row_cells (h3 i h1)
    obtain ⟨y, hy, hv⟩ := run_loadVar_cells (c := c) (base := off + i * sz) hl (k1.ext η (fun b c N hb => by cases hb)) k2 (fun j u hj => (k3 j u hj).1)
    exact ⟨_, y, rfl, hy, hv⟩
  · cases hl
end
end Go.Ev
