/- Own text: tables of contracts. -/
import Derived.Test.YtlofmgdjnaajjaaEv26
namespace Go.Ev
open Go Go.RowKit
set_option linter.unusedVariables false
set_option linter.unusedSimpArgs false

abbrev LoopG := Nat → St → Option (Prop × Bool × (Exit × St) × (Exit × St))
/-- A contract: what a function returns. -/
structure Ctr where
  f : FuncId
  g : List AV → Option (Prop × AV)
def CtrOk (P : Program) (c : Ctr) : Prop := Entry P c.f ∧ ∀ args p v, c.g args = some (p, v) → p → APure P c.f args v

def findC : List Ctr → FuncId → Option (List AV → Option (Prop × AV))
  | [], _ => none
  | c :: r, f => match Nat.beq c.f f with
    | true => some c.g
    | false => findC r f
def findL : List (FuncId × Nat × LoopG) → FuncId → Nat → Option LoopG
  | [], _, _ => none
  | (f0, i0, g) :: r, f, i => match Nat.beq f0 f, Nat.beq i0 i with
    | true, true => some g
    | _, _ => findL r f i
def hasN : List Nat → Nat → Bool
  | [], _ => false
  | a :: r, n => match Nat.beq a n with
    | true => true
    | false => hasN r n
def hasNN : List (Nat × Nat) → Nat → Nat → Bool
  | [], _, _ => false
  | (a, b) :: r, n, m => match Nat.beq a n, Nat.beq b m with
    | true, true => true
    | _, _ => hasNN r n m
/-- Contracts, functions that are entered, loops, slice literals that are written later. -/
noncomputable def mkCfg (P : Program) (cs : List Ctr) (inl : List FuncId) (loops : List (FuncId × Nat × LoopG)) (own : List (Nat × Nat)) : Cfg :=
  { spec := findC cs, inl := fun f => match hasN inl f with | true => P.funcs[f]? | false => none, loop := findL loops, own := hasNN own }

theorem findC_mem : ∀ {cs : List Ctr} {f : FuncId} {g : List AV → Option (Prop × AV)}, findC cs f = some g → ∃ c ∈ cs, c.f = f ∧ c.g = g
  | [], f, g, h => by cases h
  | c :: r, f, g, h => by
    simp only [findC] at h
    split at h
    · rename_i he
      cases h
      exact ⟨c, List.mem_cons_self, Nat.eq_of_beq_eq_true he, rfl⟩
    · obtain ⟨c', h1, h2⟩ := findC_mem h
      exact ⟨c', List.mem_cons_of_mem _ h1, h2⟩

section
variable {P : Program} {cs : List Ctr} {inl : List FuncId} {loops : List (FuncId × Nat × LoopG)} {own : List (Nat × Nat)}
theorem mkCfg_ok (h : ∀ c ∈ cs, CtrOk P c) : CfgOk P (mkCfg P cs inl loops own) := by
  refine ⟨fun f g hf => ?_, fun f g hf args p v hv hp => ?_⟩
  · obtain ⟨c, h1, rfl, rfl⟩ := findC_mem hf
    exact (h c h1).1
  · obtain ⟨c, h1, rfl, rfl⟩ := findC_mem hf
    exact (h c h1).2 args p v hv hp
theorem mkInl_ok (hl : ∀ f fn c, P.funcs[f]? = some fn → fn.body = some c → LoopsOk P (mkCfg P cs inl loops own) f c) : InlOk P (mkCfg P cs inl loops own) := by
  have key : ∀ f fn, (mkCfg P cs inl loops own).inl f = some fn → P.funcs[f]? = some fn := fun f fn h => by
    unfold mkCfg at h
    simp only at h
    split at h
    · exact h
    · cases h
  exact ⟨key, fun f fn c h hb => hl f fn c (key f fn h) hb⟩
/-- No loop goes by a summary. -/
theorem mkInl_ok0 : InlOk P (mkCfg P cs inl [] own) := mkInl_ok fun f fn c _ _ b _ g hg => by cases hg

/-- A contract, out of what the kernel reckons. -/
theorem ctr_of {loops : List (FuncId × Nat × LoopG)} (hmix : P.follows .mixedOrders = true) (hcs : ∀ c ∈ cs, CtrOk P c) (hi : InlOk P (mkCfg P cs inl loops own)) {fuel d : Nat} {f : FuncId} {g : List AV → Option (Prop × AV)} (he : Entry P f) (h : ∀ args p v, g args = some (p, v) → p → callN P (mkCfg P cs inl loops own) fuel d f args [] 0 (Reads v)) : CtrOk P ⟨f, g⟩ :=
  ⟨he, fun args p v hv hp => (pure_of' (mkCfg_ok hcs) hi hmix (h args p v hv hp)).2⟩
end
end Go.Ev
