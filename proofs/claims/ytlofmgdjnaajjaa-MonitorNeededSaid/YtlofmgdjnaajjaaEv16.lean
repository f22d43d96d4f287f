/- Own text: an operation's outcome serves whatever is asked of it. -/
import Derived.Test.YtlofmgdjnaajjaaEv15
namespace Go.Ev
open Go Go.RowKit
set_option linter.unusedVariables false
set_option linter.unusedSimpArgs false
section
variable {P : Program} {H : Nat → Option Blk} {env : Env} {next : Nat} {o : Oper} {cfg : Cfg} {fid : FuncId}
theorem binI_imp {op : BinOp} {k : IntKind} {a b : Int} {K K' : Value → Prop} (hk : ∀ x, K x → K' x) (h : binI op k a b K) : binI op k a b K' := by
  cases op <;> simp only [binI] at h ⊢ <;> first
    | exact hk _ h
    | exact ⟨h.1, hk _ h.2⟩
theorem shl_imp {op : BinOp} {k : IntKind} {a b : Int} {K K' : Value → Prop} (hk : ∀ x, K x → K' x) (h : shl op k a b K) : shl op k a b K' := by
  cases op <;> simp only [shl] at h ⊢ <;> exact ⟨h.1, hk _ h.2⟩
theorem binA_imp {op : BinOp} {t : TypeId} {a b : AV} {K K' : Value → Prop} (hk : ∀ x, K x → K' x) (h : binA P op t a b K) : binA P op t a b K' := by
  unfold binA at h ⊢
  split at h
  · split at h
    · exact shl_imp hk h
    · exact shl_imp hk h
    · split at h
      · exact binI_imp hk h
      · exact h.elim
  · split at h
    · exact hk _ h
    · exact hk _ h
    · exact h.elim
  · split at h
    · exact hk _ h
    · exact hk _ h
    · exact h.elim
  · split at h
    · exact hk _ h
    · exact hk _ h
    · exact h.elim
  · exact h.elim
theorem unA_imp {op : UnOp} {a : AV} {K K' : Value → Prop} (hk : ∀ x, K x → K' x) (h : unA op a K) : unA op a K' := by
  unfold unA at h ⊢
  split at h <;> first
    | exact hk _ h
    | exact h.elim
theorem convA_imp {s d : TypeId} {a : AV} {K K' : Value → Prop} (hk : ∀ x, K x → K' x) (h : convA P s d a K) : convA P s d a K' := by
  unfold convA at h ⊢
  split at h <;> first
    | exact hk _ h
    | exact h.elim
theorem sliceA_imp {sz : Nat} {x : AV} {lo hi mx : Option AV} {K K' : AV → Prop} (hk : ∀ x, K x → K' x) (h : sliceA sz x lo hi mx K) : sliceA sz x lo hi mx K' := by
  unfold sliceA at h ⊢
  split at h
  · split at h <;> first
      | exact hk _ h
      | exact ⟨h.1, h.2.1, hk _ h.2.2⟩
      | exact ⟨h.1, h.2.1, h.2.2.1, hk _ h.2.2.2⟩
      | exact h.elim
  · split at h <;> first
      | exact hk _ h
      | exact ⟨h.1, h.2.1, hk _ h.2.2⟩
      | exact ⟨h.1, h.2.1, h.2.2.1, hk _ h.2.2.2⟩
      | exact h.elim
  · exact h.elim
theorem allK_imp {c : List Prop} {K K' : Prop} (hk : K → K') (h : allK c K) : allK c K' := allK_iff.2 ⟨(allK_iff.1 h).1, hk (allK_iff.1 h).2⟩
theorem appendA_imp {sz bytes : Nat} {s x : AV} {K K' : OpK} (hk : ∀ v u n, K v u n → K' v u n) (h : appendA sz s x H next bytes K) : appendA sz s x H next bytes K' := by
  unfold appendA at h ⊢
  split at h
  · split at h
    · split at h
      · split at h
        · exact allK_imp (fun h => ⟨h.1, h.2.1, h.2.2.1, hk _ _ _ h.2.2.2⟩) h
        · exact h.elim
      · exact h.elim
    · split at h
      · split at h
        · exact allK_imp (fun h => ⟨h.1, h.2.1, h.2.2.1, hk _ _ _ h.2.2.2⟩) h
        · exact allK_imp (fun h => ⟨h.1, h.2.1, h.2.2.1, h.2.2.2.1, hk _ _ _ h.2.2.2.2⟩) h
      · exact h.elim
    · split at h
      · exact allK_imp (fun h => ⟨h.1, h.2.1, hk _ _ _ h.2.2⟩) h
      · exact h.elim
    · exact h.elim
  · exact h.elim
theorem opL_mono {K K' : OpK} (hk : ∀ v u n, K v u n → K' v u n) (h : opL P cfg fid env H next o K) : opL P cfg fid env H next o K' := by
  cases hop : o.op <;> simp only [opL, hop] at h ⊢ <;> try exact h.elim
  case move x => split at h <;> first | exact h.elim | exact hk _ _ _ h
  case assign x => split at h <;> first | exact h.elim | exact hk _ _ _ h
  case pick c x y =>
    split at h
    · split at h
      · split at h
        · exact hk _ _ _ h
        · exact h.elim
      · split at h
        · exact hk _ _ _ h
        · exact h.elim
    · exact h.elim
  case alloc t => split at h <;> first | exact h.elim | exact hk _ _ _ h
  case box t x =>
    split at h
    · split at h <;> first | exact h.elim | exact hk _ _ _ h
    · exact h.elim
  case build t ps =>
    split at h
    · split at h <;> first | exact h.elim | exact hk _ _ _ h
    · exact h.elim
  case buildSlice t n ps =>
    split at h
    · split at h
      · split at h
        · split at h
          · split at h
            · split at h
              · rename_i hown
                exact allK_imp (hk _ _ _) h
              · rename_i hown
                exact allK_imp (hk _ _ _) h
            · exact h.elim
          · exact h.elim
        · split at h
          · split at h
            · exact hk _ _ _ h
            · exact h.elim
          · exact h.elim
      · exact h.elim
    · exact h.elim
  case load t x =>
    split at h
    · split at h
      · split at h
        · exact ⟨h.1, hk _ _ _ h.2⟩
        · exact h.elim
      · exact h.elim
    · split at h
      · exact hk _ _ _ h
      · exact h.elim
    · exact h.elim
  case store t x y =>
    split at h
    · split at h
      · split at h <;> first | exact h.elim | exact hk _ _ _ h
      · exact h.elim
    · split at h
      · split at h
        · split at h
          · exact allK_imp (fun h => ⟨h.1, hk _ _ _ h.2⟩) h
          · exact h.elim
        · exact h.elim
      · exact h.elim
    · exact h.elim
  case nilCheck x => split at h <;> first | exact h.elim | exact hk _ _ _ h
  case binOp op t x y yt =>
    split at h
    · exact binA_imp (fun x hx => hk _ _ _ hx) h
    · exact h.elim
  case unOp op t x =>
    split at h
    · exact unA_imp (fun x hx => hk _ _ _ hx) h
    · exact h.elim
  case convert s d x =>
    split at h
    · exact convA_imp (fun x hx => hk _ _ _ hx) h
    · exact h.elim
  case makeFunc f a c => split at h <;> first | exact h.elim | exact hk _ _ _ h
  case makeSlice t l c =>
    split at h
    · split at h
      · split at h
        · exact ⟨h.1, h.2.1, h.2.2.1, h.2.2.2.1, hk _ _ _ h.2.2.2.2⟩
        · exact h.elim
      · exact h.elim
    · exact h.elim
  case slice t x lo hi mx =>
    split at h
    · split at h
      · exact sliceA_imp (fun x hx => hk _ _ _ hx) h
      · exact h.elim
    · split at h
      · split at h
        · exact hk _ _ _ h
        · exact h.elim
      · exact h.elim
    · exact h.elim
  case fieldAddr t x i =>
    split at h
    · split at h
      · split at h
        · split at h <;> first | exact h.elim | exact hk _ _ _ h
        · exact h.elim
      · exact h.elim
    · exact h.elim
  case field t x i =>
    split at h
    · split at h
      · split at h <;> first | exact h.elim | exact hk _ _ _ h
      · exact h.elim
    · exact h.elim
  case indexAddr t x i =>
    split at h
    · split at h
      · split at h <;> first | exact h.elim | exact ⟨h.1, h.2.1, hk _ _ _ h.2.2⟩
      · exact h.elim
    · split at h
      · split at h
        · split at h <;> first | exact h.elim | exact ⟨h.1, h.2.1, hk _ _ _ h.2.2⟩
        · split at h
          · split at h <;> first | exact h.elim | exact ⟨h.1, h.2.1, hk _ _ _ h.2.2⟩
          · exact h.elim
        · exact h.elim
      · exact h.elim
    · exact h.elim
  case index t x i =>
    split at h
    · split at h
      · split at h <;> first | exact h.elim | exact ⟨h.1, h.2.1, hk _ _ _ h.2.2⟩
      · exact h.elim
    · exact ⟨h.1, h.2.1, hk _ _ _ h.2.2⟩
    · exact h.elim
  case extract x i =>
    split at h
    · split at h <;> first | exact h.elim | exact hk _ _ _ h
    · exact h.elim
  case call c =>
    split at h
    · split at h
      · split at h <;> first | exact h.elim | exact hk _ _ _ h
      · exact h.elim
    · split at h <;> first | exact h.elim | exact hk _ _ _ h
    · split at h <;> first | exact h.elim | exact hk _ _ _ h
    · split at h
      · split at h
        · split at h
          · split at h
            · split at h
              · split at h
                · split at h <;> first | exact h.elim | exact hk _ _ _ h
                · rename_i hne
                  exact appendA_imp hk h
              · exact h.elim
            · exact h.elim
          · exact h.elim
        · exact h.elim
      · exact h.elim
    · split at h
      · split at h
        · split at h
          · split at h
            · split at h <;> exact allK_imp (fun h => ⟨h.1, hk _ _ _ h.2⟩) h
            · exact h.elim
          · exact h.elim
        · exact h.elim
      · exact h.elim
    · exact h.elim
end
end Go.Ev
