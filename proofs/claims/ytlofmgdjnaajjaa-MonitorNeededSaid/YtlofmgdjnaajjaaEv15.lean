/- Own text: an operation has one outcome. -/
import Derived.Test.YtlofmgdjnaajjaaEv14
namespace Go.Ev
open Go Go.RowKit
set_option linter.unusedVariables false
set_option linter.unusedSimpArgs false
section
variable {P : Program} {H : Nat → Option Blk} {env : Env} {next : Nat} {o : Oper} {cfg : Cfg} {fid : FuncId}

theorem appendA_det {sz bytes : Nat} {s x : AV} {K : OpK} (h : appendA sz s x H next bytes K) : ∃ v u n, appendA sz s x H next bytes (fun v' u' m => v' = v ∧ u' = u ∧ m = n) ∧ K v u n := by
  unfold appendA at h ⊢
  split at h
  · split at h
    · split at h
      · split at h
        · obtain ⟨hcc, rfl, h2, h3, h5⟩ := allK_iff.1 h
          refine ⟨_, _, _, ?_, h5⟩
          simp only [*]; refine allK_iff.2 ⟨hcc, ?_⟩; simp [*]
        · exact h.elim
      · exact h.elim
    · split at h
      · split at h
        · obtain ⟨hcc, rfl, h2, h3, h5⟩ := allK_iff.1 h
          refine ⟨_, _, _, ?_, h5⟩
          simp only [*]; refine allK_iff.2 ⟨hcc, ?_⟩; simp [*]
        · obtain ⟨hcc, rfl, h2, h3, h4, h5⟩ := allK_iff.1 h
          refine ⟨_, _, _, ?_, h5⟩
          simp only [*]; refine allK_iff.2 ⟨hcc, ?_⟩; simp [*]
      · exact h.elim
    · split at h
      · obtain ⟨hcc, h1, h2, h5⟩ := allK_iff.1 h
        refine ⟨_, _, _, ?_, h5⟩
        simp only [*]; refine allK_iff.2 ⟨hcc, ?_⟩; simp [*]
      · exact h.elim
    · exact h.elim
  · exact h.elim

theorem opL_det {K : OpK} (h : opL P cfg fid env H next o K) : ∃ v u n, opL P cfg fid env H next o (fun v' u' m => v' = v ∧ u' = u ∧ m = n) ∧ K v u n := by
  cases hop : o.op <;> simp only [opL, hop] at h ⊢ <;> try exact h.elim
  case move x => split at h <;> first | exact h.elim | (refine ⟨_, _, _, ?_, h⟩; simp [*])
  case assign x => split at h <;> first | exact h.elim | (refine ⟨_, _, _, ?_, h⟩; simp [*])
  case pick c x y =>
    split at h
    · split at h
      · split at h
        · refine ⟨_, _, _, ?_, h⟩; simp [*]
        · exact h.elim
      · split at h
        · refine ⟨_, _, _, ?_, h⟩; simp [*]
        · exact h.elim
    · exact h.elim
  case alloc t => split at h <;> first | exact h.elim | (refine ⟨_, _, _, ?_, h⟩; simp [*])
  case box t x =>
    split at h
    · split at h <;> first | exact h.elim | (refine ⟨_, _, _, ?_, h⟩; simp [*])
    · exact h.elim
  case build t ps =>
    split at h
    · split at h <;> first | exact h.elim | (refine ⟨_, _, _, ?_, h⟩; simp [*])
    · exact h.elim
  case buildSlice t n ps =>
    split at h
    · split at h
      · split at h
        · split at h
          · split at h
            · split at h
              · rename_i hown
                obtain ⟨hcc, hK⟩ := allK_iff.1 h
                refine ⟨_, _, _, ?_, hK⟩; simp only [*]; refine allK_iff.2 ⟨hcc, ?_⟩; simp [*]
              · rename_i hown
                obtain ⟨hcc, hK⟩ := allK_iff.1 h
                refine ⟨_, _, _, ?_, hK⟩; simp only [*]; refine allK_iff.2 ⟨hcc, ?_⟩; simp [*]
            · exact h.elim
          · exact h.elim
        · split at h
          · split at h
            · refine ⟨_, _, _, ?_, h⟩; simp [*]
            · exact h.elim
          · exact h.elim
      · exact h.elim
    · exact h.elim
  case load t x =>
    split at h
    · split at h
      · split at h
        · refine ⟨_, _, _, ?_, h.2⟩; have := h.1; simp [*]
        · exact h.elim
      · exact h.elim
    · split at h
      · exact ⟨_, _, _, ⟨rfl, rfl, rfl⟩, h⟩
      · exact h.elim
    · exact h.elim
  case store t x y =>
    split at h
    · split at h
      · split at h <;> first | exact h.elim | (refine ⟨_, _, _, ?_, h⟩; simp [*])
      · exact h.elim
    · split at h
      · split at h
        · split at h
          · obtain ⟨hcc, hi, hK⟩ := allK_iff.1 h
            refine ⟨_, _, _, ?_, hK⟩; simp only [*]; refine allK_iff.2 ⟨hcc, ?_⟩; simp [*]
          · exact h.elim
        · exact h.elim
      · exact h.elim
    · exact h.elim
  case nilCheck x => split at h <;> first | exact h.elim | (refine ⟨_, _, _, ?_, h⟩; simp [*])
  case binOp op t x y yt =>
    split at h
    · obtain ⟨r, hr, hK⟩ := binA_mono h
      refine ⟨_, _, _, ?_, hK⟩; first | (simp [*]; done) | simpa [*] using hr
    · exact h.elim
  case unOp op t x =>
    split at h
    · obtain ⟨r, hr, hK⟩ := unA_mono h
      refine ⟨_, _, _, ?_, hK⟩; first | (simp [*]; done) | simpa [*] using hr
    · exact h.elim
  case convert s d x =>
    split at h
    · obtain ⟨r, hr, hK⟩ := convA_mono h
      refine ⟨_, _, _, ?_, hK⟩; first | (simp [*]; done) | simpa [*] using hr
    · exact h.elim
  case makeFunc f a c => split at h <;> first | exact h.elim | (refine ⟨_, _, _, ?_, h⟩; simp [*])
  case makeSlice t l c =>
    split at h
    · split at h
      · split at h
        · obtain ⟨h1, rfl, h3, h4, h5⟩ := h
          refine ⟨_, _, _, ?_, h5⟩; simp [*]
        · exact h.elim
      · exact h.elim
    · exact h.elim
  case slice t x lo hi mx =>
    split at h
    · split at h
      · obtain ⟨r, hr, hK⟩ := sliceA_mono h
        refine ⟨_, _, _, ?_, hK⟩; first | (simp [*]; done) | simpa [*] using hr
      · exact h.elim
    · split at h
      · split at h
        · refine ⟨_, _, _, ?_, h⟩; simp [*]
        · exact h.elim
      · exact h.elim
    · exact h.elim
  case fieldAddr t x i =>
    split at h
    · split at h
      · split at h
        · split at h <;> first | exact h.elim | (refine ⟨_, _, _, ?_, h⟩; simp [*])
        · exact h.elim
      · exact h.elim
    · exact h.elim
  case field t x i =>
    split at h
    · split at h
      · split at h <;> first | exact h.elim | (refine ⟨_, _, _, ?_, h⟩; simp [*])
      · exact h.elim
    · exact h.elim
  case indexAddr t x i =>
    split at h
    · split at h
      · split at h <;> first | exact h.elim | (obtain ⟨h1, h2, h3⟩ := h; refine ⟨_, _, _, ?_, h3⟩; simp [*])
      · exact h.elim
    · split at h
      · split at h
        · split at h <;> first | exact h.elim | (obtain ⟨h1, h2, h3⟩ := h; refine ⟨_, _, _, ?_, h3⟩; simp [*])
        · split at h
          · split at h <;> first | exact h.elim | (obtain ⟨h1, h2, h3⟩ := h; refine ⟨_, _, _, ?_, h3⟩; simp [*])
          · exact h.elim
        · exact h.elim
      · exact h.elim
    · exact h.elim
  case index t x i =>
    split at h
    · split at h
      · split at h <;> first | exact h.elim | (obtain ⟨h1, h2, h3⟩ := h; refine ⟨_, _, _, ?_, h3⟩; simp [*])
      · exact h.elim
    · obtain ⟨h1, h2, h3⟩ := h
      refine ⟨_, _, _, ?_, h3⟩; simp [*]
    · exact h.elim
  case extract x i =>
    split at h
    · split at h <;> first | exact h.elim | (refine ⟨_, _, _, ?_, h⟩; simp [*])
    · exact h.elim
  case call c =>
    split at h
    · split at h
      · split at h <;> first | exact h.elim | (refine ⟨_, _, _, ?_, h⟩; simp [*])
      · exact h.elim
    · split at h <;> first | exact h.elim | (refine ⟨_, _, _, ?_, h⟩; simp [*])
    · split at h <;> first | exact h.elim | (refine ⟨_, _, _, ?_, h⟩; simp [*])
    · split at h
      · split at h
        · split at h
          · split at h
            · split at h
              · split at h
                · split at h <;> first | exact h.elim | (refine ⟨_, _, _, ?_, h⟩; simp [*])
                · rename_i hne
                  obtain ⟨v, u, n, h1, h2⟩ := appendA_det h
                  exact ⟨v, u, n, h1, h2⟩
              · exact h.elim
            · exact h.elim
          · exact h.elim
        · exact h.elim
      · exact h.elim
    · split at h
      · split at h
        · split at h
          · split at h
            · split at h <;> (obtain ⟨hcc, hp, hK⟩ := allK_iff.1 h; refine ⟨_, _, _, ?_, hK⟩; simp only [*]; refine allK_iff.2 ⟨hcc, ?_⟩; simp [*])
            · exact h.elim
          · exact h.elim
        · exact h.elim
      · exact h.elim
    · exact h.elim
end
end Go.Ev
