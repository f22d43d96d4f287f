/- Own text: what an operation lays into the heap. -/
import Derived.Test.YtlofmgdjnaajjaaEv20
namespace Go.Ev
open Go Go.RowKit
set_option linter.unusedVariables false
set_option linter.unusedSimpArgs false

section
variable {P : Program} {H : Nat → Option Blk} {env : Env} {next : Nat} {o : Oper} {v : AV} {u : Heap} {n' : Nat} {cfg : Cfg} {fid : FuncId} {callE : CallE}

/-- It lays what it says that it writes, and at most one new block. -/
def Keys (env : Env) (o : Oper) (next : Nat) (u : Heap) (n' : Nat) : Prop := (n' = next ∨ n' = next + 1) ∧ ∀ b, look u b ≠ none → b ∈ (fpL env o).2 ∨ (b = next ∧ n' = next + 1)

theorem keys_nil (h : [] = u ∧ next = n') : Keys env o next u n' := by
  obtain ⟨rfl, rfl⟩ := h
  exact ⟨.inl rfl, fun b hb => absurd rfl hb⟩
theorem keys_new {k : Option Blk} (h : [(next, k)] = u ∧ next + 1 = n') : Keys env o next u n' := by
  obtain ⟨rfl, rfl⟩ := h
  refine ⟨.inr rfl, fun b hb => .inr ⟨?_, rfl⟩⟩
  by_cases e : next = b
  · exact e.symm
  · exact absurd (look_cons_ne _ _ e) hb
theorem keys_write {k : Option Blk} {b0 : Nat} (h : [(b0, k)] = u ∧ next = n') (hb0 : b0 ∈ (fpL env o).2) : Keys env o next u n' := by
  obtain ⟨rfl, rfl⟩ := h
  refine ⟨.inl rfl, fun b hb => .inl ?_⟩
  by_cases e : b0 = b
  · exact e ▸ hb0
  · exact absurd (look_cons_ne _ _ e) hb

theorem opL_keys (h : opL P cfg fid env H next o (fun v' u' m => v' = v ∧ u' = u ∧ m = n')) : Keys env o next u n' := by
  cases hop : o.op <;> simp only [opL, hop] at h <;> try exact h.elim
  case move x => split at h <;> first | exact h.elim | exact keys_nil h.2
  case assign x => split at h <;> first | exact h.elim | exact keys_nil h.2
  case pick c x y =>
    split at h
    · split at h
      · split at h <;> first | exact h.elim | exact keys_nil h.2
      · split at h <;> first | exact h.elim | exact keys_nil h.2
    · exact h.elim
  case alloc t => split at h <;> first | exact h.elim | exact keys_new h.2
  case box t x =>
    split at h
    · split at h <;> first | exact h.elim | exact keys_new h.2
    · exact h.elim
  case build t ps =>
    split at h
    · split at h <;> first | exact h.elim | exact keys_nil h.2
    · exact h.elim
  case buildSlice t n ps =>
    split at h
    · rename_i e l0 hu hl
      have hk : ∀ b, look (killA (avsP l0)) b ≠ none → b ∈ (fpL env o).2 := fun b hb => by
        unfold killA at hb
        rw [look_kill] at hb
        split at hb
        · rename_i hm; simp only [fpL, hop, hl]; exact hm
        · exact absurd rfl hb
      split at h
      · split at h
        · split at h
          · split at h
            · split at h
              · obtain ⟨_, _, rfl, rfl⟩ := allK_iff.1 h
                refine ⟨.inr rfl, fun b hb => ?_⟩
                by_cases e1 : next = b
                · exact .inr ⟨e1.symm, rfl⟩
                · rw [look_cons_ne _ _ e1] at hb
                  exact .inl (hk b hb)
              · obtain ⟨_, _, rfl, rfl⟩ := allK_iff.1 h
                exact ⟨.inl rfl, fun b hb => .inl (hk b hb)⟩
            · exact h.elim
          · exact h.elim
        · split at h
          · split at h
            · exact keys_new h.2
            · exact h.elim
          · exact h.elim
      · exact h.elim
    · exact h.elim
  case load t x =>
    split at h
    · split at h
      · split at h <;> first | exact h.elim | exact keys_nil h.2.2
      · exact h.elim
    · split at h <;> first | exact h.elim | exact keys_nil h.2
    · exact h.elim
  case store t x y =>
    split at h
    · rename_i b off a n hx hy hs
      split at h
      · split at h <;> first | exact h.elim | exact keys_write h.2 (by simp [fpL, hop, hx, refsA])
      · exact h.elim
    · rename_i sz b i j a n hx hy hs
      split at h
      · split at h
        · split at h
          · obtain ⟨_, _, _, rfl, rfl⟩ := allK_iff.1 h
            refine ⟨.inl rfl, fun c hc => .inl ?_⟩
            by_cases e1 : b = c
            · subst e1; simp [fpL, hop, hx, refsA]
            · rw [look_cons_ne _ _ e1] at hc
              unfold killA at hc
              rw [look_kill] at hc
              split at hc
              · rename_i hm; simp only [fpL, hop, hx, hy]; exact List.mem_append_right _ hm
              · exact absurd rfl hc
          · exact h.elim
        · exact h.elim
      · exact h.elim
    · exact h.elim
  case nilCheck x => split at h <;> first | exact h.elim | exact keys_nil h.2
  case binOp op t x y yt =>
    split at h
    · obtain ⟨r, hr, hK⟩ := binA_mono h
      exact keys_nil hK.2
    · exact h.elim
  case unOp op t x =>
    split at h
    · obtain ⟨r, hr, hK⟩ := unA_mono h
      exact keys_nil hK.2
    · exact h.elim
  case convert s d x =>
    split at h
    · obtain ⟨r, hr, hK⟩ := convA_mono h
      exact keys_nil hK.2
    · exact h.elim
  case makeFunc f a c => split at h <;> first | exact h.elim | exact keys_nil h.2
  case makeSlice t l c =>
    split at h
    · split at h
      · split at h <;> first | exact h.elim | exact keys_new h.2.2.2.2.2
      · exact h.elim
    · exact h.elim
  case slice t x lo hi mx =>
    split at h
    · split at h
      · obtain ⟨r, hr, hK⟩ := sliceA_mono h
        exact keys_nil hK.2
      · exact h.elim
    · split at h
      · split at h <;> first | exact h.elim | exact keys_nil h.2
      · exact h.elim
    · exact h.elim
  case fieldAddr t x i =>
    split at h
    · split at h
      · split at h
        · split at h <;> first | exact h.elim | exact keys_nil h.2
        · exact h.elim
      · exact h.elim
    · exact h.elim
  case field t x i =>
    split at h
    · split at h
      · split at h <;> first | exact h.elim | exact keys_nil h.2
      · exact h.elim
    · exact h.elim
  case indexAddr t x i =>
    split at h
    · split at h
      · split at h <;> first | exact h.elim | exact keys_nil h.2.2.2
      · exact h.elim
    · split at h
      · split at h
        · split at h <;> first | exact h.elim | exact keys_nil h.2.2.2
        · split at h
          · split at h <;> first | exact h.elim | exact keys_nil h.2.2.2
          · exact h.elim
        · exact h.elim
      · exact h.elim
    · exact h.elim
  case index t x i =>
    split at h
    · split at h
      · split at h <;> first | exact h.elim | exact keys_nil h.2.2.2
      · exact h.elim
    · exact keys_nil h.2.2.2
    · exact h.elim
  case extract x i =>
    split at h
    · split at h <;> first | exact h.elim | exact keys_nil h.2
    · exact h.elim
  case call c =>
    obtain ⟨callee, args, argTypes⟩ := c
    simp only at h
    split at h
    · split at h
      · split at h <;> first | exact h.elim | exact keys_nil h.2
      · exact h.elim
    · split at h <;> first | exact h.elim | exact keys_nil h.2
    · split at h <;> first | exact h.elim | exact keys_nil h.2
    · rename_i s x has
      split at h
      · split at h
        · split at h
          · split at h
            · split at h
              · split at h
                · split at h <;> first | exact h.elim | exact keys_nil h.2
                · have hfp : (fpL env o).2 = refsA (some s) := by simp only [fpL, hop, has]
                  unfold appendA at h
                  split at h
                  · split at h
                    · rename_i sz b of n
                      split at h
                      · split at h
                        · have h5 := (allK_iff.1 h).2.2.2.2.2
                          obtain ⟨rfl, rfl⟩ := h5
                          refine ⟨.inr rfl, fun c hc => ?_⟩
                          by_cases e1 : next = c
                          · exact .inr ⟨e1.symm, rfl⟩
                          · rw [look_cons_ne _ _ e1] at hc
                            by_cases e2 : b = c
                            · subst e2; exact .inl (by rw [hfp]; simp [refsA])
                            · exact absurd (look_cons_ne _ _ e2) hc
                        · exact h.elim
                      · exact h.elim
                    · split at h
                      · split at h
                        · exact keys_new (allK_iff.1 h).2.2.2.2.2
                        · exact keys_new (allK_iff.1 h).2.2.2.2.2.2
                      · exact h.elim
                    · split at h <;> first | exact h.elim | exact keys_new (allK_iff.1 h).2.2.2.2
                    · exact h.elim
                  · exact h.elim
              · exact h.elim
            · exact h.elim
          · exact h.elim
        · exact h.elim
      · exact h.elim
    · rename_i g l has
      split at h
      · rename_i f first caps hg
        split at h
        · split at h
          · split at h
            · split at h
              · exact keys_nil (allK_iff.1 h).2.2.2
              · obtain ⟨_, _, _, rfl, rfl⟩ := allK_iff.1 h
                refine ⟨.inl rfl, fun b hb => .inl ?_⟩
                unfold killA at hb
                rw [look_kill] at hb
                split at hb
                · rename_i hm
                  simpa only [fpL, hop, hg, has] using hm
                · exact absurd rfl hb
            · exact h.elim
          · exact h.elim
        · exact h.elim
      · exact h.elim
    · exact h.elim

theorem opD_keys (hd : DetC callE) (h : opD P callE cfg fid env H next o (fun v' u' m => v' = v ∧ u' = u ∧ m = n')) : Keys env o next u n' := by
  unfold opD at h
  split at h
  · rename_i f args hinl
    obtain ⟨hfp, _⟩ := inl_fp hinl
    split at h
    · obtain ⟨v0, h0, n0, h1, h2⟩ := hd _ _ _ _ _ (allK_iff.1 h).2
      split at h2
      · split at h2
        · exact keys_nil (allK_iff.1 h2).2.2
        · obtain ⟨_, _, rfl, rfl⟩ := allK_iff.1 h2
          refine ⟨.inl rfl, fun b hb => .inl ?_⟩
          unfold killA at hb
          rw [look_kill] at hb
          split at hb
          · rename_i hm; rw [hfp]; exact hm
          · exact absurd rfl hb
      · exact h2.elim
    · exact h.elim
  · exact opL_keys h
end
end Go.Ev
