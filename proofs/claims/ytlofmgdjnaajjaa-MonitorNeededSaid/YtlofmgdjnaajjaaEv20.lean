/- Own text: operations of drawn regions. -/
import Derived.Test.YtlofmgdjnaajjaaEv19
namespace Go.Ev
open Go Go.RowKit
set_option linter.unusedVariables false
set_option linter.unusedSimpArgs false

section
variable {P : Program} {O0 : Nat → Prop} {H : Nat → Option Blk} {w : World}

theorem pub_rel {η : Eta} (hH : HRel O0 η H w) {a a' : AV} {cc : List Prop} {x : Value} (h : VRel w (Own O0 η H) η a x) (hp : pubA H a = some (cc, a')) (hcc : ∀ p ∈ cc, p) : VRel w O0 noEta a' x :=
  pub_relG hH rfl (fun c hc => .inl hc) h rfl hp hcc fun b hb c N hc ho => by
    obtain ⟨k, hk⟩ := pub_live hp b hb
    exact (hH.real hk hc).1 ho

theorem live_nil : Heap.live [] = fun _ => none := rfl

/-- A call that needs no memory of ours, as a contract. -/
theorem pure_of_call {callE : CallE} (hs : SoundC P callE) {f : FuncId} {args : List AV} {v' : AV} (h : callE f args [] 0 fun v h _ => ∃ cc, pubA (Heap.live h) v = some (cc, v') ∧ ∀ p ∈ cc, p) : Entry P f ∧ APure P f args v' := by
  obtain ⟨he, hc⟩ := hs _ _ _ _ _ h
  refine ⟨he, fun w O xs hO hargs => ?_⟩
  have hOwn : Own O noEta (Heap.live []) = O := funext fun c => propext ⟨fun h => h.elim id (fun ⟨b, k, N, h1, h2⟩ => (by cases h2)), fun h => Or.inl h⟩
  have hH : HRel O noEta (Heap.live []) w := ⟨fun b k hb => (by cases hb), fun b b' k k' c N N' h1 => (by cases h1), fun b c N hb => (by cases hb), hO⟩
  refine (hc O noEta w xs hH (fun _ _ => rfl) (by rw [hOwn]; exact hargs)).mono fun e w' ⟨x, v, h', n', η', hx, ⟨cc, hp, hcc⟩, k1, k2, k3, k4, k5, k6, k7, k8⟩ => ⟨x, hx, pub_rel k2 k1 hp hcc, ?_⟩
  refine ⟨k7.os, k7.tape, k7.output, k7.size, fun c hcl => ?_⟩
  by_cases ho : O c
  · exact k8 c ho
  · exact k6.block c hcl (by rw [hOwn]; exact ho)
end

section
variable {P : Program} {O0 : Nat → Prop} {η : Eta} {H Ĥ : Nat → Option Blk} {w : World} {ρ : Operand → Value} {env : Env} {next : Nat} {o : Oper} {v : AV} {u : Heap} {n' : Nat} {cfg : Cfg} {fid : FuncId} {callE : CallE}

theorem inl_fp {f : FuncId} {args : List AV} (h : inlOf cfg env o = some (f, args)) : fpL env o = ([], slsOf args) ∧ ∃ (g : Operand) (as : Array Operand) (ts : Array TypeId) (first caps l : List AV), o.op = .call { callee := .value g, args := as, argTypes := ts } ∧ opA env g = some (.fn (.func f) first caps) ∧ opAs env as.toList = some l ∧ args = first ++ l ++ caps := by
  unfold inlOf at h
  split at h
  · rename_i g as ts hoo
    split at h
    · rename_i f' first caps l hg hl
      split at h
      · cases h
      · split at h
        · simp only [Option.some.injEq, Prod.mk.injEq] at h
          obtain ⟨rfl, rfl⟩ := h
          exact ⟨by simp only [fpL, hoo, hg, hl], g, as, ts, first, caps, l, hoo, hg, hl, rfl⟩
        · cases h
    · cases h
  · cases h

theorem opD_sound (hc : CfgOk P cfg) (hs : SoundC P callE) (hm : MonoC callE) (hd : DetC callE) (h : opD P callE cfg fid env H next o (fun v' u' m => v' = v ∧ u' = u ∧ m = n')) (hO : Opd w (Own O0 η Ĥ) η env ρ o.op.operands.toList) (hH : HRel O0 η Ĥ w)
    (hf : ∀ b, b ∈ (fpL env o).1 ∨ b ∈ (fpL env o).2 → Ĥ b = H b) (hn : next < n' → η next = none) : Goes P o ρ w (Res O0 η Ĥ next w v u n') ∧ next ≤ n' := by
  unfold opD at h
  split at h
  · rename_i f args hinl
    obtain ⟨hfp, g, as, ts, first, caps, l, hoo, hg, hl, rfl⟩ := inl_fp hinl
    split at h
    · rename_i cc as' hview
      obtain ⟨hcc, h⟩ := allK_iff.1 h
      have hview' : pubsA Ĥ (first ++ l ++ caps) = some (cc, as') := by
        rw [← pubs_congr (H := H) (fun b hb => hf b (.inr (by rw [hfp]; exact hb)))]
        exact hview
      obtain ⟨v0, h0, n0, h1, h2⟩ := hd _ _ _ _ _ h
      split at h2
      · rename_i dd v1 hv1
        have hpure : (∀ p ∈ dd, p) → Entry P f ∧ APure P f as' v1 := fun hdd => pure_of_call (v' := v1) hs (hm _ _ _ _ _ _ (fun v0 h0 n0 hh => by
          obtain ⟨rfl, rfl, rfl⟩ := hh
          exact ⟨dd, hv1, hdd⟩) h1)
        have fin : (∀ p ∈ dd, p) → v = v1 → u = (if v.flat = true then [] else killA (first ++ l ++ caps)) → n' = next → Goes P o ρ w (Res O0 η Ĥ next w v u n') ∧ next ≤ n' := fun hdd e1 e2 e3 => by
          obtain ⟨he, hp⟩ := hpure hdd
          subst e1; subst e3
          refine ⟨sound_call he hoo ?_ ?_ hview' hcc hp e2 hH, Nat.le_refl _⟩
          · exact hO g (by simp [hoo, Op.operands, Call.operands]) _ hg
          · exact opAs_rel (fun y hy b hb => hO y (by simp [hoo, Op.operands, Call.operands]; exact .inr (by simpa using hy)) b hb) hl
        split at h2
        · rename_i hfl
          obtain ⟨hdd, rfl, rfl, rfl⟩ := allK_iff.1 h2
          exact fin hdd rfl (by simp [hfl]) rfl
        · rename_i hfl
          obtain ⟨hdd, rfl, rfl, rfl⟩ := allK_iff.1 h2
          exact fin hdd rfl (by simp [hfl]) rfl
      · exact h2.elim
    · exact h.elim
  · exact opL_sound hc h hO hH hf hn
end
end Go.Ev
