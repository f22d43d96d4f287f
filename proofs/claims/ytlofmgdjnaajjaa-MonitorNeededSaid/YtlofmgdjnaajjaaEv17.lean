/- Own text: regions and code have one outcome. -/
import Derived.Test.YtlofmgdjnaajjaaEv16
namespace Go.Ev
open Go Go.RowKit
set_option linter.unusedVariables false
set_option linter.unusedSimpArgs false

def MonoC (c : CallE) : Prop := ∀ f args h n (K K' : OpK), (∀ v h n, K v h n → K' v h n) → c f args h n K → c f args h n K'
def DetC (c : CallE) : Prop := ∀ f args h n (K : OpK), c f args h n K → ∃ v h' n', c f args h n (fun v1 h1 n1 => v1 = v ∧ h1 = h' ∧ n1 = n') ∧ K v h' n'

section
variable {P : Program} {callE : CallE} {cfg : Cfg} {fid : FuncId} {o : Oper} {s : St}

theorem opE_mono (hm : MonoC callE) {K K' : St → Prop} (hk : ∀ s, K s → K' s) (h : opE P callE cfg fid o s K) : opE P callE cfg fid o s K' := by
  unfold opE at h ⊢
  split at h
  · exact hm _ _ _ _ _ _ (fun v h n hh => hk _ hh) h
  · exact opL_mono (fun v u n hh => hk _ hh) h
theorem opE_det (hm : MonoC callE) (hd : DetC callE) {K : St → Prop} (h : opE P callE cfg fid o s K) : ∃ s', opE P callE cfg fid o s (fun x => x = s') ∧ K s' := by
  unfold opE at h ⊢
  split at h
  · obtain ⟨v, h', n', h1, h2⟩ := hd _ _ _ _ _ h
    exact ⟨_, hm _ _ _ _ _ _ (fun v1 h1 n1 hh => by obtain ⟨rfl, rfl, rfl⟩ := hh; rfl) h1, h2⟩
  · obtain ⟨v, u, n, h1, h2⟩ := opL_det h
    exact ⟨_, opL_mono (fun v1 h1 n1 hh => by obtain ⟨rfl, rfl, rfl⟩ := hh; rfl) h1, h2⟩

theorem regE_mono (hm : MonoC callE) {ops : Array Oper} {Q Q' : St → Prop} (hq : ∀ s, Q s → Q' s) : ∀ {l : List Oper} {s : St}, regE P callE cfg fid ops l s Q → regE P callE cfg fid ops l s Q'
  | [], s, h => hq _ h
  | o :: rest, s, h => by
    simp only [regE] at h ⊢
    split at h
    · exact opE_mono hm (fun s' hs' => regE_mono hm hq hs') h
    · split at h
      · split at h
        · split at h
          · exact opE_mono hm (fun s' hs' => regE_mono hm hq hs') h
          · exact regE_mono hm hq h
          · exact opE_mono hm (fun s' hs' => regE_mono hm hq hs') h
          · exact regE_mono hm hq h
        · exact regE_mono hm hq h
        · exact h.elim
      · exact h.elim
theorem regE_det (hm : MonoC callE) (hd : DetC callE) {ops : Array Oper} {Q : St → Prop} : ∀ {l : List Oper} {s : St}, regE P callE cfg fid ops l s Q → ∃ s', regE P callE cfg fid ops l s (fun x => x = s') ∧ Q s'
  | [], s, h => ⟨s, rfl, h⟩
  | o :: rest, s, h => by
    have step : ∀ {s : St}, opE P callE cfg fid o s (fun s' => regE P callE cfg fid ops rest s' Q) → ∃ s', opE P callE cfg fid o s (fun s1 => regE P callE cfg fid ops rest s1 fun x => x = s') ∧ Q s' := fun h => by
      obtain ⟨s1, h1, h2⟩ := opE_det hm hd h
      obtain ⟨s2, h3, h4⟩ := regE_det hm hd h2
      exact ⟨s2, opE_mono hm (fun s' hs' => by subst hs'; exact h3) h1, h4⟩
    simp only [regE] at h ⊢
    split at h
    · exact step h
    · split at h
      · split at h
        · split at h
          · exact step h
          · exact regE_det hm hd h
          · exact step h
          · exact regE_det hm hd h
        · exact regE_det hm hd h
        · exact h.elim
      · exact h.elim

theorem opD_mono (hm : MonoC callE) {env : Env} {H : Nat → Option Blk} {next : Nat} {K K' : OpK} (hk : ∀ v u n, K v u n → K' v u n) (h : opD P callE cfg fid env H next o K) : opD P callE cfg fid env H next o K' := by
  unfold opD at h ⊢
  split at h
  · split at h
    · refine allK_imp (fun h => hm _ _ _ _ _ _ (fun v h n hh => ?_) h) h
      split at hh
      · split at hh
        · exact allK_imp (hk _ _ _) hh
        · exact allK_imp (hk _ _ _) hh
      · exact hh.elim
    · exact h.elim
  · exact opL_mono hk h
theorem opD_det (hm : MonoC callE) (hd : DetC callE) {env : Env} {H : Nat → Option Blk} {next : Nat} {K : OpK} (h : opD P callE cfg fid env H next o K) : ∃ v u n, opD P callE cfg fid env H next o (fun v' u' m => v' = v ∧ u' = u ∧ m = n) ∧ K v u n := by
  unfold opD at h ⊢
  split at h
  · split at h
    · obtain ⟨hcc, h⟩ := allK_iff.1 h
      obtain ⟨v, h', n', h1, h2⟩ := hd _ _ _ _ _ h
      split at h2
      · rename_i dd v' hp
        split at h2
        · rename_i hf
          obtain ⟨hdd, h2⟩ := allK_iff.1 h2
          refine ⟨_, _, _, allK_iff.2 ⟨hcc, hm _ _ _ _ _ _ (fun v1 h1 n1 hh => ?_) h1⟩, h2⟩
          obtain ⟨rfl, rfl, rfl⟩ := hh
          simp only [hp, hf]
          exact allK_iff.2 ⟨hdd, by simp⟩
        · rename_i hf
          obtain ⟨hdd, h2⟩ := allK_iff.1 h2
          refine ⟨_, _, _, allK_iff.2 ⟨hcc, hm _ _ _ _ _ _ (fun v1 h1 n1 hh => ?_) h1⟩, h2⟩
          obtain ⟨rfl, rfl, rfl⟩ := hh
          simp only [hp, hf]
          exact allK_iff.2 ⟨hdd, by simp⟩
      · exact h2.elim
    · exact h.elim
  · exact opL_det h

theorem stepD_mono (hm : MonoC callE) {bs : List Nat} {i : Nat} {done : Fps} {K K' : Fps → St → Prop} (hk : ∀ d s, K d s → K' d s) (h : stepD P callE cfg fid bs o i done s K) : stepD P callE cfg fid bs o i done s K' := by
  unfold stepD at h ⊢
  refine opD_mono hm (fun v u n hh => ?_) h
  split at hh
  · exact hk _ _ hh
  · exact hh.elim
theorem stepD_det (hm : MonoC callE) (hd : DetC callE) {bs : List Nat} {i : Nat} {done : Fps} {K : Fps → St → Prop} (h : stepD P callE cfg fid bs o i done s K) : ∃ d s', stepD P callE cfg fid bs o i done s (fun d' x => d' = d ∧ x = s') ∧ K d s' := by
  unfold stepD at h ⊢
  obtain ⟨v, u, n, h1, h2⟩ := opD_det hm hd h
  split at h2
  · rename_i hf
    refine ⟨_, _, opD_mono hm (fun v1 u1 n1 hh => ?_) h1, h2⟩
    obtain ⟨rfl, rfl, rfl⟩ := hh
    rw [hf]
    exact ⟨rfl, rfl⟩
  · exact h2.elim

theorem regD_mono (hm : MonoC callE) {ops : Array Oper} {bs : List Nat} {Q Q' : St → Prop} (hq : ∀ s, Q s → Q' s) : ∀ {l : List Oper} {i : Nat} {done : Fps} {s : St}, regD P callE cfg fid ops bs l i done s Q → regD P callE cfg fid ops bs l i done s Q'
  | [], i, done, s, h => hq _ h
  | o :: rest, i, done, s, h => by
    simp only [regD] at h ⊢
    split at h
    · exact stepD_mono hm (fun d s' hs' => regD_mono hm hq hs') h
    · split at h
      · split at h
        · split at h
          · exact stepD_mono hm (fun d s' hs' => regD_mono hm hq hs') h
          · exact regD_mono hm hq h
          · exact stepD_mono hm (fun d s' hs' => regD_mono hm hq hs') h
          · exact regD_mono hm hq h
        · exact regD_mono hm hq h
        · exact h.elim
      · exact h.elim
theorem regD_det (hm : MonoC callE) (hd : DetC callE) {ops : Array Oper} {bs : List Nat} {Q : St → Prop} : ∀ {l : List Oper} {i : Nat} {done : Fps} {s : St}, regD P callE cfg fid ops bs l i done s Q → ∃ s', regD P callE cfg fid ops bs l i done s (fun x => x = s') ∧ Q s'
  | [], i, done, s, h => ⟨s, rfl, h⟩
  | o :: rest, i, done, s, h => by
    have step : ∀ {s : St}, stepD P callE cfg fid bs o i done s (fun d s' => regD P callE cfg fid ops bs rest (i + 1) d s' Q) → ∃ s', stepD P callE cfg fid bs o i done s (fun d s1 => regD P callE cfg fid ops bs rest (i + 1) d s1 fun x => x = s') ∧ Q s' := fun h => by
      obtain ⟨d, s1, h1, h2⟩ := stepD_det hm hd h
      obtain ⟨s2, h3, h4⟩ := regD_det hm hd h2
      exact ⟨s2, stepD_mono hm (fun d' s' hs' => by obtain ⟨rfl, rfl⟩ := hs'; exact h3) h1, h4⟩
    simp only [regD] at h ⊢
    split at h
    · exact step h
    · split at h
      · split at h
        · split at h
          · exact step h
          · exact regD_det hm hd h
          · exact step h
          · exact regD_det hm hd h
        · exact regD_det hm hd h
        · exact h.elim
      · exact h.elim

theorem loopU_mono {f : St → (Exit → St → Prop) → Prop} (hf : ∀ s Q Q', (∀ e s, Q e s → Q' e s) → f s Q → f s Q') {Q Q' : Exit → St → Prop} (hq : ∀ e s, Q e s → Q' e s) : ∀ {k : Nat} {s : St}, loopU f k s Q → loopU f k s Q'
  | 0, s, h => h
  | k + 1, s, h => by
    simp only [loopU] at h ⊢
    refine hf _ _ _ (fun e s' hh => ?_) h
    cases e <;> simp only at hh ⊢ <;> first
      | exact hq _ _ hh
      | exact loopU_mono hf hq hh
theorem loopU_det {f : St → (Exit → St → Prop) → Prop} (hf : ∀ s Q Q', (∀ e s, Q e s → Q' e s) → f s Q → f s Q') (hd : ∀ s Q, f s Q → ∃ e s', f s (fun e1 s1 => e1 = e ∧ s1 = s') ∧ Q e s') {Q : Exit → St → Prop} : ∀ {k : Nat} {s : St}, loopU f k s Q → ∃ e s', loopU f k s (fun e1 s1 => e1 = e ∧ s1 = s') ∧ Q e s'
  | 0, s, h => h.elim
  | k + 1, s, h => by
    simp only [loopU] at h ⊢
    obtain ⟨e1, s1, h1, h2⟩ := hd _ _ h
    cases e1 <;> simp only at h2 <;> first
      | exact ⟨_, _, hf _ _ _ (fun e s' hh => by obtain ⟨rfl, rfl⟩ := hh; exact ⟨rfl, rfl⟩) h1, h2⟩
      | (obtain ⟨e2, s2, h3, h4⟩ := loopU_det hf hd h2
         exact ⟨e2, s2, hf _ _ _ (fun e s' hh => by obtain ⟨rfl, rfl⟩ := hh; exact h3) h1, h4⟩)

variable {fuel m : Nat}
theorem codeE_mono (hm : MonoC callE) : ∀ {c : Code} {s : St} {Q Q' : Exit → St → Prop}, (∀ e s, Q e s → Q' e s) → codeE P callE cfg fid fuel m c s Q → codeE P callE cfg fid fuel m c s Q'
  | .skip, s, Q, Q', hq, h => hq _ _ h
  | .label _, s, Q, Q', hq, h => hq _ _ h
  | .exit _, s, Q, Q', hq, h => hq _ _ h
  | .ret, s, Q, Q', hq, h => hq _ _ h
  | .region _ ops d, s, Q, Q', hq, h => by
    simp only [codeE] at h ⊢
    split at h
    · exact regE_mono hm (fun s => hq _ s) h
    · split at h
      · exact regD_mono hm (fun s => hq _ s) h
      · exact h.elim
  | .seq a b, s, Q, Q', hq, h => by
    simp only [codeE] at h ⊢
    refine codeE_mono hm (fun e s' hh => ?_) h
    split at hh
    · exact codeE_mono hm hq hh
    · exact hq _ _ hh
  | .cond c a b, s, Q, Q', hq, h => by
    simp only [codeE] at h ⊢
    split at h
    · split at h
      · exact codeE_mono hm hq h
      · exact codeE_mono hm hq h
    · exact h.elim
  | .block id b, s, Q, Q', hq, h => by
    simp only [codeE] at h ⊢
    refine codeE_mono hm (fun e s' hh => ?_) h
    cases e <;> simp only at hh ⊢ <;> first
      | exact hq _ _ hh
      | (split at hh
         · rename_i he; exact hq _ _ hh
         · rename_i he; exact hq _ _ hh)
  | .loop b, s, Q, Q', hq, h => by
    simp only [codeE] at h ⊢
    split at h
    · split at h
      · refine ⟨h.1, ?_⟩
        have h2 := h.2
        split at h2 <;> exact hq _ _ h2
      · exact h.elim
    · exact loopU_mono (f := fun s Q => codeE P callE cfg fid fuel m b s Q) (fun s Q Q' hq h => codeE_mono hm hq h) hq h
  | .rangeFunc .., s, Q, Q', hq, h => h
  | .scope _, s, Q, Q', hq, h => h
  | .goto _, s, Q, Q', hq, h => h
  | .refuse _, s, Q, Q', hq, h => h

theorem codeE_det (hm : MonoC callE) (hd : DetC callE) : ∀ {c : Code} {s : St} {Q : Exit → St → Prop}, codeE P callE cfg fid fuel m c s Q → ∃ e s', codeE P callE cfg fid fuel m c s (fun e1 s1 => e1 = e ∧ s1 = s') ∧ Q e s'
  | .skip, s, Q, h => ⟨_, _, ⟨rfl, rfl⟩, h⟩
  | .label _, s, Q, h => ⟨_, _, ⟨rfl, rfl⟩, h⟩
  | .exit _, s, Q, h => ⟨_, _, ⟨rfl, rfl⟩, h⟩
  | .ret, s, Q, h => ⟨_, _, ⟨rfl, rfl⟩, h⟩
  | .region _ ops d, s, Q, h => by
    simp only [codeE] at h ⊢
    split at h
    · obtain ⟨s', h1, h2⟩ := regE_det hm hd h
      exact ⟨_, s', regE_mono hm (fun s hs => ⟨rfl, hs⟩) h1, h2⟩
    · split at h
      · obtain ⟨s', h1, h2⟩ := regD_det hm hd h
        exact ⟨_, s', regD_mono hm (fun s hs => ⟨rfl, hs⟩) h1, h2⟩
      · exact h.elim
  | .seq a b, s, Q, h => by
    simp only [codeE] at h ⊢
    obtain ⟨e1, s1, h1, h2⟩ := codeE_det hm hd h
    split at h2
    · obtain ⟨e2, s2, h3, h4⟩ := codeE_det hm hd h2
      exact ⟨e2, s2, codeE_mono hm (fun e s' hh => by obtain ⟨rfl, rfl⟩ := hh; exact h3) h1, h4⟩
    · rename_i hne
      refine ⟨e1, s1, codeE_mono hm (fun e s' hh => ?_) h1, h2⟩
      obtain ⟨rfl, rfl⟩ := hh
      split
      · exact absurd rfl hne
      · exact ⟨rfl, rfl⟩
  | .cond c a b, s, Q, h => by
    simp only [codeE] at h ⊢
    split at h
    · split at h
      · exact codeE_det hm hd h
      · exact codeE_det hm hd h
    · exact h.elim
  | .block id b, s, Q, h => by
    simp only [codeE] at h ⊢
    obtain ⟨e1, s1, h1, h2⟩ := codeE_det hm hd h
    cases e1 <;> simp only at h2 <;> first
      | exact ⟨_, _, codeE_mono hm (fun e s' hh => by obtain ⟨rfl, rfl⟩ := hh; exact ⟨rfl, rfl⟩) h1, h2⟩
      | (split at h2
         · rename_i he
           exact ⟨_, _, codeE_mono hm (fun e s' hh => by obtain ⟨rfl, rfl⟩ := hh; simp [he]) h1, h2⟩
         · rename_i he
           exact ⟨_, _, codeE_mono hm (fun e s' hh => by obtain ⟨rfl, rfl⟩ := hh; simp [he]) h1, h2⟩)
  | .loop b, s, Q, h => by
    simp only [codeE] at h ⊢
    split at h
    · split at h
      · obtain ⟨h1, h2⟩ := h
        split at h2 <;> exact ⟨_, _, ⟨h1, rfl, rfl⟩, h2⟩
      · exact h.elim
    · exact loopU_det (f := fun s Q => codeE P callE cfg fid fuel m b s Q) (fun s Q Q' hq h => codeE_mono hm hq h) (fun s Q h => codeE_det hm hd h) h
  | .rangeFunc .., s, Q, h => h.elim
  | .scope _, s, Q, h => h.elim
  | .goto _, s, Q, h => h.elim
  | .refuse _, s, Q, h => h.elim

theorem bodyE_mono (hm : MonoC callE) {fn : Func} {args : List AV} {h : Heap} {n : Nat} {K K' : OpK} (hk : ∀ v h n, K v h n → K' v h n) (hh : bodyE P callE cfg fuel fid fn args h n K) : bodyE P callE cfg fuel fid fn args h n K' := by
  unfold bodyE at hh ⊢
  split at hh
  · split at hh
    · refine codeE_mono hm (fun e s hs => ?_) hh
      split at hs
      · split at hs
        · exact hk _ _ _ hs
        · exact hs.elim
      · split at hs
        · exact hk _ _ _ hs
        · exact hs.elim
      · exact hs.elim
    · exact hh.elim
  · exact hh.elim
theorem bodyE_det (hm : MonoC callE) (hd : DetC callE) {fn : Func} {args : List AV} {h : Heap} {n : Nat} {K : OpK} (hh : bodyE P callE cfg fuel fid fn args h n K) : ∃ v h' n', bodyE P callE cfg fuel fid fn args h n (fun v1 h1 n1 => v1 = v ∧ h1 = h' ∧ n1 = n') ∧ K v h' n' := by
  unfold bodyE at hh ⊢
  split at hh
  · split at hh
    · obtain ⟨e, s, h1, h2⟩ := codeE_det hm hd hh
      cases e <;> simp only at h2 <;> first
        | exact h2.elim
        | (split at h2
           · rename_i hr
             exact ⟨_, _, _, codeE_mono hm (fun e s' hh => by obtain ⟨rfl, rfl⟩ := hh; simp [hr]) h1, h2⟩
           · exact h2.elim)
    · exact hh.elim
  · exact hh.elim

theorem callN_mono : ∀ d, MonoC (callN P cfg fuel d)
  | 0 => fun f args h n K K' hk hh => hh.elim
  | d + 1 => fun f args h n K K' hk hh => by
    simp only [callN] at hh ⊢
    split at hh
    · exact bodyE_mono (callN_mono d) hk hh
    · exact hh.elim
theorem callN_det : ∀ d, DetC (callN P cfg fuel d)
  | 0 => fun f args h n K hh => hh.elim
  | d + 1 => fun f args h n K hh => by
    simp only [callN] at hh ⊢
    split at hh
    · exact bodyE_det (callN_mono d) (callN_det d) hh
    · exact hh.elim
end
end Go.Ev
