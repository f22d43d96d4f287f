/- Own text: every operation does what the evaluator says. -/
import Derived.Test.YtlofmgdjnaajjaaEv13
namespace Go.Ev
open Go Go.RowKit
set_option linter.unusedVariables false
set_option linter.unusedSimpArgs false
section
variable {P : Program} {O0 : Nat → Prop} {η : Eta} {H Ĥ : Nat → Option Blk} {w : World} {ρ : Operand → Value} {env : Env} {next : Nat} {o : Oper} {v : AV} {u : Heap} {n' : Nat} {cfg : Cfg} {fid : FuncId}

theorem binI_mono {op : BinOp} {k : IntKind} {a b : Int} {K : Value → Prop} (h : binI op k a b K) : ∃ x, binI op k a b (fun y => y = x) ∧ K x := by
  cases op <;> simp only [binI] at h ⊢ <;> first
    | exact ⟨_, rfl, h⟩
    | exact ⟨_, ⟨h.1, rfl⟩, h.2⟩
    | exact h.elim
theorem shl_mono {op : BinOp} {k : IntKind} {a b : Int} {K : Value → Prop} (h : shl op k a b K) : ∃ x, shl op k a b (fun y => y = x) ∧ K x := by
  cases op <;> simp only [shl] at h ⊢ <;> first
    | exact ⟨_, ⟨h.1, rfl⟩, h.2⟩
    | exact h.elim
theorem binA_mono {op : BinOp} {t : TypeId} {a b : AV} {K : Value → Prop} (h : binA P op t a b K) : ∃ x, binA P op t a b (fun y => y = x) ∧ K x := by
  unfold binA at h ⊢
  split at h
  · split at h
    · exact shl_mono h
    · exact shl_mono h
    · split at h
      · rename_i h1 h2 hk
        obtain ⟨x, hx, hK⟩ := binI_mono h
        exact ⟨x, hx, hK⟩
      · exact h.elim
  · split at h
    · exact ⟨_, rfl, h⟩
    · exact ⟨_, rfl, h⟩
    · exact h.elim
  · split at h
    · exact ⟨_, rfl, h⟩
    · exact ⟨_, rfl, h⟩
    · exact h.elim
  · split at h
    · exact ⟨_, rfl, h⟩
    · exact ⟨_, rfl, h⟩
    · exact h.elim
  · exact h.elim
theorem unA_mono {op : UnOp} {a : AV} {K : Value → Prop} (h : unA op a K) : ∃ x, unA op a (fun y => y = x) ∧ K x := by
  unfold unA at h ⊢
  split at h <;> first
    | exact ⟨_, rfl, h⟩
    | exact h.elim
theorem convA_mono {s d : TypeId} {a : AV} {K : Value → Prop} (h : convA P s d a K) : ∃ x, convA P s d a (fun y => y = x) ∧ K x := by
  unfold convA at h ⊢
  split at h <;> first
    | exact ⟨_, rfl, h⟩
    | exact h.elim
theorem sliceA_mono {sz : Nat} {x : AV} {lo hi mx : Option AV} {K : AV → Prop} (h : sliceA sz x lo hi mx K) : ∃ r, sliceA sz x lo hi mx (fun y => y = r) ∧ K r := by
  unfold sliceA at h ⊢
  split at h
  · split at h <;> first
      | exact ⟨_, rfl, h⟩
      | exact ⟨_, ⟨h.1, h.2.1, rfl⟩, h.2.2⟩
      | exact ⟨_, ⟨h.1, h.2.1, h.2.2.1, rfl⟩, h.2.2.2⟩
      | exact h.elim
  · split at h <;> first
      | exact ⟨_, rfl, h⟩
      | exact ⟨_, ⟨h.1, h.2.1, rfl⟩, h.2.2⟩
      | exact ⟨_, ⟨h.1, h.2.1, h.2.2.1, rfl⟩, h.2.2.2⟩
      | exact h.elim
  · exact h.elim

theorem append_congr {sz bytes : Nat} {s x : AV} {K : OpK} (h1 : ∀ b, b ∈ slOf x → Ĥ b = H b) (h2 : ∀ b, b ∈ slOf s → Ĥ b = H b) (h : appendA sz s x H next bytes K) : appendA sz s x Ĥ next bytes K := by
  unfold appendA at h ⊢
  rw [← view_congr h1]
  split at h
  · rename_i cc z m k g hv
    try simp only [hv]
    split at h
    · rename_i sz' b of n
      rw [h2 b (by simp [slOf])]
      exact h
    · exact h
    · exact h
    · exact h.elim
  · exact h.elim

theorem refs_sls (a : AV) (b : Nat) (h : b ∈ slOf a) : b ∈ refsA (some a) := by
  cases a <;> simp [slOf] at h
  subst h
  simp [refsA]

theorem opAs_one {l : List Operand} {a : AV} (h : opAs env l = some [a]) : ∃ x, l = [x] ∧ opA env x = some a := by
  cases l with
  | nil => simp [opAs] at h
  | cons x r =>
    simp only [opAs] at h
    split at h
    · rename_i b bs hb hbs
      simp only [Option.some.injEq, List.cons.injEq] at h
      obtain ⟨rfl, rfl⟩ := h
      cases r with
      | nil => exact ⟨x, rfl, hb⟩
      | cons y r =>
        simp only [opAs] at hbs
        split at hbs <;> cases hbs
    · cases h
theorem opAs_two {l : List Operand} {a b : AV} (h : opAs env l = some [a, b]) : ∃ x y, l = [x, y] ∧ opA env x = some a ∧ opA env y = some b := by
  cases l with
  | nil => simp [opAs] at h
  | cons x r =>
    simp only [opAs] at h
    split at h
    · rename_i c bs hb hbs
      simp only [Option.some.injEq, List.cons.injEq] at h
      obtain ⟨rfl, rfl⟩ := h
      obtain ⟨y, rfl, hy⟩ := opAs_one hbs
      exact ⟨x, y, rfl, hb, hy⟩
    · cases h

theorem opL_sound (hc : CfgOk P cfg) (h : opL P cfg fid env H next o (fun v' u' m => v' = v ∧ u' = u ∧ m = n')) (hO : Opd w (Own O0 η Ĥ) η env ρ o.op.operands.toList) (hH : HRel O0 η Ĥ w)
    (hf : ∀ b, b ∈ (fpL env o).1 ∨ b ∈ (fpL env o).2 → Ĥ b = H b) (hn : next < n' → η next = none) : Goes P o ρ w (Res O0 η Ĥ next w v u n') ∧ next ≤ n' := by
  cases hop : o.op <;> simp only [opL, hop] at h <;> (try simp only [hop, Op.operands] at hO) <;> try exact h.elim
  case move x =>
    split at h
    · rename_i a ha
      obtain ⟨rfl, rfl, rfl⟩ := h
      exact ⟨sound_move (.inl hop) (hO x (by simp) _ ha) hH, Nat.le_refl _⟩
    · exact h.elim
  case assign x =>
    split at h
    · rename_i a ha
      obtain ⟨rfl, rfl, rfl⟩ := h
      exact ⟨sound_move (.inr hop) (hO x (by simp) _ ha) hH, Nat.le_refl _⟩
    · exact h.elim
  case pick c x y =>
    split at h
    · rename_i t ht
      split at h
      · split at h
        · rename_i a ha
          obtain ⟨rfl, rfl, rfl⟩ := h
          exact ⟨sound_pick (t := true) hop (hO c (by simp) _ ht) (by simpa using hO x (by simp) _ ha) hH, Nat.le_refl _⟩
        · exact h.elim
      · split at h
        · rename_i a ha
          obtain ⟨rfl, rfl, rfl⟩ := h
          exact ⟨sound_pick (t := false) hop (hO c (by simp) _ ht) (by simpa using hO y (by simp) _ ha) hH, Nat.le_refl _⟩
        · exact h.elim
    · exact h.elim
  case alloc t =>
    split at h
    · rename_i z hz
      obtain ⟨rfl, rfl, rfl⟩ := h
      exact ⟨sound_alloc hop hz hH (hn (by omega)), by omega⟩
    · exact h.elim
  case box t x =>
    split at h
    · rename_i a ha
      split at h
      · rename_i hone
        obtain ⟨rfl, rfl, rfl⟩ := h
        exact ⟨sound_box hop (hO x (by simp) _ ha) hone hH (hn (by omega)), by omega⟩
      · exact h.elim
    · exact h.elim
  case build t ps =>
    split at h
    · rename_i z l pl hz hl hpl
      split at h
      · rename_i cs hcs
        obtain ⟨rfl, rfl, rfl⟩ := h
        refine ⟨sound_build hop hz (partsA_prel (fun p hp a ha => hO p.2 (by simp; exact ⟨p.1, by simpa using hp⟩) a ha) hl) hpl hcs hH, Nat.le_refl _⟩
      · exact h.elim
    · exact h.elim
  case buildSlice t n ps =>
    split at h
    · rename_i e l0 hu hl
      have hprel := partsA_prel (w := w) (O := Own O0 η Ĥ) (η := η) (ρ := ρ) (fun p hp a ha => hO p.2 (by simp; exact ⟨p.1, by simpa using hp⟩) a ha) hl
      have hcg : pubPs H l0 = pubPs Ĥ l0 := pubPs_congr fun b hb => hf b (.inr (by simp only [fpL, hop, hl]; exact hb))
      split at h
      · rename_i sz hsz
        rw [hcg] at h
        split at h
        · rename_i cc l hpub
          split at h
          · rename_i es hes
            split at h
            · rename_i ze e1 e2 e3 hz
              split at h
              · obtain ⟨hcc, rfl, rfl, rfl⟩ := allK_iff.1 h
                exact ⟨(sound_buildPub hop hu hsz hz hprel hpub hcc hes (Nat.eq_of_beq_eq_true e1) (Nat.le_of_ble_eq_true e2) (blt_lt e3) hH).2 (hn (by omega)), by omega⟩
              · obtain ⟨hcc, rfl, rfl, rfl⟩ := allK_iff.1 h
                exact ⟨(sound_buildPub hop hu hsz hz hprel hpub hcc hes (Nat.eq_of_beq_eq_true e1) (Nat.le_of_ble_eq_true e2) (blt_lt e3) hH).1, Nat.le_refl _⟩
            · exact h.elim
          · exact h.elim
        · split at h
          · rename_i es hes
            split at h
            · rename_i ze e1 e2 e3 hz
              obtain ⟨rfl, rfl, rfl⟩ := h
              exact ⟨sound_buildCells hop hu hsz hz hprel hes (Nat.eq_of_beq_eq_true e1) (Nat.le_of_ble_eq_true e2) (blt_lt e3) hH (hn (by omega)), by omega⟩
            · exact h.elim
          · exact h.elim
      · exact h.elim
    · exact h.elim
  case load t x =>
    split at h
    · rename_i sz b i j hx
      split at h
      · rename_i z n f hb
        split at h
        · rename_i v0 hz hp
          obtain ⟨hi, rfl, rfl, rfl⟩ := h
          exact ⟨sound_loadPe hop (hO x (by simp) _ hx) hb hz hp hi hH (hf b (.inl (by simp [fpL, hop, hx, refsA]))), Nat.le_refl _⟩
        · exact h.elim
      · exact h.elim
    · rename_i p hne hx
      split at h
      · rename_i v0 hl
        obtain ⟨rfl, rfl, rfl⟩ := h
        exact ⟨sound_load hop (hO x (by simp) _ hx) hl hH (fun b hb => hf b (.inl (by simpa [fpL, hop, hx] using hb))), Nat.le_refl _⟩
      · exact h.elim
    · exact h.elim
  case store t x y =>
    split at h
    · rename_i b off a n hx hy hs
      have hfb := hf b (.inr (by simp [fpL, hop, hx, refsA]))
      split at h
      · rename_i l hb
        split at h
        · rename_i e1 e2 e3
          obtain ⟨rfl, rfl, rfl⟩ := h
          exact ⟨sound_store hop (hO x (by simp) _ hx) (hO y (by simp) _ hy) hs (hfb.trans hb) e1 e2 e3 hH, Nat.le_refl _⟩
        · exact h.elim
      · exact h.elim
    · rename_i sz b i j a n hx hy hs
      have hfb := hf b (.inr (by simp [fpL, hop, hx, refsA]))
      split at h
      · rename_i z m f hb
        rw [pub_congr (Ĥ := Ĥ) (fun b hb => hf b (.inr (by simp only [fpL, hop, hx, hy, slsOf, List.append_nil]; exact List.mem_append_right _ hb)))] at h
        split at h
        · rename_i cc a' hpub
          split at h
          · rename_i e1 e2 e3 e4 e5
            obtain ⟨hcc, hi, rfl, rfl, rfl⟩ := allK_iff.1 h
            exact ⟨sound_storePub hop (hO x (by simp) _ hx) (hO y (by simp) _ hy) hpub hcc hs (hfb.trans hb) e1 e2 e3 e4 e5 hi hH, Nat.le_refl _⟩
          · exact h.elim
        · exact h.elim
      · exact h.elim
    · exact h.elim
  case nilCheck x =>
    split at h
    · rename_i b off hx
      obtain ⟨rfl, rfl, rfl⟩ := h
      exact ⟨sound_nil hop (hO x (by simp) _ hx) (.inl ⟨_, _, rfl⟩) hH, Nat.le_refl _⟩
    · rename_i sz b i j hx
      obtain ⟨rfl, rfl, rfl⟩ := h
      exact ⟨sound_nil hop (hO x (by simp) _ hx) (.inr (.inl ⟨_, _, _, _, rfl⟩)) hH, Nat.le_refl _⟩
    · rename_i sz n f i j hx
      obtain ⟨rfl, rfl, rfl⟩ := h
      exact ⟨sound_nil hop (hO x (by simp) _ hx) (.inr (.inr (.inl ⟨_, _, _, _, _, rfl⟩))) hH, Nat.le_refl _⟩
    · rename_i f p q hx
      obtain ⟨rfl, rfl, rfl⟩ := h
      exact ⟨sound_nil hop (hO x (by simp) _ hx) (.inr (.inr (.inr ⟨_, _, _, rfl⟩))) hH, Nat.le_refl _⟩
    · exact h.elim
  case binOp op t x y yt =>
    split at h
    · rename_i a b ha hb
      obtain ⟨r, hr, rfl, rfl, rfl⟩ := binA_mono h
      exact ⟨sound_bin hop (hO x (by simp) _ ha) (hO y (by simp) _ hb) hr hH, Nat.le_refl _⟩
    · exact h.elim
  case unOp op t x =>
    split at h
    · rename_i a ha
      obtain ⟨r, hr, rfl, rfl, rfl⟩ := unA_mono h
      exact ⟨sound_un hop (hO x (by simp) _ ha) hr hH, Nat.le_refl _⟩
    · exact h.elim
  case convert s d x =>
    split at h
    · rename_i a ha
      obtain ⟨r, hr, rfl, rfl, rfl⟩ := convA_mono h
      exact ⟨sound_conv hop (hO x (by simp) _ ha) hr hH, Nat.le_refl _⟩
    · exact h.elim
  case makeFunc f a c =>
    split at h
    · rename_i x y hx hy
      obtain ⟨rfl, rfl, rfl⟩ := h
      exact ⟨sound_makeFunc hop (opAs_rel (fun z hz => hO z (by simp at hz ⊢; exact .inl hz)) hx) (opAs_rel (fun z hz => hO z (by simp at hz ⊢; exact .inr hz)) hy) hH, Nat.le_refl _⟩
    · exact h.elim
  case makeSlice t l c =>
    split at h
    · rename_i e k n k' m hu hl hc'
      split at h
      · rename_i i z hi hz
        split at h
        · rename_i e1 e2
          obtain ⟨h0, rfl, hb, hb2, rfl, rfl, rfl⟩ := h
          exact ⟨sound_make hop hu (hO l (by simp) _ hl) (hO c (by simp) _ hc') hi hz (Nat.eq_of_beq_eq_true e1) (blt_lt e2) h0 hb hb2 hH (hn (by omega)), by omega⟩
        · exact h.elim
      · exact h.elim
    · exact h.elim
  case slice t x lo hi mx =>
    split at h
    · rename_i e a hu ha
      split at h
      · rename_i sz _ hs hall
        obtain ⟨r, hr, rfl, rfl, rfl⟩ := sliceA_mono h
        refine ⟨sound_slice hop hu hs (hO x (by simp) _ ha) (fun y hy b hb => hO y (by simp [hy]) b hb) (fun y hy b hb => hO y (by simp [hy]) b hb) (fun y hy b hb => hO y (by simp [hy]) b hb) (by rw [hall]; rfl) hr hH, Nat.le_refl _⟩
      · exact h.elim
    · rename_i n e b hu ha
      split at h
      · rename_i sz l hs hb
        split at h
        · rename_i e1 e2 e3
          obtain ⟨rfl, rfl, rfl⟩ := h
          exact ⟨sound_sliceArr hop hu hs (hO x (by simp) _ ha) ((hf b (.inl (by simp [fpL, hop, ha, refsA]))).trans hb) (Nat.eq_of_beq_eq_true e1) (Nat.le_of_ble_eq_true e3) hH, Nat.le_refl _⟩
        · exact h.elim
      · exact h.elim
    · exact h.elim
  case fieldAddr t x i =>
    split at h
    · rename_i fs hu
      split at h
      · rename_i f hfi
        split at h
        · rename_i n hs
          split at h
          · rename_i b off hx
            obtain ⟨rfl, rfl, rfl⟩ := h
            exact ⟨sound_fieldAddr hop hu hfi hs (hO x (by simp) _ hx) (.inl ⟨_, _, rfl, rfl⟩) hH, Nat.le_refl _⟩
          · rename_i sz b i j hx
            obtain ⟨rfl, rfl, rfl⟩ := h
            exact ⟨sound_fieldAddr hop hu hfi hs (hO x (by simp) _ hx) (.inr (.inl ⟨_, _, _, _, rfl, rfl⟩)) hH, Nat.le_refl _⟩
          · rename_i sz n f' i j hx
            obtain ⟨rfl, rfl, rfl⟩ := h
            exact ⟨sound_fieldAddr hop hu hfi hs (hO x (by simp) _ hx) (.inr (.inr ⟨_, _, _, _, _, rfl, rfl⟩)) hH, Nat.le_refl _⟩
          · exact h.elim
        · exact h.elim
      · exact h.elim
    · exact h.elim
  case field t x i =>
    split at h
    · rename_i fs cs hu hx
      split at h
      · rename_i f hfi
        split at h
        · rename_i v0 hp
          obtain ⟨rfl, rfl, rfl⟩ := h
          exact ⟨sound_field hop hu hfi (hO x (by simp) _ hx) hp hH, Nat.le_refl _⟩
        · exact h.elim
      · exact h.elim
    · exact h.elim
  case indexAddr t x i =>
    split at h
    · rename_i n e a k q hu hx hi
      split at h
      · rename_i sz hs
        split at h
        · obtain ⟨h0, h1, rfl, rfl, rfl⟩ := h
          exact ⟨sound_indexArr hop hu hs (hO x (by simp) _ hx) (hO i (by simp) _ hi) h0 h1 (.inl ⟨_, _, rfl, rfl⟩) hH, Nat.le_refl _⟩
        · obtain ⟨h0, h1, rfl, rfl, rfl⟩ := h
          exact ⟨sound_indexArr hop hu hs (hO x (by simp) _ hx) (hO i (by simp) _ hi) h0 h1 (.inr (.inl ⟨_, _, _, _, rfl, rfl⟩)) hH, Nat.le_refl _⟩
        · obtain ⟨h0, h1, rfl, rfl, rfl⟩ := h
          exact ⟨sound_indexArr hop hu hs (hO x (by simp) _ hx) (hO i (by simp) _ hi) h0 h1 (.inr (.inr ⟨_, _, _, _, _, rfl, rfl⟩)) hH, Nat.le_refl _⟩
        · exact h.elim
      · exact h.elim
    · rename_i e a k q hu hx hi
      split at h
      · rename_i sz hs
        split at h
        · rename_i z n c f
          split at h
          · rename_i hz
            cases Nat.eq_of_beq_eq_true hz
            obtain ⟨h0, h1, rfl, rfl, rfl⟩ := h
            exact ⟨sound_indexRs hop hu hs (hO x (by simp) _ hx) (hO i (by simp) _ hi) h0 h1 hH, Nat.le_refl _⟩
          · exact h.elim
        · rename_i z b of n
          split at h
          · rename_i hz
            cases Nat.eq_of_beq_eq_true hz
            split at h
            · obtain ⟨h0, h1, rfl, rfl, rfl⟩ := h
              exact ⟨sound_indexSl hop hu hs (hO x (by simp) _ hx) (hO i (by simp) _ hi) h0 h1 (.inl rfl) hH, Nat.le_refl _⟩
            · obtain ⟨h0, h1, rfl, rfl, rfl⟩ := h
              exact ⟨sound_indexSl hop hu hs (hO x (by simp) _ hx) (hO i (by simp) _ hi) h0 h1 (.inr rfl) hH, Nat.le_refl _⟩
            · exact h.elim
          · exact h.elim
        · exact h.elim
      · exact h.elim
    · exact h.elim
  case index t x i =>
    split at h
    · rename_i n e cs k q hu hx hi
      split at h
      · rename_i sz hs
        split at h
        · rename_i v0 hp
          obtain ⟨h0, h1, rfl, rfl, rfl⟩ := h
          exact ⟨sound_indexA hop hu hs (hO x (by simp) _ hx) (hO i (by simp) _ hi) hp h0 h1 hH, Nat.le_refl _⟩
        · exact h.elim
      · exact h.elim
    · rename_i s k q hu hx hi
      obtain ⟨h0, h1, rfl, rfl, rfl⟩ := h
      exact ⟨sound_indexS hop hu (hO x (by simp) _ hx) (hO i (by simp) _ hi) h0 h1 hH, Nat.le_refl _⟩
    · exact h.elim
  case extract x i =>
    split at h
    · rename_i l hx
      split at h
      · rename_i v0 hl
        obtain ⟨rfl, rfl, rfl⟩ := h
        exact ⟨sound_extract hop (hO x (by simp) _ hx) hl hH, Nat.le_refl _⟩
      · exact h.elim
    · exact h.elim
  case call c =>
    obtain ⟨callee, args, argTypes⟩ := c
    simp only [Call.operands] at hO
    simp only at h
    have hargs : ∀ y, y ∈ args.toList → ∀ a, opA env y = some a → VRel w (Own O0 η Ĥ) η a (ρ y) := fun y hy a ha => hO y (by simp at hy ⊢; exact .inr hy) a ha
    split at h
    · -- len
      rename_i a has
      obtain ⟨x, hx, hxa⟩ := opAs_one has
      have hax : args = #[x] := by apply Array.ext'; simpa using hx
      subst hax
      have hxr := hargs x (by simp) a hxa
      split at h
      · rename_i t ht
        have hat : argTypes = #[t] := by apply Array.ext'; simpa using ht
        subst hat
        split at h
        · rename_i e sz n k f hu
          obtain ⟨rfl, rfl, rfl⟩ := h
          exact ⟨sound_len (as := #[x]) hop hxr (.inl ⟨_, hu, .inl ⟨_, _, _, rfl⟩⟩) hH, Nat.le_refl _⟩
        · rename_i e sz b of n hu
          obtain ⟨rfl, rfl, rfl⟩ := h
          exact ⟨sound_len (as := #[x]) hop hxr (.inl ⟨_, hu, .inr (.inl ⟨_, _, _, rfl⟩)⟩) hH, Nat.le_refl _⟩
        · rename_i e hu
          obtain ⟨rfl, rfl, rfl⟩ := h
          exact ⟨sound_len (as := #[x]) (n := 0) hop hxr (.inl ⟨_, hu, .inr (.inr ⟨rfl, rfl⟩)⟩) hH, Nat.le_refl _⟩
        · rename_i s hu
          obtain ⟨rfl, rfl, rfl⟩ := h
          exact ⟨sound_len (as := #[x]) hop hxr (.inr ⟨hu, _, rfl, rfl⟩) hH, Nat.le_refl _⟩
        · exact h.elim
      · exact h.elim
    · rename_i l has
      split at h
      · rename_i k n hm
        obtain ⟨rfl, rfl, rfl⟩ := h
        exact ⟨sound_max hop (opAs_rel hargs has) hm hH, Nat.le_refl _⟩
      · exact h.elim
    · rename_i l has
      split at h
      · rename_i k n hm
        obtain ⟨rfl, rfl, rfl⟩ := h
        exact ⟨sound_min hop (opAs_rel hargs has) hm hH, Nat.le_refl _⟩
      · exact h.elim
    · -- append
      rename_i s x has
      obtain ⟨so, xo, hx, hso, hxo⟩ := opAs_two has
      have hax : args = #[so, xo] := by apply Array.ext'; simpa using hx
      subst hax
      have hsr := hargs so (by simp) s hso
      have hxr := hargs xo (by simp) x hxo
      split at h
      · rename_i t t' ht
        have hat : argTypes = #[t, t'] := by apply Array.ext'; simpa using ht
        subst hat
        split at h
        · rename_i e he hu
          cases Nat.eq_of_beq_eq_true he
          split at h
          · rename_i i hi
            split at h
            · rename_i z hpos hz
              split at h
              · rename_i hzl
                split at h
                · split at h
                  · obtain ⟨rfl, rfl, rfl⟩ := h
                    exact ⟨sound_append_nil hop hu hi hsr hxr (.inl ⟨_, _, _, _, rfl⟩) hH, Nat.le_refl _⟩
                  · obtain ⟨rfl, rfl, rfl⟩ := h
                    exact ⟨sound_append_nil hop hu hi hsr hxr (.inr (.inl ⟨_, _, _, _, rfl⟩)) hH, Nat.le_refl _⟩
                  · obtain ⟨rfl, rfl, rfl⟩ := h
                    exact ⟨sound_append_nil hop hu hi hsr hxr (.inr (.inr rfl)) hH, Nat.le_refl _⟩
                  · exact h.elim
                · have hfp : fpL env o = (refsA (some x), refsA (some s)) := by simp only [fpL, hop, has]
                  have h' := append_congr (Ĥ := Ĥ) (fun b hb => hf b (.inl (by rw [hfp]; exact refs_sls x b hb))) (fun b hb => hf b (.inr (by rw [hfp]; exact refs_sls s b hb))) h
                  have hnext : n' = next + 1 := by
                    have := h'
                    unfold appendA at this
                    split at this
                    · split at this
                      · split at this
                        · split at this
                          · exact ((allK_iff.1 this).2).2.2.2.2.2.symm
                          · exact this.elim
                        · exact this.elim
                      · split at this
                        · split at this
                          · exact ((allK_iff.1 this).2).2.2.2.2.2.symm
                          · exact ((allK_iff.1 this).2).2.2.2.2.2.2.symm
                        · exact this.elim
                      · split at this
                        · exact ((allK_iff.1 this).2).2.2.2.2.symm
                        · exact this.elim
                      · exact this.elim
                    · exact this.elim
                  exact ⟨sound_append hop hu hi hz (Nat.eq_of_beq_eq_true hzl) (blt_lt hpos) hsr hxr h' hH (hn (by omega)), by omega⟩
              · exact h.elim
            · exact h.elim
          · exact h.elim
        · exact h.elim
      · exact h.elim
    · rename_i g l has
      split at h
      · rename_i f first caps hg
        split at h
        · rename_i hh hspec
          split at h
          · rename_i cc as' hview
            split at h
            · rename_i p v0 hv
              have hgr := hO g (by simp) _ hg
              have hview' : pubsA Ĥ (first ++ l ++ caps) = some (cc, as') := by
                rw [← pubs_congr (H := H) (fun b hb => hf b (.inr (by simp only [fpL, hop, hg, has]; exact hb)))]
                exact hview
              split at h
              · rename_i hflat
                obtain ⟨hcc, hp, rfl, rfl, rfl⟩ := allK_iff.1 h
                exact ⟨sound_call (hc.entry f hh hspec) hop hgr (opAs_rel hargs has) hview' hcc (hc.spec f hh hspec _ _ _ hv hp) (by simp [hflat]) hH, Nat.le_refl _⟩
              · rename_i hflat
                obtain ⟨hcc, hp, rfl, rfl, rfl⟩ := allK_iff.1 h
                exact ⟨sound_call (hc.entry f hh hspec) hop hgr (opAs_rel hargs has) hview' hcc (hc.spec f hh hspec _ _ _ hv hp) (by simp [hflat]) hH, Nat.le_refl _⟩
            · exact h.elim
          · exact h.elim
        · exact h.elim
      · exact h.elim
    · exact h.elim
end
end Go.Ev
