/- Own text: how abstract heaps stand to the machine's heap. -/
import Derived.Test.YtlofmgdjnaajjaaEv2
namespace Go.Ev
open Go Go.RowKit
set_option linter.unusedVariables false
set_option linter.unusedSimpArgs false

/-- What one block of ours holds. -/
def BRel (w : World) (O : Nat → Prop) (η : Eta) (c N : Nat) (k : Blk) : Prop :=
  ∃ (cur : List Value) (T : TypeId), w.heap[c]? = some (.cells cur.toArray T (0, 0)) ∧ cur.length = N ∧ (match k with
    | .cells l => VRels w O η l cur ∧ ∀ u ∈ cur, u.oneCell' = true
    | .arr sz n f => 0 < sz ∧ n * sz ≤ N ∧ ∀ i, i < n → (f i).length = sz ∧ VRels w O noEta (f i) ((cur.drop (i * sz)).take sz) ∧ ∀ u ∈ (cur.drop (i * sz)).take sz, u.oneCell' = true)

/-- What is ours, or a caller's. -/
def Own (O0 : Nat → Prop) (η : Eta) (H : Nat → Option Blk) (c : Nat) : Prop := O0 c ∨ ∃ b k N, H b = some k ∧ η b = some (c, N)

structure HRel (O0 : Nat → Prop) (η : Eta) (H : Nat → Option Blk) (w : World) : Prop where
  blk : ∀ b k, H b = some k → (η b = none ∧ ∃ sz f, k = .arr sz 0 f) ∨ ∃ c N, η b = some (c, N) ∧ ¬ O0 c ∧ BRel w (Own O0 η H) η c N k
  inj : ∀ b b' k k' c N N', H b = some k → H b' = some k' → η b = some (c, N) → η b' = some (c, N') → b = b'
  lt : ∀ b c N, η b = some (c, N) → c < w.heap.size
  O0lt : ∀ c, O0 c → c < w.heap.size

theorem HRel.cells {O0 : Nat → Prop} {η : Eta} {H : Nat → Option Blk} {w : World} (h : HRel O0 η H w) {b : Nat} {l : List AV} (hb : H b = some (.cells l)) : ∃ c N, η b = some (c, N) ∧ ¬ O0 c ∧ BRel w (Own O0 η H) η c N (.cells l) := by
  rcases h.blk b _ hb with ⟨_, sz, f, e⟩ | h
  · cases e
  · exact h
theorem HRel.arr {O0 : Nat → Prop} {η : Eta} {H : Nat → Option Blk} {w : World} (h : HRel O0 η H w) {b sz n : Nat} {f : Nat → List AV} (hb : H b = some (.arr sz n f)) (hn : 0 < n) : ∃ c N, η b = some (c, N) ∧ ¬ O0 c ∧ BRel w (Own O0 η H) η c N (.arr sz n f) := by
  rcases h.blk b _ hb with ⟨_, sz, f, e⟩ | h
  · cases e; omega
  · exact h
theorem HRel.real {O0 : Nat → Prop} {η : Eta} {H : Nat → Option Blk} {w : World} (h : HRel O0 η H w) {b c N : Nat} {k : Blk} (hb : H b = some k) (hc : η b = some (c, N)) : ¬ O0 c ∧ BRel w (Own O0 η H) η c N k := by
  rcases h.blk b _ hb with ⟨e, _⟩ | ⟨c', N', e, h⟩
  · rw [hc] at e; cases e
  · rw [hc] at e; cases e; exact h

theorem Kept.refl (O : Nat → Prop) (w : World) : Kept O w O w := ⟨fun _ _ _ => rfl, fun _ h => .inl h⟩
theorem Kept.less {O O' : Nat → Prop} {w : World} (h : ∀ c, O' c → O c) : Kept O w O' w := ⟨fun _ _ _ => rfl, fun c hc => .inl (h c hc)⟩
theorem Kept.trans {O O' O'' : Nat → Prop} {w w' w'' : World} (h : Kept O w O' w') (k : Kept O' w' O'' w'') (hs : w.heap.size ≤ w'.heap.size) : Kept O w O'' w'' := by
  refine ⟨fun c hc hO => ?_, fun c hc => ?_⟩
  · have h1 : ¬ O' c := fun ho => by rcases h.own c ho with h2 | h2; exact hO h2; omega
    rw [k.block c (by omega) h1, h.block c hc hO]
  · rcases k.own c hc with h1 | h1
    · exact h.own c h1
    · exact .inr (by omega)
/-- A step that turns no old block. -/
theorem Kept.low {O O' : Nat → Prop} {w w' : World} (h : Below w.heap.size w w') (ho : ∀ c, O' c → O c ∨ w.heap.size ≤ c) : Kept O w O' w' := ⟨fun c hc _ => h.block c hc, ho⟩

theorem BRel.kept {w w' : World} {O O' : Nat → Prop} {η η' : Eta} {c N : Nat} {k : Blk} (h : BRel w O η c N k) (hk : Kept O w O' w') (he : EtaLe η η') (hc : w'.heap[c]? = w.heap[c]?) : BRel w' O' η' c N k := by
  obtain ⟨cur, T, h1, h2, h3⟩ := h
  refine ⟨cur, T, hc.trans h1, h2, ?_⟩
  cases k with
  | cells l => exact ⟨(h3.1.kept hk).ext _ he, h3.2⟩
  | arr sz n f => exact ⟨h3.1, h3.2.1, fun i hi => ⟨(h3.2.2 i hi).1, (h3.2.2 i hi).2.1.kept hk, (h3.2.2 i hi).2.2⟩⟩

theorem EtaLe.refl (η : Eta) : EtaLe η η := fun _ _ _ h => h

/-- Nothing of ours turns. -/
theorem HRel.low {O0 : Nat → Prop} {η : Eta} {H : Nat → Option Blk} {w w' : World} (h : HRel O0 η H w) (hb : Below w.heap.size w w') : HRel O0 η H w' := by
  refine ⟨fun b k hk => ?_, h.inj, fun b c N hb' => Nat.lt_of_lt_of_le (h.lt b c N hb') hb.size, fun c hc => Nat.lt_of_lt_of_le (h.O0lt c hc) hb.size⟩
  rcases h.blk b k hk with hg | ⟨c, N, h1, h2, h3⟩
  · exact .inl hg
  · exact .inr ⟨c, N, h1, h2, h3.kept (Kept.low hb fun c hc => .inl hc) (EtaLe.refl η) (hb.block c (h.lt b c N h1))⟩

/-- The heap with what has been laid into it. -/
def hupd (H : Nat → Option Blk) (u : Heap) (b : Nat) : Option Blk := match look u b with
  | some x => x
  | none => H b

theorem look_cons_self {α : Type} (b : Nat) (x : α) (r : List (Nat × α)) : look ((b, x) :: r) b = some x := by simp [look, Nat.beq_refl]
theorem look_cons_ne {α : Type} {b b' : Nat} (x : α) (r : List (Nat × α)) (h : b ≠ b') : look ((b, x) :: r) b' = look r b' := by
  have : Nat.beq b b' = false := by cases hh : Nat.beq b b' with
    | false => rfl
    | true => exact absurd (Nat.eq_of_beq_eq_true hh) h
  simp [look, this]
theorem hupd_nil (H : Nat → Option Blk) : hupd H [] = H := rfl
theorem hupd_one_self (H : Nat → Option Blk) (b : Nat) (k : Option Blk) : hupd H [(b, k)] b = k := by simp [hupd, look_cons_self]
theorem hupd_one_ne (H : Nat → Option Blk) {b b' : Nat} (k : Option Blk) (h : b ≠ b') : hupd H [(b, k)] b' = H b' := by unfold hupd; rw [look_cons_ne _ _ h]; rfl
theorem live_append (u h : Heap) : Heap.live (u ++ h) = hupd (Heap.live h) u := by
  funext b
  induction u with
  | nil => rfl
  | cons p u ih =>
    obtain ⟨b', x⟩ := p
    simp only [Heap.live, hupd, List.cons_append, look] at ih ⊢
    cases Nat.beq b' b with
    | true => cases x <;> rfl
    | false => exact ih

/-- Killing blocks. -/
theorem HRel.kill {O0 : Nat → Prop} {η : Eta} {H H' : Nat → Option Blk} {w : World} (h : HRel O0 η H w) (hl : ∀ b k, H' b = some k → H b = some k) : HRel O0 η H' w ∧ Kept (Own O0 η H) w (Own O0 η H') w := by
  have hk : Kept (Own O0 η H) w (Own O0 η H') w := Kept.less fun c hc => by
    rcases hc with hc | ⟨b, k, N, h1, h2⟩
    · exact .inl hc
    · exact .inr ⟨b, k, N, hl b k h1, h2⟩
  refine ⟨⟨fun b k hb => ?_, fun b b' k k' c N N' h1 h2 => h.inj b b' k k' c N N' (hl _ _ h1) (hl _ _ h2), h.lt, h.O0lt⟩, hk⟩
  rcases h.blk b k (hl b k hb) with hg | ⟨c, N, h1, h2, h3⟩
  · exact .inl hg
  · exact .inr ⟨c, N, h1, h2, h3.kept hk (EtaLe.refl η) rfl⟩

def etaSet (η : Eta) (b c N : Nat) : Eta := fun x => if x = b then some (c, N) else η x
theorem etaSet_le {η : Eta} {b c N : Nat} (h : η b = none) : EtaLe η (etaSet η b c N) := fun x c' N' hx => by
  unfold etaSet
  split
  · subst_vars; rw [h] at hx; cases hx
  · exact hx

/-- A new block. -/
theorem HRel.new {O0 : Nat → Prop} {η : Eta} {H : Nat → Option Blk} {w : World} (h : HRel O0 η H w) {b : Nat} (hb : η b = none) (k : Blk) (w' : World) (c N : Nat) (hw : Below w.heap.size w w') (hc : w.heap.size ≤ c) (hc' : c < w'.heap.size)
    (hk : BRel w' (Own O0 (etaSet η b c N) (hupd H [(b, some k)])) (etaSet η b c N) c N k) :
    HRel O0 (etaSet η b c N) (hupd H [(b, some k)]) w' ∧ Kept (Own O0 η H) w (Own O0 (etaSet η b c N) (hupd H [(b, some k)])) w' := by
  have hkept : Kept (Own O0 η H) w (Own O0 (etaSet η b c N) (hupd H [(b, some k)])) w' := Kept.low hw fun x hx => by
    rcases hx with hx | ⟨b', k', N', h1, h2⟩
    · exact .inl (.inl hx)
    · by_cases hbb : b' = b
      · subst hbb; simp [etaSet] at h2; exact .inr (by omega)
      · rw [hupd_one_ne _ _ (Ne.symm hbb)] at h1
        simp [etaSet, hbb] at h2
        exact .inl (.inr ⟨b', k', N', h1, h2⟩)
  refine ⟨⟨fun b' k' hb' => ?_, fun b1 b2 k1 k2 c' N1 N2 h1 h2 e1 e2 => ?_, fun b' c' N' hb' => ?_, fun x hx => Nat.lt_of_lt_of_le (h.O0lt x hx) hw.size⟩, hkept⟩
  · by_cases hbb : b' = b
    · subst hbb
      rw [hupd_one_self] at hb'
      cases hb'
      exact .inr ⟨c, N, by simp [etaSet], fun ho => by have := h.O0lt c ho; omega, hk⟩
    · rw [hupd_one_ne _ _ (Ne.symm hbb)] at hb'
      rcases h.blk b' k' hb' with ⟨hg, hk'⟩ | ⟨c', N', h1, h2, h3⟩
      · exact .inl ⟨by simp [etaSet, hbb, hg], hk'⟩
      · exact .inr ⟨c', N', by simp [etaSet, hbb, h1], h2, h3.kept hkept (etaSet_le hb) (hw.block c' (h.lt _ _ _ h1))⟩
  · by_cases hb1 : b1 = b <;> by_cases hb2 : b2 = b
    · rw [hb1, hb2]
    · rw [hupd_one_ne _ _ (Ne.symm hb2)] at h2
      simp [etaSet, hb1] at e1
      simp [etaSet, hb2] at e2
      have := h.lt _ _ _ e2
      omega
    · rw [hupd_one_ne _ _ (Ne.symm hb1)] at h1
      simp [etaSet, hb1] at e1
      simp [etaSet, hb2] at e2
      have := h.lt _ _ _ e1
      omega
    · rw [hupd_one_ne _ _ (Ne.symm hb1)] at h1
      rw [hupd_one_ne _ _ (Ne.symm hb2)] at h2
      simp [etaSet, hb1] at e1
      simp [etaSet, hb2] at e2
      exact h.inj b1 b2 k1 k2 c' N1 N2 h1 h2 e1 e2
  · by_cases hbb : b' = b
    · simp [etaSet, hbb] at hb'; omega
    · simp [etaSet, hbb] at hb'; exact Nat.lt_of_lt_of_le (h.lt _ _ _ hb') hw.size

/-- A new block without cells. -/
theorem HRel.ghost {O0 : Nat → Prop} {η : Eta} {H : Nat → Option Blk} {w : World} (h : HRel O0 η H w) {b : Nat} (hb : η b = none) (sz : Nat) (f : Nat → List AV) :
    HRel O0 η (hupd H [(b, some (.arr sz 0 f))]) w ∧ Kept (Own O0 η H) w (Own O0 η (hupd H [(b, some (.arr sz 0 f))])) w := by
  have old : ∀ x k, hupd H [(b, some (.arr sz 0 f))] x = some k → x ≠ b → H x = some k := fun x k hx hne => by rwa [hupd_one_ne _ _ (Ne.symm hne)] at hx
  have hkept : Kept (Own O0 η H) w (Own O0 η (hupd H [(b, some (.arr sz 0 f))])) w := Kept.less fun c hc => by
    rcases hc with hc | ⟨b', k, N, h1, h2⟩
    · exact .inl hc
    · exact .inr ⟨b', k, N, old b' k h1 (fun e => by rw [e, hb] at h2; cases h2), h2⟩
  refine ⟨⟨fun b' k hk => ?_, fun b1 b2 k1 k2 c N1 N2 h1 h2 e1 e2 => h.inj b1 b2 k1 k2 c N1 N2 (old _ _ h1 fun e => by rw [e, hb] at e1; cases e1) (old _ _ h2 fun e => by rw [e, hb] at e2; cases e2) e1 e2, h.lt, h.O0lt⟩, hkept⟩
  by_cases e : b' = b
  · subst e
    rw [hupd_one_self] at hk
    cases hk
    exact .inl ⟨hb, sz, f, rfl⟩
  · rcases h.blk b' k (old b' k hk e) with hg | ⟨c, N, h1, h2, h3⟩
    · exact .inl hg
    · exact .inr ⟨c, N, h1, h2, h3.kept hkept (EtaLe.refl η) rfl⟩

/-- A block of ours is written. -/
theorem HRel.write {O0 : Nat → Prop} {η : Eta} {H : Nat → Option Blk} {w w' : World} (h : HRel O0 η H w) {b c N : Nat} {k0 : Blk} (hb : H b = some k0) (hc : η b = some (c, N)) (k : Blk)
    (hsz : w'.heap.size = w.heap.size) (hw : ∀ x, x ≠ c → w'.heap[x]? = w.heap[x]?)
    (hk : Kept (Own O0 η H) w (Own O0 η H) w' → BRel w' (Own O0 η H) η c N k) :
    HRel O0 η (hupd H [(b, some k)]) w' ∧ Kept (Own O0 η H) w (Own O0 η (hupd H [(b, some k)])) w' := by
  have howns : ∀ x, Own O0 η (hupd H [(b, some k)]) x ↔ Own O0 η H x := fun x => by
    constructor
    · rintro (hx | ⟨b', k', N', h1, h2⟩)
      · exact .inl hx
      · by_cases hbb : b = b'
        · subst hbb; exact .inr ⟨b, k0, N', hb, h2⟩
        · rw [hupd_one_ne _ _ hbb] at h1; exact .inr ⟨b', k', N', h1, h2⟩
    · rintro (hx | ⟨b', k', N', h1, h2⟩)
      · exact .inl hx
      · by_cases hbb : b = b'
        · subst hbb; exact .inr ⟨b, k, N', hupd_one_self _ _ _, h2⟩
        · exact .inr ⟨b', k', N', by rw [hupd_one_ne _ _ hbb]; exact h1, h2⟩
  have hO : Own O0 η (hupd H [(b, some k)]) = Own O0 η H := funext fun x => propext (howns x)
  have hkept : Kept (Own O0 η H) w (Own O0 η H) w' := ⟨fun x hx hox => hw x fun e => hox (.inr ⟨b, k0, N, hb, by rw [e]; exact hc⟩), fun x hx => .inl hx⟩
  rw [hO]
  refine ⟨⟨fun b' k' hb' => ?_, fun b1 b2 k1 k2 c' N1 N2 h1 h2 e1 e2 => ?_, fun b' c' N' hb' => by rw [hsz]; exact h.lt _ _ _ hb', fun x hx => by rw [hsz]; exact h.O0lt x hx⟩, hkept⟩
  · rw [hO]
    by_cases hbb : b = b'
    · subst hbb
      rw [hupd_one_self] at hb'
      cases hb'
      exact .inr ⟨c, N, hc, (h.real hb hc).1, hk hkept⟩
    · rw [hupd_one_ne _ _ hbb] at hb'
      rcases h.blk b' k' hb' with hg | ⟨c', N', h1, h2, h3⟩
      · exact .inl hg
      · have hne : c' ≠ c := fun e => hbb (h.inj b b' k0 k' c N N' hb hb' hc (by rw [← e]; exact h1))
        exact .inr ⟨c', N', h1, h2, h3.kept hkept (EtaLe.refl η) (hw c' hne)⟩
  · have g : ∀ x kx, hupd H [(b, some k)] x = some kx → ∃ k', H x = some k' := fun x kx hx => by
      by_cases hbb : b = x
      · subst hbb; exact ⟨k0, hb⟩
      · rw [hupd_one_ne _ _ hbb] at hx; exact ⟨kx, hx⟩
    obtain ⟨k1', g1⟩ := g b1 k1 h1
    obtain ⟨k2', g2⟩ := g b2 k2 h2
    exact h.inj b1 b2 k1' k2' c' N1 N2 g1 g2 e1 e2
end Go.Ev
