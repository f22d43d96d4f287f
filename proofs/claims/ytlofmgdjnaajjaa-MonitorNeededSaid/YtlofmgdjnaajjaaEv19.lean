/- Own text: drawn regions: the trace of the operations in the order of the text, and what a part of them makes. -/
import Derived.Test.YtlofmgdjnaajjaaEv18
namespace Go.Ev
open Go Go.RowKit
set_option linter.unusedVariables false
set_option linter.unusedSimpArgs false

/-- One operation of the trace. -/
structure It where
  s : St
  e : Bool
  v : AV
  u : Heap
  n : Nat
  R : List Nat
  W : List Nat
def It.val (it : It) : AV := if it.e = true then it.v else .v undef
def It.post (o : Oper) (it : It) : St := if it.e = true then St.set { it.s with heap := it.u ++ it.s.heap, next := it.n } o.dst it.v else St.set it.s o.dst (.v undef)

abbrev Steps' := List (Oper × It)

def Trace (Good : Oper → It → Prop) (bs : List Nat) : Nat → Fps → St → Steps' → St → Prop
  | _, _, s, [], sN => sN = s
  | i, done, s, (o, it) :: r, sN => it.s.heap = s.heap ∧ it.s.next = s.next ∧ (∀ t, look it.s.env t = look s.env t) ∧ Good o it ∧ (it.e = true → fpOk (bs.getD i 0) it.R it.W done = true) ∧
      Trace Good bs (i + 1) (if it.e = true then (i, it.R, it.W) :: done else done) (it.post o) r sN

/-- The blocks behind those operations that have come. -/
def hs (L : Nat → Bool) : Nat → Steps' → (Nat → Option Blk) → Nat → Option Blk
  | _, [], H => H
  | i, (o, it) :: r, H => hs L (i + 1) r (if (L i && it.e) = true then hupd H it.u else H)
/-- The temporaries. -/
def es (L : Nat → Bool) : Nat → Steps' → (Nat → Option AV) → Nat → Option AV
  | _, [], E => E
  | i, (o, it) :: r, E => es L (i + 1) r (if L i = true then fun t => if o.dst = some t then some it.val else E t else E)
def nsAt : Nat → Steps' → Nat → Nat
  | _, [], n => n
  | 0, _, n => n
  | k + 1, (o, it) :: r, n => nsAt k r (if it.e = true then it.n else n)

theorem hs_congr {L L' : Nat → Bool} {b : Nat} : ∀ {st : Steps'} {i : Nat} {H H' : Nat → Option Blk}, H b = H' b → (∀ j o it, st[j]? = some (o, it) → it.e = true → look it.u b ≠ none → L (i + j) = L' (i + j)) → hs L i st H b = hs L' i st H' b
  | [], i, H, H', h, _ => h
  | (o, it) :: r, i, H, H', h, hj => by
    simp only [hs]
    refine hs_congr ?_ (fun j o' it' h1 h2 h3 => by have := hj (j + 1) o' it' (by simpa using h1) h2 h3; rwa [show i + (j + 1) = i + 1 + j by omega] at this)
    have h0 := hj 0 o it (by simp)
    simp only [Nat.add_zero] at h0
    by_cases he : it.e = true
    · by_cases hl : look it.u b = none
      · have : ∀ (c : Bool) (H : Nat → Option Blk), (if (c && it.e) = true then hupd H it.u else H) b = H b := fun c H => by
          split
          · simp [hupd, hl]
          · rfl
        rw [this, this, h]
      · rw [h0 he hl]
        split
        · simp only [hupd]; cases hh : look it.u b <;> simp [h]
        · exact h
    · simp [he, h]

theorem hs_last {L : Nat → Bool} {b : Nat} {x : Option Blk} : ∀ {st : Steps'} {i k : Nat} {H : Nat → Option Blk} {o : Oper} {it : It}, st[k]? = some (o, it) → it.e = true → L (i + k) = true → look it.u b = some x → (∀ j o' it', k < j → st[j]? = some (o', it') → it'.e = true → L (i + j) = true → look it'.u b = none) → hs L i st H b = x
  | [], i, k, H, o, it, h, _, _, _, _ => by simp at h
  | (o0, it0) :: r, i, 0, H, o, it, h, he, hL, hx, hj => by
    simp only [List.getElem?_cons_zero, Option.some.injEq, Prod.mk.injEq] at h
    obtain ⟨rfl, rfl⟩ := h
    simp only [hs]
    have : hs L (i + 1) r (if (L i && it0.e) = true then hupd H it0.u else H) b = hs (fun _ => false) (i + 1) r (if (L i && it0.e) = true then hupd H it0.u else H) b := by
      refine hs_congr rfl fun j o' it' h1 h2 h3 => ?_
      cases hLj : L (i + 1 + j) with
      | false => rfl
      | true => exact absurd (hj (j + 1) o' it' (by omega) (by simpa using h1) h2 (by rw [show i + (j + 1) = i + 1 + j by omega]; exact hLj)) h3
    rw [this]
    have none_ : ∀ (st : Steps') (i : Nat) (H : Nat → Option Blk), hs (fun _ => false) i st H = H := by
      intro st
      induction st with
      | nil => intro i H; rfl
      | cons p r ih => intro i H; obtain ⟨o, it⟩ := p; simp [hs, ih]
    rw [none_]
    rw [Nat.add_zero] at hL
    simp [hL, he, hupd, hx]
  | (o0, it0) :: r, i, k + 1, H, o, it, h, he, hL, hx, hj => by
    simp only [hs]
    refine hs_last (k := k) (by simpa using h) he (by rw [show i + 1 + k = i + (k + 1) by omega]; exact hL) hx fun j o' it' h1 h2 h3 h4 => ?_
    exact hj (j + 1) o' it' (by omega) (by simpa using h2) h3 (by rw [show i + (j + 1) = i + 1 + j by omega]; exact h4)

theorem hs_none : ∀ {L : Nat → Bool} {st : Steps'} {i : Nat} {H : Nat → Option Blk}, (∀ j, L (i + j) = false) → hs L i st H = H
  | L, [], i, H, _ => rfl
  | L, (o, it) :: r, i, H, h => by
    simp only [hs]
    rw [hs_none fun j => by rw [show i + 1 + j = i + (j + 1) by omega]; exact h (j + 1)]
    have := h 0
    rw [Nat.add_zero] at this
    simp [this]

theorem es_congr {L L' : Nat → Bool} {t : Nat} : ∀ {st : Steps'} {i : Nat} {E E' : Nat → Option AV}, E t = E' t → (∀ j o it, st[j]? = some (o, it) → o.dst = some t → L (i + j) = L' (i + j)) → es L i st E t = es L' i st E' t
  | [], i, E, E', h, _ => h
  | (o, it) :: r, i, E, E', h, hj => by
    simp only [es]
    refine es_congr ?_ (fun j o' it' h1 h2 => by have := hj (j + 1) o' it' (by simpa using h1) h2; rwa [show i + (j + 1) = i + 1 + j by omega] at this)
    have h0 := hj 0 o it (by simp)
    simp only [Nat.add_zero] at h0
    by_cases hd : o.dst = some t
    · rw [h0 hd]
      split
      · simp [hd]
      · exact h
    · have : ∀ (c : Bool) (E : Nat → Option AV), (if c = true then fun t => if o.dst = some t then some it.val else E t else E) t = E t := fun c E => by
        split
        · simp [hd]
        · rfl
      rw [this, this, h]

theorem es_none : ∀ {L : Nat → Bool} {st : Steps'} {i : Nat} {E : Nat → Option AV}, (∀ j, L (i + j) = false) → es L i st E = E
  | L, [], i, E, _ => rfl
  | L, (o, it) :: r, i, E, h => by
    simp only [es]
    rw [es_none fun j => by rw [show i + 1 + j = i + (j + 1) by omega]; exact h (j + 1)]
    have := h 0
    rw [Nat.add_zero] at this
    simp [this]

theorem es_last {L : Nat → Bool} {t : Nat} : ∀ {st : Steps'} {i k : Nat} {E : Nat → Option AV} {o : Oper} {it : It}, st[k]? = some (o, it) → o.dst = some t → L (i + k) = true → (∀ j o' it', k < j → st[j]? = some (o', it') → o'.dst = some t → L (i + j) = false) → es L i st E t = some it.val
  | [], i, k, E, o, it, h, _, _, _ => by simp at h
  | (o0, it0) :: r, i, 0, E, o, it, h, hd, hL, hj => by
    simp only [List.getElem?_cons_zero, Option.some.injEq, Prod.mk.injEq] at h
    obtain ⟨rfl, rfl⟩ := h
    simp only [es]
    rw [es_congr (L' := fun _ => false) (E' := (if L i = true then fun t => if o0.dst = some t then some it0.val else E t else E)) rfl (fun j o' it' h1 h2 => by
      have := hj (j + 1) o' it' (by omega) (by simpa using h1) h2
      rwa [show i + (j + 1) = i + 1 + j by omega] at this), es_none (fun _ => rfl)]
    rw [Nat.add_zero] at hL
    simp [hL, hd]
  | (o0, it0) :: r, i, k + 1, E, o, it, h, hd, hL, hj => by
    simp only [es]
    refine es_last (k := k) (by simpa using h) hd (by rw [show i + 1 + k = i + (k + 1) by omega]; exact hL) fun j o' it' h1 h2 h3 => ?_
    have := hj (j + 1) o' it' (by omega) (by simpa using h2) h3
    rwa [show i + (j + 1) = i + 1 + j by omega] at this

theorem post_env {o : Oper} {it : It} (t : Nat) : look (it.post o).env t = if o.dst = some t then some it.val else look it.s.env t := by
  have key : ∀ (s : St) (v : AV), look (s.set o.dst v).env t = if o.dst = some t then some v else look s.env t := fun s v => by
    cases hd : o.dst with
    | none => simp [St.set]
    | some d =>
      by_cases hdt : d = t
      · subst hdt; simp [look_set_self]
      · rw [look_set_ne hdt]; simp [hdt]
  unfold It.post It.val
  split
  · exact key _ _
  · exact key _ _
theorem post_heap {o : Oper} {it : It} : (it.post o).heap.live = if it.e = true then hupd it.s.heap.live it.u else it.s.heap.live := by
  unfold It.post
  split
  · rw [show (St.set { it.s with heap := it.u ++ it.s.heap, next := it.n } o.dst it.v).heap = it.u ++ it.s.heap by cases o.dst <;> rfl, live_append]
  · rw [show (St.set it.s o.dst (.v undef)).heap = it.s.heap by cases o.dst <;> rfl]
theorem post_next {o : Oper} {it : It} : (it.post o).next = if it.e = true then it.n else it.s.next := by
  unfold It.post
  split <;> cases o.dst <;> rfl

section
variable {Good : Oper → It → Prop} {bs : List Nat}

/-- What stands before operation k. -/
theorem trace_at : ∀ {st : Steps'} {i : Nat} {done : Fps} {s sN : St}, Trace Good bs i done s st sN → ∀ (k : Nat) (o : Oper) (it : It), st[k]? = some (o, it) →
    Good o it ∧ (∀ t, look it.s.env t = es (fun j => decide (j < i + k)) i st (look s.env) t) ∧ (it.s.heap.live = hs (fun j => decide (j < i + k)) i st s.heap.live) ∧ it.s.next = nsAt k st s.next
  | [], i, done, s, sN, _, k, o, it, hk => by simp at hk
  | (o0, it0) :: r, i, done, s, sN, h, 0, o, it, hk => by
    simp only [List.getElem?_cons_zero, Option.some.injEq, Prod.mk.injEq] at hk
    obtain ⟨rfl, rfl⟩ := hk
    obtain ⟨h1, h2, h3, h4, h5, h6⟩ := h
    refine ⟨h4, fun t => ?_, ?_, by simpa [nsAt] using h2⟩
    · rw [es_none (fun j => by simp), h3]
    · rw [hs_none (fun j => by simp), h1]
  | (o0, it0) :: r, i, done, s, sN, h, k + 1, o, it, hk => by
    obtain ⟨h1, h2, h3, h4, h5, h6⟩ := h
    obtain ⟨g1, g2, g3, g4⟩ := trace_at h6 k o it (by simpa using hk)
    have hi : decide (i < i + (k + 1)) = true := by simp
    have hfun : (fun j => decide (j < i + 1 + k)) = (fun j => decide (j < i + (k + 1))) := by
      funext j; congr 1; rw [show i + 1 + k = i + (k + 1) by omega]
    refine ⟨g1, fun t => ?_, ?_, ?_⟩
    · rw [g2, hfun]
      simp only [es, hi, if_true]
      congr 1
      funext t'
      rw [post_env, h3]
    · rw [g3, hfun]
      simp only [hs, hi, Bool.true_and]
      congr 1
      rw [post_heap, h1]
    · rw [g4, post_next, h2]
      simp [nsAt]

theorem trace_end : ∀ {st : Steps'} {i : Nat} {done : Fps} {s sN : St}, Trace Good bs i done s st sN → (∀ t, look sN.env t = es (fun _ => true) i st (look s.env) t) ∧ sN.heap.live = hs (fun _ => true) i st s.heap.live ∧ sN.next = nsAt st.length st s.next
  | [], i, done, s, sN, h => by cases h; exact ⟨fun _ => rfl, rfl, rfl⟩
  | (o0, it0) :: r, i, done, s, sN, h => by
    obtain ⟨h1, h2, h3, h4, h5, h6⟩ := h
    obtain ⟨g2, g3, g4⟩ := trace_end h6
    refine ⟨fun t => ?_, ?_, ?_⟩
    · rw [g2]
      simp only [es, if_true]
      congr 1
      funext t'
      rw [post_env, h3]
    · rw [g3]
      simp only [hs, Bool.true_and]
      congr 1
      rw [post_heap, h1]
    · rw [g4, post_next, h2]
      simp [nsAt]

theorem fpOk_mem {mask : Nat} {R W : List Nat} : ∀ {done : Fps}, fpOk mask R W done = true → ∀ j R' W', (j, R', W') ∈ done → Nat.testBit mask j = true ∨ (apartL W (R' ++ W') = true ∧ apartL R W' = true)
  | [], _, j, R', W', h => by simp at h
  | (j0, R0, W0) :: r, hh, j, R', W', h => by
    simp only [fpOk] at hh
    have hh := and_split hh
    rcases List.mem_cons.1 h with e | h
    · cases e
      have := hh.1
      simp only [Bool.or_eq_true, Bool.and_eq_true] at this
      exact this
    · exact fpOk_mem hh.2 j R' W' h

/-- Two operations that touch the same: the first one comes before. -/
theorem trace_fp : ∀ {st : Steps'} {i : Nat} {done : Fps} {s sN : St}, Trace Good bs i done s st sN → ∀ (k : Nat) (o : Oper) (it : It), st[k]? = some (o, it) → it.e = true →
    (∀ j R' W', (j, R', W') ∈ done → Nat.testBit (bs.getD (i + k) 0) j = true ∨ (apartL it.W (R' ++ W') = true ∧ apartL it.R W' = true)) ∧
    (∀ k' o' it', k' < k → st[k']? = some (o', it') → it'.e = true → Nat.testBit (bs.getD (i + k) 0) (i + k') = true ∨ (apartL it.W (it'.R ++ it'.W) = true ∧ apartL it.R it'.W = true))
  | [], i, done, s, sN, _, k, o, it, hk, _ => by simp at hk
  | (o0, it0) :: r, i, done, s, sN, h, 0, o, it, hk, he => by
    simp only [List.getElem?_cons_zero, Option.some.injEq, Prod.mk.injEq] at hk
    obtain ⟨rfl, rfl⟩ := hk
    obtain ⟨h1, h2, h3, h4, h5, h6⟩ := h
    exact ⟨fun j R' W' hj => fpOk_mem (h5 he) j R' W' hj, fun k' o' it' hk' => absurd hk' (Nat.not_lt_zero _)⟩
  | (o0, it0) :: r, i, done, s, sN, h, k + 1, o, it, hk, he => by
    obtain ⟨h1, h2, h3, h4, h5, h6⟩ := h
    obtain ⟨g1, g2⟩ := trace_fp h6 k o it (by simpa using hk) he
    rw [show i + 1 + k = i + (k + 1) by omega] at g1 g2
    refine ⟨fun j R' W' hj => g1 j R' W' (by split; exact List.mem_cons_of_mem _ hj; exact hj), fun k' o' it' hk' hs' he' => ?_⟩
    cases k' with
    | zero =>
      simp only [List.getElem?_cons_zero, Option.some.injEq, Prod.mk.injEq] at hs'
      obtain ⟨rfl, rfl⟩ := hs'
      exact g1 i _ _ (by rw [if_pos he']; exact List.mem_cons_self)
    | succ k' =>
      have := g2 k' o' it' (by omega) (by simpa using hs') he'
      rwa [show i + 1 + k' = i + (k' + 1) by omega] at this

theorem apart_not {l m : List Nat} (h : apartL l m = true) {b : Nat} (hb : b ∈ l) : b ∉ m := by
  induction l with
  | nil => cases hb
  | cons a r ih =>
    simp only [apartL] at h
    have h := and_split h
    rcases List.mem_cons.1 hb with rfl | hb
    · simpa using h.1
    · exact ih h.2 hb
end
end Go.Ev
