/- Own text: slicing, length, append, calls. -/
import Derived.Test.YtlofmgdjnaajjaaEv9
namespace Go.Ev
open Go Go.RowKit
set_option linter.unusedVariables false
set_option linter.unusedSimpArgs false
section
variable {P : Program} {O0 : Nat → Prop} {η : Eta} {H Ĥ : Nat → Option Blk} {w : World} {ρ : Operand → Value} {env : Env} {next : Nat} {o : Oper} {v : AV} {u : Heap} {n' : Nat}

theorem elem_slice {t e : TypeId} (hu : P.underlying t = some (.slice e)) : P.underlying t = some (.slice (P.elem t)) ∧ P.elem t = e := by
  have : P.elem t = e := by simp [Program.elem, hu]
  exact ⟨by rw [this]; exact hu, this⟩

theorem sliced_rs {O : Nat → Prop} {sz n cap c off l h m : Nat} {k' : Option Nat} {f : Nat → List AV} (h1 : n ≤ cap) (h3 : ∀ i, i < n → (f i).length = sz) (h4 : ∀ i, i < n → VRow w O c (off + i * sz) (f i)) (hl : l ≤ h) (hh : h ≤ n) (hm : h ≤ m) (hk : ∀ q, k' = some q → m - l = q) :
    VRel w O η (.rs sz (h - l) k' (fun i => f (l + i))) (sliced (some ⟨c, off, none⟩) l h m sz) := by
  unfold sliced
  split
  · subst_vars
    have e : h - m = 0 := by omega
    rw [e]
    exact .rs _ _ _ _ _ _ _ _ (by omega) hk (fun i hi => absurd hi (Nat.not_lt_zero i)) (fun i hi => absurd hi (Nat.not_lt_zero i))
  · simp only [Option.map_some, Addr.add_lit]
    refine .rs _ _ _ _ _ _ _ _ (by omega) hk (fun i hi => h3 _ (by omega)) (fun i hi => ?_)
    have := h4 (l + i) (by omega)
    rwa [Nat.add_mul, ← Nat.add_assoc] at this

theorem sliced_nil {O : Nat → Prop} {sz l h m : Nat} {k' : Option Nat} {f : Nat → List AV} {base : Option Addr} (hh : h = 0) (hl : l = 0) (hm : m = 0) (hk : ∀ q, k' = some q → q = 0) :
    VRel w O η (.rs sz (h - l) k' f) (sliced base l h m sz) := by
  subst hh; subst hl; subst hm
  unfold sliced
  exact .rsNil _ _ _ _ _ hk

theorem sound_slice {t e : TypeId} {x : Operand} {lo hi mx : Option Operand} {sz : Nat} {a r : AV} (ho : o.op = .slice t x lo hi mx) (hu : P.underlying t = some (.slice e)) (hs : sizeT P e = some sz) (ha : VRel w (Own O0 η Ĥ) η a (ρ x))
    (hlo : ∀ y, lo = some y → ∀ b, opA env y = some b → VRel w (Own O0 η Ĥ) η b (ρ y)) (hhi : ∀ y, hi = some y → ∀ b, opA env y = some b → VRel w (Own O0 η Ĥ) η b (ρ y)) (hmx : ∀ y, mx = some y → ∀ b, opA env y = some b → VRel w (Own O0 η Ĥ) η b (ρ y))
    (hall : (opAs env (lo.toList ++ hi.toList ++ mx.toList)).isSome = true)
    (h : sliceA sz a (lo.bind (opA env)) (hi.bind (opA env)) (mx.bind (opA env)) (fun z => z = r)) (hH : HRel O0 η Ĥ w) :
    Goes P o ρ w (Res O0 η Ĥ next w r [] next) := by
  obtain ⟨ht, hel⟩ := elem_slice hu
  have fin : ∀ y, (Instr.slice t (ρ x) (lo.map ρ) (hi.map ρ) (mx.map ρ)).run P w = .ok y w → VRel w (Own O0 η Ĥ) η r y → Goes P o ρ w (Res O0 η Ĥ next w r [] next) := fun y hr hv => by
    refine goes_value (s := Instr.sliceAt t (ρ x) (lo.map ρ) (hi.map ρ) (mx.map ρ)) (by simp only [execOp, ho]) ?_ (Res.same hH hv)
    rw [run_sliceAt_slice w t _ _ _ _ ht]; exact hr
  have hsz : ∀ (w : World), (sizeOf (P.elem t)).run P w = .ok sz w := fun w => by rw [hel]; exact run_sizeOf hs
  -- an absent bound is an absent operand
  have habs : ∀ (y : Option Operand), (∃ z, y = some z ∧ z ∈ lo.toList ++ hi.toList ++ mx.toList) → y.bind (opA env) ≠ none := fun y ⟨z, hy, hz⟩ hn => by
    subst hy
    have hsome : ∀ (l : List Operand), (opAs env l).isSome = true → ∀ z ∈ l, opA env z ≠ none := by
      intro l
      induction l with
      | nil => intro _ z hz; cases hz
      | cons q r ih =>
        intro hl z hz he
        simp only [opAs] at hl
        split at hl
        · rename_i a as h1 h2
          rcases List.mem_cons.1 hz with rfl | hz
          · rw [h1] at he; cases he
          · exact ih (by rw [h2]; rfl) z hz he
        · simp at hl
    exact hsome _ hall z hz hn
  have hlon : lo.bind (opA env) = none → lo = none := fun e => by
    cases lo with
    | none => rfl
    | some z => exact absurd e (habs (some z) ⟨z, rfl, by simp⟩)
  have hhin : hi.bind (opA env) = none → hi = none := fun e => by
    cases hi with
    | none => rfl
    | some z => exact absurd e (habs (some z) ⟨z, rfl, by simp⟩)
  have hmxn : mx.bind (opA env) = none → mx = none := fun e => by
    cases mx with
    | none => rfl
    | some z => exact absurd e (habs (some z) ⟨z, rfl, by simp⟩)
  have hlos : ∀ k q, lo.bind (opA env) = some (.v (.int k q)) → lo.map ρ = some (.int k q) := fun k q e => by
    cases lo with
    | none => cases e
    | some z => simp only [Option.map_some]; congr 1; exact vrel_v (hlo z rfl _ e)
  have hhis : ∀ k q, hi.bind (opA env) = some (.v (.int k q)) → hi.map ρ = some (.int k q) := fun k q e => by
    cases hi with
    | none => cases e
    | some z => simp only [Option.map_some]; congr 1; exact vrel_v (hhi z rfl _ e)
  have hmxs : ∀ k q, mx.bind (opA env) = some (.v (.int k q)) → mx.map ρ = some (.int k q) := fun k q e => by
    cases mx with
    | none => cases e
    | some z => simp only [Option.map_some]; congr 1; exact vrel_v (hmx z rfl _ e)
  generalize hxv : ρ x = xv at ha fin
  unfold sliceA at h
  split at h
  · rename_i z n k f
    split at h
    · rename_i hz e1 e2 e3
      have hz' := Nat.eq_of_beq_eq_true hz; subst hz'; subst h
      rw [hlon e1, hhin e2, hmxn e3] at fin
      cases ha with
      | rsNil _ _ _ _ bs hk => exact fin _ (by simp only [Option.map_none]; rw [run_slice_all w t bs 0 0 ht, hsz]; rfl) (sliced_nil rfl rfl rfl hk)
      | rs _ _ _ _ _ c off cap g1 g2 g3 g4 =>
        refine fin _ (by simp only [Option.map_none]; rw [run_slice_all w t _ n cap ht, hsz]; rfl) ?_
        have := sliced_rs (η := η) (k' := k) (l := 0) (h := n) (m := cap) g1 g3 g4 (Nat.zero_le _) (Nat.le_refl _) g1 (fun q hq => by have := g2 q hq; omega)
        simpa using this
    · rename_i kq q hz e1 e2 e3
      have hz' := Nat.eq_of_beq_eq_true hz; subst hz'
      obtain ⟨b0, b1, rfl⟩ := h
      rw [hlos _ _ e1, hhin e2, hmxn e3] at fin
      cases ha with
      | rsNil _ _ _ _ bs hk => exact fin _ (by simp only [Option.map_none]; rw [run_slice_l w t bs 0 0 ht _ _ b0 b1, hsz]; rfl) (sliced_nil (l := q.toNat) rfl (by simp at b1; omega) rfl (fun q hq => by cases hq))
      | rs _ _ _ _ _ c off cap g1 g2 g3 g4 =>
        exact fin _ (by simp only [Option.map_none]; rw [run_slice_l w t _ n cap ht _ _ b0 b1, hsz]; rfl) (sliced_rs g1 g3 g4 (by omega) (Nat.le_refl _) g1 (fun q hq => by cases hq))
    · rename_i kq q hz e1 e2 e3
      have hz' := Nat.eq_of_beq_eq_true hz; subst hz'
      obtain ⟨b0, b1, rfl⟩ := h
      rw [hlon e1, hhis _ _ e2, hmxn e3] at fin
      cases ha with
      | rsNil _ _ _ _ bs hk => exact fin _ (by simp only [Option.map_none]; rw [run_slice_h w t bs 0 0 ht _ _ b0 b1, hsz]; rfl) (by have := sliced_nil (w := w) (O := Own O0 η Ĥ) (η := η) (base := bs) (sz := z) (l := 0) (m := 0) (k' := none) (f := f) (show q.toNat = 0 from (by simp at b1; omega)) rfl rfl (fun q hq => by cases hq); simpa using this)
      | rs _ _ _ _ _ c off cap g1 g2 g3 g4 =>
        refine fin _ (by simp only [Option.map_none]; rw [run_slice_h w t _ n cap ht _ _ b0 (by omega), hsz]; rfl) ?_
        have := sliced_rs (η := η) (k' := none) (l := 0) (h := q.toNat) (m := cap) g1 g3 g4 (Nat.zero_le _) (by omega) (by omega) (fun q hq => by cases hq)
        simpa using this
    · rename_i kl ql kq q hz e1 e2 e3
      have hz' := Nat.eq_of_beq_eq_true hz; subst hz'
      obtain ⟨b0, b1, b2, rfl⟩ := h
      rw [hlos _ _ e1, hhis _ _ e2, hmxn e3] at fin
      cases ha with
      | rsNil _ _ _ _ bs hk => exact fin _ (by simp only [Option.map_none]; rw [run_slice_lh w t bs 0 0 ht _ _ _ _ b0 b1 b2, hsz]; rfl) (sliced_nil (by simp at b2; omega) (by simp at b2; omega) rfl (fun q hq => by cases hq))
      | rs _ _ _ _ _ c off cap g1 g2 g3 g4 =>
        exact fin _ (by simp only [Option.map_none]; rw [run_slice_lh w t _ n cap ht _ _ _ _ b0 b1 (by omega), hsz]; rfl) (sliced_rs g1 g3 g4 (by omega) (by omega) (by omega) (fun q hq => by cases hq))
    · rename_i kq q km qm hz e1 e2 e3
      have hz' := Nat.eq_of_beq_eq_true hz; subst hz'
      obtain ⟨b0, b1, b2, rfl⟩ := h
      rw [hlon e1, hhis _ _ e2, hmxs _ _ e3] at fin
      cases ha with
      | rsNil _ _ _ _ bs hk => exact fin _ (by simp only [Option.map_none]; rw [run_slice_hm w t bs 0 0 ht _ _ _ _ b0 b1 b2, hsz]; rfl) (by
          have := sliced_nil (w := w) (O := Own O0 η Ĥ) (η := η) (base := bs) (sz := z) (l := 0) (f := f) (show q.toNat = 0 from (by simp at b2; omega)) rfl (show qm.toNat = 0 from (by simp at b2; omega)) (k' := some qm.toNat) (fun q hq => by simp at hq b2; omega)
          simpa using this)
      | rs _ _ _ _ _ c off cap g1 g2 g3 g4 =>
        refine fin _ (by simp only [Option.map_none]; rw [run_slice_hm w t _ n cap ht _ _ _ _ b0 b1 (by omega), hsz]; rfl) ?_
        have := sliced_rs (η := η) (k' := some qm.toNat) (l := 0) (h := q.toNat) (m := qm.toNat) g1 g3 g4 (Nat.zero_le _) (by omega) (by omega) (fun q hq => by simpa using hq)
        simpa using this
    · exact h.elim
  · rename_i z b of n
    have hnil : ∀ (base : Option Addr) (l h : Nat) (o' : Nat), l = 0 → h = 0 → VRel w (Own O0 η Ĥ) η (.sl z b o' (h - l)) (sliced base l h 0 z) := fun base l h o' hl hh => by
      subst hl; subst hh
      simpa [sliced] using VRel.slN (w := w) (O := Own O0 η Ĥ) η z b o' base
    have hcut : ∀ (c N cap l h : Nat), η b = some (c, N) → h ≤ cap → cap ≤ maxLen → (of + cap) * z = N → l ≤ h → VRel w (Own O0 η Ĥ) η (.sl z b (of + l) (h - l)) (sliced (some ⟨c, of * z, none⟩) l h cap z) := fun c N cap l h g1 g2 g3 g4 hl => by
      unfold sliced
      split
      · rename_i e
        have e1 : h - l = 0 := by omega
        have e2 : cap - l = 0 := by omega
        rw [e1, e2]
        exact .slN _ _ _ _ _
      · simp only [Option.map_some, Addr.add_lit, ← Nat.add_mul]
        exact .sl _ _ _ _ _ c N _ g1 (by omega) (by omega) (by rw [← g4]; congr 1; omega)
    split at h
    · rename_i hz e1 e2 e3
      have hz' := Nat.eq_of_beq_eq_true hz; subst hz'; subst h
      rw [hlon e1, hhin e2, hmxn e3] at fin
      have ha0 := ha
      cases ha with
      | sl _ _ _ _ _ c N cap g1 g2 g3 g4 =>
        refine fin _ (by simp only [Option.map_none]; rw [run_slice_all w t _ n cap ht, hsz]; rfl) ?_
        simpa [sliced, Addr.add_zero'] using ha0
      | slN _ _ _ _ bs => exact fin _ (by simp only [Option.map_none]; rw [run_slice_all w t bs 0 0 ht, hsz]; rfl) (hnil bs 0 0 of rfl rfl)
    · rename_i kq q hz e1 e2 e3
      have hz' := Nat.eq_of_beq_eq_true hz; subst hz'
      obtain ⟨b0, b1, rfl⟩ := h
      rw [hlon e1, hhis _ _ e2, hmxn e3] at fin
      cases ha with
      | sl _ _ _ _ _ c N cap g1 g2 g3 g4 =>
        refine fin _ (by simp only [Option.map_none]; rw [run_slice_h w t _ n cap ht _ _ b0 (by omega), hsz]; rfl) ?_
        have := VRel.sl (w := w) (O := Own O0 η Ĥ) η z b of q.toNat c N cap g1 (by omega) g3 g4
        simpa [sliced, Addr.add_zero'] using this
      | slN _ _ _ _ bs => exact fin _ (by simp only [Option.map_none]; rw [run_slice_h w t bs 0 0 ht _ _ b0 b1, hsz]; rfl) (by have := hnil bs 0 q.toNat of rfl (by simp at b1; omega); simpa using this)
    · rename_i kq q hz e1 e2 e3
      have hz' := Nat.eq_of_beq_eq_true hz; subst hz'
      obtain ⟨b0, b1, rfl⟩ := h
      rw [hlos _ _ e1, hhin e2, hmxn e3] at fin
      cases ha with
      | sl _ _ _ _ _ c N cap g1 g2 g3 g4 =>
        exact fin _ (by simp only [Option.map_none]; rw [run_slice_l w t _ n cap ht _ _ b0 b1, hsz]; rfl) (hcut c N cap q.toNat n g1 g2 g3 g4 (by omega))
      | slN _ _ _ _ bs => exact fin _ (by simp only [Option.map_none]; rw [run_slice_l w t bs 0 0 ht _ _ b0 b1, hsz]; rfl) (hnil bs q.toNat 0 _ (by simp at b1; omega) rfl)
    · rename_i kl ql kq q hz e1 e2 e3
      have hz' := Nat.eq_of_beq_eq_true hz; subst hz'
      obtain ⟨b0, b1, b2, rfl⟩ := h
      rw [hlos _ _ e1, hhis _ _ e2, hmxn e3] at fin
      cases ha with
      | sl _ _ _ _ _ c N cap g1 g2 g3 g4 =>
        exact fin _ (by simp only [Option.map_none]; rw [run_slice_lh w t _ n cap ht _ _ _ _ b0 b1 (by omega), hsz]; rfl) (hcut c N cap ql.toNat q.toNat g1 (by omega) g3 g4 (by omega))
      | slN _ _ _ _ bs => exact fin _ (by simp only [Option.map_none]; rw [run_slice_lh w t bs 0 0 ht _ _ _ _ b0 b1 b2, hsz]; rfl) (hnil bs ql.toNat q.toNat _ (by simp at b2; omega) (by simp at b2; omega))
    · exact h.elim
  · exact h.elim

theorem sound_sliceArr {t e : TypeId} {x : Operand} {sz n b : Nat} {l : List AV} (ho : o.op = .slice t x none none none) (hu : P.underlying t = some (.array n e)) (hs : sizeT P e = some sz) (ha : VRel w (Own O0 η Ĥ) η (.ptr b 0) (ρ x)) (hb : Ĥ b = some (.cells l)) (hl : n * sz = l.length) (hn : n ≤ 10000) (hH : HRel O0 η Ĥ w) :
    Goes P o ρ w (Res O0 η Ĥ next w (.sl sz b 0 n) [] next) := by
  generalize hxv : ρ x = xv at ha
  cases ha with
  | ptr _ _ _ c N he =>
  obtain ⟨h2, h3⟩ := hH.real hb he
  obtain ⟨xs, T, g1, g2, g3, g4⟩ := blk_cells (k := .cells l) h3
  have hN : (0 + n) * sz = N := by have := g3.length; rw [Nat.zero_add]; omega
  have hv := VRel.sl (w := w) (O := Own O0 η Ĥ) η sz b 0 n c N n he (Nat.le_refl _) (by simp only [maxLen]; omega) hN
  refine goes_value (s := Instr.sliceAt t (ρ x) none none none) (x := .slice (some ⟨c, 0, none⟩) n n) (w' := w) (by simp only [execOp, ho, Option.map_none]) ?_ (Res.same hH (by simpa using hv))
  rw [hxv]
  simp [Instr.sliceAt, run_underlying hu, Instr.sureAddr, Instr.sliceBounds, run_sizeOf hs, Addr.add_zero']

/-! ### calls of builtins -/
theorem goes_builtin {b : Builtin} {as ts : _} {x : Value} {w' : World} {R : Value → World → Prop} (s : Sem Value) (ho : o.op = .call { callee := .builtin b, args := as, argTypes := ts }) (hb : ∀ cs : Array Bool, builtin b ts o.type cs (as.map ρ) = (do pure (.value (← s)))) (hr : s.run P w = .ok x w') (h : R x w') : Goes P o ρ w R := by
  unfold Goes
  simp only [execOp, ho, resolve, Sem.run_bind, Sem.run_pure, Result.andThen_ok, invoke, hb, hr]
  simpa using h

theorem sound_len {as : Array Operand} {x : Operand} {t : TypeId} {a : AV} {n : Nat} (ho : o.op = .call { callee := .builtin .len, args := #[x], argTypes := #[t] }) (ha : VRel w (Own O0 η Ĥ) η a (ρ x))
    (h : (∃ e, P.underlying t = some (.slice e) ∧ ((∃ sz k f, a = .rs sz n k f) ∨ (∃ sz b of, a = .sl sz b of n) ∨ (a = .v (.slice none 0 0) ∧ n = 0))) ∨ (P.underlying t = some .string ∧ ∃ s : ByteArray, a = .v (.string s) ∧ n = s.size)) (hH : HRel O0 η Ĥ w) :
    Goes P o ρ w (Res O0 η Ĥ next w (.v (.int .i64 (n : Int))) [] next) := by
  refine goes_builtin (Builtin.len_ #[t] o.type #[ρ x]) ho (fun cs => by simp [builtin]) (x := .int .i64 (n : Int)) (w' := w) ?_ (res_v hH _)
  generalize ρ x = xv at ha
  rcases h with ⟨e, hu, ⟨sz, k, f, rfl⟩ | ⟨sz, b, of, rfl⟩ | ⟨rfl, rfl⟩⟩ | ⟨hu, s, rfl, rfl⟩
  · cases ha <;> simp [Builtin.len_, run_underlying hu, goInt]
  · cases ha <;> simp [Builtin.len_, run_underlying hu, goInt]
  · cases vrel_v ha; simp [Builtin.len_, run_underlying hu, goInt]
  · cases vrel_v ha; simp [Builtin.len_, run_underlying hu, goInt]

theorem ite_max (a b : Int) : (if b > a then b else a) = max a b := by simp only [Int.max_def]; split <;> split <;> omega
theorem ite_min (a b : Int) : (if b < a then b else a) = min a b := by simp only [Int.min_def]; split <;> split <;> omega
theorem fold_max : ∀ {l : List AV} {xs : List Value} {k : IntKind} {a n : Int} {O : Nat → Prop}, foldA (fun x y => max x y) a l = some n → VRels w O η l xs → (xs.foldlM Builtin.max2 (.int k a)).run P w = .ok (.int k n) w
  | [], _, k, a, n, _, h, .nil _ => by simp only [foldA, Option.some.injEq] at h; subst h; simp
  | b :: r, _, k, a, n, _, h, .cons _ _ x _ xs h1 h2 => by
    unfold foldA at h
    split at h
    · cases ‹_ :: _ = []›
    · rename_i e
      simp only [List.cons.injEq] at e
      obtain ⟨rfl, rfl⟩ := e
      cases vrel_v h1
      have := fold_max (k := k) h h2
      simp only [List.foldlM_cons, Sem.run_bind, Builtin.max2, Sem.run_pure, Result.andThen_ok]
      rw [ite_max]; exact this
    · cases h
theorem fold_min : ∀ {l : List AV} {xs : List Value} {k : IntKind} {a n : Int} {O : Nat → Prop}, foldA (fun x y => min x y) a l = some n → VRels w O η l xs → (xs.foldlM Builtin.min2 (.int k a)).run P w = .ok (.int k n) w
  | [], _, k, a, n, _, h, .nil _ => by simp only [foldA, Option.some.injEq] at h; subst h; simp
  | b :: r, _, k, a, n, _, h, .cons _ _ x _ xs h1 h2 => by
    unfold foldA at h
    split at h
    · cases ‹_ :: _ = []›
    · rename_i e
      simp only [List.cons.injEq] at e
      obtain ⟨rfl, rfl⟩ := e
      cases vrel_v h1
      have := fold_min (k := k) h h2
      simp only [List.foldlM_cons, Sem.run_bind, Builtin.min2, Sem.run_pure, Result.andThen_ok]
      rw [ite_min]; exact this
    · cases h

theorem sound_max {as : Array Operand} {ts : Array TypeId} {l : List AV} {k : IntKind} {n : Int} (ho : o.op = .call { callee := .builtin .max, args := as, argTypes := ts }) (ha : VRels w (Own O0 η Ĥ) η l (as.toList.map ρ)) (h : maxA l = some (k, n)) (hH : HRel O0 η Ĥ w) :
    Goes P o ρ w (Res O0 η Ĥ next w (.v (.int k n)) [] next) := by
  refine goes_builtin (Builtin.max_ ts o.type (as.map ρ)) ho (fun cs => by simp [builtin]) (x := .int k n) (w' := w) ?_ (res_v hH _)
  unfold maxA at h
  split at h
  · rename_i k' a r
    split at h
    · rename_i m hm
      simp only [Option.some.injEq, Prod.mk.injEq] at h
      obtain ⟨rfl, rfl⟩ := h
      generalize hys : as.toList.map ρ = ys at ha
      cases ha with
      | cons _ _ x _ xs h1 h2 =>
      cases vrel_v h1
      simp only [Builtin.max_, Array.toList_map, hys]
      exact fold_max hm h2
    · cases h
  · cases h
theorem sound_min {as : Array Operand} {ts : Array TypeId} {l : List AV} {k : IntKind} {n : Int} (ho : o.op = .call { callee := .builtin .min, args := as, argTypes := ts }) (ha : VRels w (Own O0 η Ĥ) η l (as.toList.map ρ)) (h : minA l = some (k, n)) (hH : HRel O0 η Ĥ w) :
    Goes P o ρ w (Res O0 η Ĥ next w (.v (.int k n)) [] next) := by
  refine goes_builtin (Builtin.min_ ts o.type (as.map ρ)) ho (fun cs => by simp [builtin]) (x := .int k n) (w' := w) ?_ (res_v hH _)
  unfold minA at h
  split at h
  · rename_i k' a r
    split at h
    · rename_i m hm
      simp only [Option.some.injEq, Prod.mk.injEq] at h
      obtain ⟨rfl, rfl⟩ := h
      generalize hys : as.toList.map ρ = ys at ha
      cases ha with
      | cons _ _ x _ xs h1 h2 =>
      cases vrel_v h1
      simp only [Builtin.min_, Array.toList_map, hys]
      exact fold_min hm h2
    · cases h
  · cases h
end
end Go.Ev
