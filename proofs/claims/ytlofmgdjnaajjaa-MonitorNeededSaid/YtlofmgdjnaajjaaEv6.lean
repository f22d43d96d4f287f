/- Own text: equality, arithmetic. -/
import Derived.Test.YtlofmgdjnaajjaaEv5
import Derived.ChangeKeysEq
namespace Go.Ev
open Go Go.RowKit
set_option linter.unusedVariables false
set_option linter.unusedSimpArgs false
section
variable {P : Program} {O0 : Nat → Prop} {η : Eta} {H Ĥ : Nat → Option Blk} {w : World} {ρ : Operand → Value} {env : Env} {next : Nat} {o : Oper} {v : AV} {u : Heap} {n' : Nat}

theorem kindEq_eq {k k' : IntKind} (h : kindEq k k' = true) : k = k' := by simpa [kindEq] using h

theorem beq_bytes (a b : ByteArray) : (a == b) = (a.toList == b.toList) := beq_toListBytes a b

mutual
theorem eqV_run {O : Nat → Prop} : ∀ {d : Nat} {t : TypeId} {a b : AV} {r : Bool}, eqV P d t a b = some r → ∀ {x y : Value}, VRel w O η a x → VRel w O η b y → ∀ D, d ≤ D → (Op.equalIn D t x y).run P w = .ok r w
  | 0, t, a, b, r, h, x, y, hx, hy, D, hD => by simp [eqV] at h
  | d + 1, t, a, b, r, h, x, y, hx, hy, D, hD => by
    obtain ⟨D, rfl⟩ : ∃ m, D = m + 1 := ⟨D - 1, by omega⟩
    rw [eqV.eq_def] at h
    dsimp only at h
    split at h
    · rename_i hu
      cases vrel_v hx; cases vrel_v hy
      simp only [Option.some.injEq] at h; subst h
      exact run_equalIn_bool' w D t _ _ hu
    · rename_i k0 k m k' n hu
      cases vrel_v hx; cases vrel_v hy
      split at h
      · rename_i hk
        cases kindEq_eq hk
        simp only [Option.some.injEq] at h; subst h
        exact run_equalIn_int w D t k k0 _ _ hu
      · cases h
    · rename_i hu
      cases vrel_v hx; cases vrel_v hy
      simp only [Option.some.injEq] at h; subst h
      rw [beq_bytes]
      exact run_equalIn_string w D t _ _ hu
    · rename_i fs xs ys hu
      obtain ⟨xs', rfl, hx1, hx2⟩ := vrel_agg hx
      obtain ⟨ys', rfl, hy1, hy2⟩ := vrel_agg hy
      split at h
      · rename_i hp
        have hf : P.fieldsOf t = fs := by simp [Program.fieldsOf, hu]
        rw [run_equalIn_struct w D t _ _ (by rw [hf]; exact hu) hp, hf]
        exact eqFs_run h hx1 hx2 hy1 hy2 D (by omega)
      · cases h
    · rename_i n e xs ys hu
      obtain ⟨xs', rfl, hx1, hx2⟩ := vrel_agg hx
      obtain ⟨ys', rfl, hy1, hy2⟩ := vrel_agg hy
      split at h
      · rename_i z hz
        unfold sizeT at hz
        split at hz
        · rename_i i hi
          simp only [Option.some.injEq] at hz
          rw [run_equalIn_array w D _ _ hu hi]
          have hc : P.cellsOf e = z := by simp [Program.cellsOf, hi, hz]
          rw [hc, List.range_eq_range']
          exact eqEs_run h hx1 hx2 hy1 hy2 D (by omega)
        · cases hz
      · cases h
    · cases h
theorem eqFs_run {O : Nat → Prop} : ∀ {d : Nat} {fs : List Field} {xs ys : List AV} {r : Bool}, eqFs P d fs xs ys = some r → ∀ {x y : List Value}, VRels w O η xs x → (∀ u ∈ x, u.oneCell' = true) → VRels w O η ys y → (∀ u ∈ y, u.oneCell' = true) → ∀ D, d ≤ D →
    (Op.eqFields D x.toArray y.toArray fs).run P w = .ok r w
  | 0, _, _, _, _, h, _, _, _, _, _, _, _, _ => by simp [eqFs] at h
  | d + 1, [], _, _, r, h, _, _, _, _, _, _, D, hD => by
    rw [eqFs] at h
    simp only [Option.some.injEq] at h; subst h
    simp [Op.eqFields]
  | d + 1, f :: fs, xs, ys, r, h, x, y, h1, h2, h3, h4, D, hD => by
    rw [eqFs] at h
    split at h
    · rename_i hn
      have hn' : f.name = "_" := by simpa using hn
      have := eqFs_run h h1 h2 h3 h4 D (by omega)
      simp [Op.eqFields, hn', this]
    · rename_i hn
      have hn' : f.name ≠ "_" := by simpa using hn
      split at h
      · rename_i a b ha hb
        split at h
        · rename_i r1 q1 hr hq
          simp only [Option.some.injEq] at h; subst h
          obtain ⟨u1, g1, g2⟩ := partA_rel ha h1 h2
          obtain ⟨u2, g3, g4⟩ := partA_rel hb h3 h4
          have e1 := eqV_run hr g2 g4 D (by omega)
          have e2 := eqFs_run hq h1 h2 h3 h4 D (by omega)
          simp only [Op.eqFields, ne_eq, hn', not_false_eq_true, if_true, Sem.run_bind, g1, g3, e1, Result.andThen_ok]
          cases r1
          · simp
          · simpa using e2
        · cases h
      · cases h
theorem eqEs_run {O : Nat → Prop} : ∀ {d : Nat} {e : TypeId} {z n i : Nat} {xs ys : List AV} {r : Bool}, eqEs P d e z n i xs ys = some r → ∀ {x y : List Value}, VRels w O η xs x → (∀ u ∈ x, u.oneCell' = true) → VRels w O η ys y → (∀ u ∈ y, u.oneCell' = true) → ∀ D, d ≤ D →
    (Op.eqItems D e z x.toArray y.toArray (List.range' i n)).run P w = .ok r w
  | 0, _, _, _, _, _, _, _, h, _, _, _, _, _, _, _, _ => by simp [eqEs] at h
  | d + 1, e, z, 0, i, _, _, r, h, _, _, _, _, _, _, D, hD => by
    rw [eqEs] at h
    simp only [Option.some.injEq] at h; subst h
    simp [Op.eqItems]
  | d + 1, e, z, n + 1, i, xs, ys, r, h, x, y, h1, h2, h3, h4, D, hD => by
    rw [eqEs] at h
    split at h
    · rename_i a b ha hb
      split at h
      · rename_i r1 q1 hr hq
        simp only [Option.some.injEq] at h; subst h
        obtain ⟨u1, g1, g2⟩ := partA_rel ha h1 h2
        obtain ⟨u2, g3, g4⟩ := partA_rel hb h3 h4
        have e1 := eqV_run hr g2 g4 D (by omega)
        have e2 := eqEs_run hq h1 h2 h3 h4 D (by omega)
        simp only [List.range'_succ, Op.eqItems, Sem.run_bind, g1, g3, e1, Result.andThen_ok]
        cases r1
        · simp
        · simpa using e2
      · cases h
    · cases h
end

theorem sound_bin {op : BinOp} {t yt : TypeId} {x y : Operand} {a b : AV} {r : Value} (ho : o.op = .binOp op t x y yt) (ha : VRel w (Own O0 η Ĥ) η a (ρ x)) (hb : VRel w (Own O0 η Ĥ) η b (ρ y)) (h : binA P op t a b (fun z => z = r)) (hH : HRel O0 η Ĥ w) :
    Goes P o ρ w (Res O0 η Ĥ next w (.v r) [] next) := by
  refine goes_value (s := do eqGuard op t x y (ρ x) (ρ y); binOp op t (ρ x) (ρ y)) (x := r) (w' := w) (by simp only [execOp, ho]) ?_ (res_v hH r)
  generalize ρ x = xv at ha
  generalize ρ y = yv at hb
  unfold binA at h
  split at h
  · cases vrel_v ha; cases vrel_v hb
    split at h
    · simp [eqGuard_shl, shl_run h]
    · simp [eqGuard_shr, shl_run h]
    · split at h
      · rename_i hk
        cases kindEq_eq hk
        rename_i h1 h2 _
        simp [eqGuard_at_int, binI_run ⟨fun e => h1 e, fun e => h2 e⟩ h]
      · exact h.elim
  · cases vrel_v ha; cases vrel_v hb
    split at h
    · rename_i hu
      subst h
      simp [eqGuard_at_bool, binOp, Op.equal, Op.maxDepth, run_equalIn_bool' w 9999 t _ _ hu]
    · rename_i hu
      subst h
      simp [eqGuard_at_bool, binOp, Op.equal, Op.maxDepth, run_equalIn_bool' w 9999 t _ _ hu]
      cases ‹Bool› <;> cases ‹Bool› <;> rfl
    · exact h.elim
  · cases vrel_v ha; cases vrel_v hb
    split at h
    · subst h; simp [eqGuard_at_string, binOp, Op.stringOp, beq_bytes]
    · subst h; simp [eqGuard_at_string, binOp, Op.stringOp, beq_bytes, bne]
    · exact h.elim
  · rename_i xs ys
    split at h
    · rename_i r0 hg hv
      have e := eqV_run hv ha hb 10000 (by omega)
      obtain ⟨xs', rfl, _, _⟩ := vrel_agg ha
      obtain ⟨ys', rfl, _, _⟩ := vrel_agg hb
      subst h
      simp [run_eqGuard_agg w _ t x y _ _ hg, run_eql_struct, e]
    · rename_i r0 hg hv
      have e := eqV_run hv ha hb 10000 (by omega)
      obtain ⟨xs', rfl, _, _⟩ := vrel_agg ha
      obtain ⟨ys', rfl, _, _⟩ := vrel_agg hb
      subst h
      simp [run_eqGuard_agg w _ t x y _ _ hg, run_neq_struct, e]
    · exact h.elim
  · exact h.elim

theorem sound_un {op : UnOp} {t : TypeId} {x : Operand} {a : AV} {r : Value} (ho : o.op = .unOp op t x) (ha : VRel w (Own O0 η Ĥ) η a (ρ x)) (h : unA op a (fun z => z = r)) (hH : HRel O0 η Ĥ w) :
    Goes P o ρ w (Res O0 η Ĥ next w (.v r) [] next) := by
  refine goes_value (s := Op.unary op (ρ x)) (x := r) (w' := w) (by simp only [execOp, ho]) ?_ (res_v hH r)
  generalize ρ x = xv at ha
  unfold unA at h
  split at h
  · cases vrel_v ha; subst h; simp [Op.unary]
  · cases vrel_v ha; subst h; simp [Op.unary, Op.intArith]
  · cases vrel_v ha; subst h; simp [Op.unary, Op.intBits, intBitsV]
  · exact h.elim

theorem sound_conv {s d : TypeId} {x : Operand} {a : AV} {r : Value} (ho : o.op = .convert s d x) (ha : VRel w (Own O0 η Ĥ) η a (ρ x)) (h : convA P s d a (fun z => z = r)) (hH : HRel O0 η Ĥ w) :
    Goes P o ρ w (Res O0 η Ĥ next w (.v r) [] next) := by
  refine goes_value (s := convert s d (ρ x)) (x := r) (w' := w) (by simp only [execOp, ho]) ?_ (res_v hH r)
  generalize ρ x = xv at ha
  unfold convA at h
  split at h
  · rename_i hs hd
    cases vrel_v ha; subst h
    simp [convert, run_underlying hs, run_underlying hd, Conv.intToInt]
  · exact h.elim
end
end Go.Ev
