/- Own text: made values: structs, slices. -/
import Derived.Test.YtlofmgdjnaajjaaEv7
namespace Go.Ev
open Go Go.RowKit
set_option linter.unusedVariables false
set_option linter.unusedSimpArgs false
section
variable {P : Program} {O0 : Nat → Prop} {η : Eta} {H Ĥ : Nat → Option Blk} {w : World} {ρ : Operand → Value} {env : Env} {next : Nat} {o : Oper} {v : AV} {u : Heap} {n' : Nat}

theorem seg_step (cs : List Value) (k : Nat) (x : Value) (r : List Value) (h : k < cs.length) :
    (cs.set k x).take (k + 1) ++ (r ++ (cs.set k x).drop (k + 1 + r.length)) = cs.take k ++ ((x :: r) ++ cs.drop (k + (x :: r).length)) := by
  rw [List.take_succ_eq_append_getElem (by simpa using h)]
  simp only [List.getElem_set_self, List.length_cons, List.append_assoc, List.cons_append, List.nil_append]
  congr 1
  · exact List.take_set_of_le (Nat.le_refl k)
  · congr 2
    rw [List.drop_set_of_lt (by omega)]
    congr 1
    omega

theorem fold_set (off : Nat) : ∀ (vs : List Value) (k : Nat) (cells : Array Value), off + k + vs.length ≤ cells.size →
    ((vs.zipIdx k).foldl (fun (cs : Array Value) (p : Value × Nat) => cs.setIfInBounds (off + p.2) p.1) cells).toList = cells.toList.take (off + k) ++ (vs ++ cells.toList.drop (off + k + vs.length))
  | [], k, cells, h => by simp
  | x :: r, k, cells, h => by
    simp only [List.zipIdx_cons, List.foldl_cons]
    rw [fold_set off r (k + 1) _ (by simp at h ⊢; omega)]
    simp only [Array.toList_setIfInBounds]
    exact seg_step cells.toList (off + k) x r (by simp at h ⊢; omega)

theorem fill_one (off : Nat) (vs cells : Array Value) (h : off + vs.size ≤ cells.size) :
    (vs.zipIdx.foldl (fun cs (c, j) => cs.setIfInBounds (off + j) c) cells).toList = cells.toList.take off ++ (vs.toList ++ cells.toList.drop (off + vs.size)) := by
  have := fold_set off vs.toList 0 cells (by simpa using h)
  simp only [Nat.add_zero, Array.length_toList] at this
  rw [← this, ← Array.foldl_toList, Array.toList_zipIdx]

/-- Parts of an abstract value and of a value. -/
inductive PRel (w : World) (O : Nat → Prop) (η : Eta) : List (Nat × AV) → List (Nat × Value) → Prop
  | nil : PRel w O η [] []
  | cons (i : Nat) (a : AV) (y : Value) (l : List (Nat × AV)) (m : List (Nat × Value)) : VRel w O η a y → PRel w O η l m → PRel w O η ((i, a) :: l) ((i, y) :: m)

theorem partsA_prel {O : Nat → Prop} : ∀ {ps : List (Nat × Operand)} {l : List (Nat × AV)}, (∀ p ∈ ps, ∀ a, opA env p.2 = some a → VRel w O η a (ρ p.2)) → partsA env ps = some l → PRel w O η l (ps.map fun (i, x) => (i, ρ x))
  | [], l, _, h => by simp only [partsA, Option.some.injEq] at h; subst h; exact .nil
  | (i, x) :: r, l, hr, h => by
    simp only [partsA] at h
    split at h
    · rename_i a as ha has
      simp only [Option.some.injEq] at h
      subst h
      exact .cons _ _ _ _ _ (hr (i, x) (by simp) a ha) (partsA_prel (fun p hp => hr p (by simp [hp])) has)
    · cases h

theorem fillA_run {O : Nat → Prop} {place : Nat → Option (Nat × Nat)} : ∀ {l : List (Nat × AV)} {m : List (Nat × Value)} {cs cs' : List AV} {xs : Array Value}, PRel w O η l m → fillA place l cs = some cs' → VRels w O η cs xs.toList → (∀ u ∈ xs.toList, u.oneCell' = true) →
    ∃ xs' : Array Value, Instr.fill place xs m = some xs' ∧ VRels w O η cs' xs'.toList ∧ ∀ u ∈ xs'.toList, u.oneCell' = true
  | _, _, cs, cs', xs, .nil, h, h1, h2 => by
    simp only [fillA, Option.some.injEq] at h
    subst h
    exact ⟨xs, rfl, h1, h2⟩
  | _, _, cs, cs', xs, .cons i a y l m ha hl, h, h1, h2 => by
    simp only [fillA] at h
    split at h
    · rename_i off n hp
      split at h
      · rename_i hn hle hone
        have hn' := Nat.eq_of_beq_eq_true hn
        have hle' := Nat.le_of_ble_eq_true hle
        obtain ⟨k1, k2⟩ := cells_rel ha hone
        have hsz : y.cells.size = n := by have := k1.length; simp at this; omega
        have hlen := h1.length
        simp at hlen
        have hfit : off + y.cells.size ≤ xs.size := by omega
        have hnew := fill_one off y.cells xs hfit
        have hset := setAt_rel off h1 k1
        rw [Array.length_toList, ← hnew] at hset
        have hone' := take_one (xs := xs.toList) (ys := y.cells.toList) off (off + y.cells.size) h2 k2
        rw [← hnew] at hone'
        obtain ⟨xs', g1, g2, g3⟩ := fillA_run hl h hset hone'
        refine ⟨xs', ?_, g2, g3⟩
        simp only [Instr.fill, hp]
        rw [if_neg (by simp [hsz]; omega)]
        exact g1
      · cases h
    · cases h

theorem placesF_run : ∀ {fs : List Field} {l : List (Nat × Nat)}, placesF P fs = some l → fs.mapM (fun f => (P.info? f.type).map fun i => (f.offset, i.size)) = some l
  | [], l, h => by simp only [placesF, Option.some.injEq] at h; subst h; rfl
  | f :: r, l, h => by
    simp only [placesF] at h
    split at h
    · rename_i n l' hn hl
      simp only [Option.some.injEq] at h
      subst h
      unfold sizeT at hn
      split at hn
      · rename_i i hi
        simp only [Option.some.injEq] at hn
        simp [List.mapM_cons, hi, hn, placesF_run hl]
      · cases hn
    · cases h

theorem sound_build {t : TypeId} {ps : Array (Nat × Operand)} {z cs : List AV} {l : List (Nat × AV)} {pl : Nat → Option (Nat × Nat)} (ho : o.op = .build t ps) (hz : zeroT P t = some z) (hl : PRel w (Own O0 η Ĥ) η l (ps.toList.map fun (i, x) => (i, ρ x))) (hp : placeA P t = some pl) (hf : fillA pl l z = some cs) (hH : HRel O0 η Ĥ w) :
    Goes P o ρ w (Res O0 η Ĥ next w (.agg cs) [] next) := by
  obtain ⟨zv, _, hzz, hone, it, hit, hitz⟩ := run_zero (w := w) hz
  obtain ⟨xs', g1, g2, g3⟩ := fillA_run hl hf (by rw [hzz]; exact VRels.vs η _) hone
  have hb : P.built t (ps.toList.map fun (i, x) => (i, ρ x)) = some xs' := by
    unfold placeA at hp
    unfold Program.built
    split at hp
    · rename_i fs hu
      split at hp
      · rename_i pls hpls
        simp only [Option.some.injEq] at hp
        subst hp
        simp only [hit, hu, hitz, placesF_run hpls]
        simpa using g1
      · cases hp
    · rename_i n e hu
      split at hp
      · rename_i sz hsz
        simp only [Option.some.injEq] at hp
        subst hp
        unfold sizeT at hsz
        split at hsz
        · rename_i ie hie
          simp only [Option.some.injEq] at hsz
          simp only [hit, hu, hitz, hie, hsz]
          exact g1
        · cases hsz
      · cases hp
    · cases hp
  refine goes_value (s := Instr.build t (ps.map fun (i, x) => (i, ρ x))) (x := .agg xs') (w' := w) (by simp only [execOp, ho]) (run_build w t _ xs' (by simpa using hb)) (Res.same hH ?_)
  have := VRel.agg (w := w) (O := Own O0 η Ĥ) η cs xs'.toList g2 g3
  simpa using this
end
end Go.Ev
