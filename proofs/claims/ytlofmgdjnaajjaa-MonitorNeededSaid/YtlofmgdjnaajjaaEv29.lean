/- Own text: arguments that read as data are abstract values of their type's shape. -/
import Derived.Test.YtlofmgdjnaajjaaEv28
import Derived.OpenShut
import Derived.Deep.Slices
namespace Go.Ev
open Go Go.RowKit
set_option linter.unusedVariables false
set_option linter.unusedSimpArgs false

/-- The shape of a cell. -/
inductive Sh where
  | int (k : IntKind)
  | bool
  | str
  | slice (l : List Sh)
mutual
def okSh : Sh → AV → Prop
  | .int k, a => ∃ n, a = .v (.int k n) ∧ (Lit.int k n).wf = true
  | .bool, a => ∃ b, a = .v (.bool b)
  | .str, a => ∃ s : ByteArray, a = .v (.string s) ∧ s.size ≤ maxLen
  | .slice l, a => ∃ (n : Nat) (f : Nat → List AV), a = .rs l.length n none f ∧ n ≤ maxLen ∧ ∀ i, i < n → okShs l (f i)
def okShs : List Sh → List AV → Prop
  | [], as => as = []
  | s :: r, as => ∃ a as', as = a :: as' ∧ okSh s a ∧ okShs r as'
end
theorem okShs_append : ∀ {l l' : List Sh} {a a' : List AV}, okShs l a → okShs l' a' → okShs (l ++ l') (a ++ a')
  | [], _, _, _, h, h' => by simp only [okShs] at h; subst h; simpa using h'
  | s :: r, _, _, _, h, h' => by
    simp only [okShs] at h
    obtain ⟨x, xs, rfl, h1, h2⟩ := h
    simp only [List.cons_append, okShs]
    exact ⟨x, _, rfl, h1, okShs_append h2 h'⟩
theorem okShs_length : ∀ {l : List Sh} {a : List AV}, okShs l a → a.length = l.length
  | [], _, h => by simp only [okShs] at h; subst h; rfl
  | s :: r, _, h => by
    simp only [okShs] at h
    obtain ⟨x, xs, rfl, h1, h2⟩ := h
    simp [okShs_length h2]

section
variable (P : Program)
def shFs (g : TypeId → Option (List Sh)) : Nat → List Field → Option (List Sh)
  | _, [] => some []
  | off, f :: r => match g f.type with
    | some l => match Nat.beq f.offset off, Nat.beq (P.cellsOf f.type) l.length, shFs g (off + l.length) r with
      | true, true, some l' => some (l ++ l')
      | _, _, _ => none
    | none => none
def repL {α : Type} (l : List α) : Nat → List α
  | 0 => []
  | n + 1 => l ++ repL l n
/-- The shapes of the cells of a type. -/
def shT : Nat → TypeId → Option (List Sh)
  | 0, _ => none
  | d + 1, t => match P.underlying t with
    | some (.int k) => some [.int k]
    | some .bool => some [.bool]
    | some .string => some [.str]
    | some (.slice e) => match shT d e with
      | some l => match Nat.beq (P.cellsOf e) l.length, Nat.blt 0 l.length with
        | true, true => some [.slice l]
        | _, _ => none
      | none => none
    | some (.struct fs) => match shFs P (shT d) 0 fs.toList with
      | some l => match Nat.beq (P.cellsOf t) l.length with
        | true => some l
        | false => none
      | none => none
    | some (.array n e) => match shT d e with
      | some l => match Nat.beq (P.cellsOf e) l.length, Nat.beq (P.cellsOf t) (n * l.length) with
        | true, true => some (repL l n)
        | _, _ => none
      | none => none
    | _ => none
end

section
variable {P : Program} {w : World} {H : Type} {enc : TypeId × Value → H} {base : Nat} {held : Bool}

abbrev noOwn : Nat → Prop := fun _ => False
/-- Cells that read as data. -/
def Readable (P : Program) (w : World) (enc : TypeId × Value → H) (base : Nat) (held : Bool) (t : TypeId) (l : List Sh) : Prop :=
  ∀ fuel cs x, DataW.trod enc P w base (fun _ => true) held fuel t cs = some x → ∃ as, VRels w noOwn noEta as cs ∧ okShs l as ∧ ∀ u ∈ cs, u.oneCell' = true

theorem take_add_drop (cs : List Value) (off a b : Nat) : (cs.drop off).take (a + b) = (cs.drop off).take a ++ (cs.drop (off + a)).take b := by
  rw [List.take_add, List.drop_drop]

theorem read_fields {d : TypeId → Option (List Sh)} (hd : ∀ t l, d t = some l → Readable P w enc base held t l) {cs : List Value} {n : Nat} : ∀ {fs : List Field} {off : Nat} {l : List Sh},
    (∀ f ∈ fs, ∃ x, DataW.trod enc P w base (fun _ => true) held n f.type ((cs.drop f.offset).take (P.cellsOf f.type)) = some x) → shFs P d off fs = some l →
    ∃ as, VRels w noOwn noEta as ((cs.drop off).take l.length) ∧ okShs l as ∧ ∀ u ∈ (cs.drop off).take l.length, u.oneCell' = true
  | [], off, l, _, h => by
    simp only [shFs, Option.some.injEq] at h
    subst h
    exact ⟨[], by simpa using .nil _, rfl, by simp⟩
  | f :: r, off, l, hf, h => by
    simp only [shFs] at h
    split at h
    · rename_i lf hlf
      split at h
      · rename_i l' h1 h2 h3
        simp only [Option.some.injEq] at h
        subst h
        have e1 := Nat.eq_of_beq_eq_true h1
        have e2 := Nat.eq_of_beq_eq_true h2
        obtain ⟨x, hx⟩ := hf f List.mem_cons_self
        rw [e1, e2] at hx
        obtain ⟨as, g1, g2, g3⟩ := hd _ _ hlf _ _ _ hx
        obtain ⟨as', k1, k2, k3⟩ := read_fields hd (fun f hf' => hf f (List.mem_cons_of_mem _ hf')) h3
        refine ⟨as ++ as', ?_, okShs_append g2 k2, ?_⟩
        · rw [List.length_append, take_add_drop]
          exact g1.append k1
        · rw [List.length_append, take_add_drop]
          intro u hu
          rcases List.mem_append.1 hu with hu | hu
          · exact g3 u hu
          · exact k3 u hu
      · cases h
    · cases h

theorem read_elems {e : TypeId} {l : List Sh} (hd : Readable P w enc base held e l) {cs : List Value} {m : Nat} {n : Nat} (hf : ∀ i, i < n → ∃ x, DataW.trod enc P w base (fun _ => true) held m e ((cs.drop (i * l.length)).take l.length) = some x) : ∀ k i, i + k = n →
    ∃ as, VRels w noOwn noEta as ((cs.drop (i * l.length)).take (k * l.length)) ∧ okShs (repL l k) as ∧ ∀ u ∈ (cs.drop (i * l.length)).take (k * l.length), u.oneCell' = true
  | 0, i, _ => ⟨[], by simpa using .nil _, rfl, by simp⟩
  | k + 1, i, h => by
    obtain ⟨x, hx⟩ := hf i (by omega)
    obtain ⟨as, g1, g2, g3⟩ := hd _ _ _ hx
    obtain ⟨as', k1, k2, k3⟩ := read_elems hd hf k (i + 1) (by omega)
    have e : (cs.drop (i * l.length)).take ((k + 1) * l.length) = (cs.drop (i * l.length)).take l.length ++ (cs.drop ((i + 1) * l.length)).take (k * l.length) := by
      rw [show (k + 1) * l.length = l.length + k * l.length by rw [Nat.add_mul]; omega, take_add_drop, show (i + 1) * l.length = i * l.length + l.length by rw [Nat.add_mul]; omega]
    refine ⟨as ++ as', by rw [e]; exact g1.append k1, okShs_append g2 k2, ?_⟩
    rw [e]
    intro u hu
    rcases List.mem_append.1 hu with hu | hu
    · exact g3 u hu
    · exact k3 u hu

theorem repL_length {α : Type} (l : List α) : ∀ n, (repL l n).length = n * l.length
  | 0 => by simp [repL]
  | n + 1 => by simp only [repL, List.length_append, repL_length l n, Nat.add_mul]; omega

theorem readable : ∀ (d : Nat) (t : TypeId) (l : List Sh), shT P d t = some l → Readable P w enc base held t l
  | 0, t, l, h => by cases h
  | d + 1, t, l, h => by
    intro fuel cs x hx
    simp only [shT] at h
    split at h
    · rename_i k hu
      simp only [Option.some.injEq] at h; subst h
      obtain ⟨n, rfl, _, hw⟩ := DataW.trod_int hu hx
      exact ⟨[.v (.int k n)], .cons _ _ _ _ _ (.v _ _) (.nil _), ⟨_, _, rfl, ⟨n, rfl, hw⟩, rfl⟩, by simp [Value.oneCell']⟩
    · rename_i hu
      simp only [Option.some.injEq] at h; subst h
      obtain ⟨b, rfl, _⟩ := DataW.trod_bool hu hx
      exact ⟨[.v (.bool b)], .cons _ _ _ _ _ (.v _ _) (.nil _), ⟨_, _, rfl, ⟨b, rfl⟩, rfl⟩, by simp [Value.oneCell']⟩
    · rename_i hu
      simp only [Option.some.injEq] at h; subst h
      obtain ⟨s, rfl, _, hs⟩ := DataW.trod_string hu hx
      exact ⟨[.v (.string s)], .cons _ _ _ _ _ (.v _ _) (.nil _), ⟨_, _, rfl, ⟨s, rfl, hs⟩, rfl⟩, by simp [Value.oneCell']⟩
    · rename_i e hu
      split at h
      · rename_i le hle
        split at h
        · rename_i hsz hpos
          simp only [Option.some.injEq] at h; subst h
          have hsz := Nat.eq_of_beq_eq_true hsz
          have hpos := blt_lt hpos
          have hd := readable d e le hle
          rcases Go.Deep.open_slice hu hx with ⟨rfl, _⟩ | ⟨⟨blk, off, spot⟩, len, cap, m, n, D, Pl, rfl, hb, hl, hm, hmm, _, hi⟩
          · exact ⟨[.rs le.length 0 none (fun _ => [])], .cons _ _ _ _ _ (.rsNil _ _ _ _ _ (fun m hm => by cases hm)) (.nil _), ⟨_, _, rfl, ⟨0, _, rfl, Nat.zero_le _, fun i hi => absurd hi (Nat.not_lt_zero i)⟩, rfl⟩, by simp [Value.oneCell']⟩
          · simp only [if_true] at hmm
            subst hmm
            rcases Nat.eq_zero_or_pos m with rfl | hcap
            · obtain rfl : len = 0 := by omega
              exact ⟨[.rs le.length 0 none (fun _ => [])], .cons _ _ _ _ _ (.rsNil _ _ _ _ _ (fun m hm => by cases hm)) (.nil _), ⟨_, _, rfl, ⟨0, _, rfl, Nat.zero_le _, fun i hi => absurd hi (Nat.not_lt_zero i)⟩, rfl⟩, by simp [Value.oneCell']⟩
            · have hspot : spot = none := by
                obtain ⟨cs', hc, ht'⟩ := hi 0 hcap
                obtain ⟨_, hcl, hcell⟩ := World.cells?_some hc
                have h0 := hcell 0 (by omega)
                have hs : cs'[0]?.isSome = true := by simp; omega
                rw [← h0] at hs
                simp only [Nat.zero_mul, Addr.add_zero'] at hs
                unfold World.cell? at hs
                cases spot with
                | none => rfl
                | some q => simp at hs; split at hs <;> simp at hs
              subst hspot
              have hex : ∀ i : Nat, ∃ as : List AV, i < len → okShs le as ∧ VRow w noOwn blk (off + i * le.length) as := by
                intro i
                by_cases hlt : i < len
                · obtain ⟨cs', hc, ht'⟩ := hi i (by omega)
                  obtain ⟨as, g1, g2, g3⟩ := hd _ _ _ ht'
                  obtain ⟨_, hcl, hcell⟩ := World.cells?_some hc
                  refine ⟨as, fun _ => ⟨g2, row_of g1 g3 fun j u hj => ⟨?_, id⟩⟩⟩
                  have hjl : j < P.cellsOf e := by have := (List.getElem?_eq_some_iff.1 hj).1; omega
                  have h0 := hcell j hjl
                  rw [hj, Addr.add_lit, Addr.add_lit, hsz] at h0
                  exact h0
                · exact ⟨[], fun h => absurd h hlt⟩
              obtain ⟨f, hf⟩ := Classical.axiomOfChoice hex
              exact ⟨_, .cons _ _ _ _ _ (.rs _ _ _ _ _ _ _ _ hl (fun m hm => by cases hm) (fun i hi => okShs_length (hf i hi).1) (fun i hi => (hf i hi).2)) (.nil _), ⟨_, _, rfl, ⟨len, f, rfl, Nat.le_trans hl hm, fun i hi => (hf i hi).1⟩, rfl⟩, by simp [Value.oneCell']⟩
        · cases h
      · cases h
    · rename_i fs hu
      split at h
      · rename_i l' hl'
        split at h
        · rename_i hsz
          simp only [Option.some.injEq] at h; subst h
          have hsz := Nat.eq_of_beq_eq_true hsz
          obtain ⟨ys, n, _, _, hlen, hyl, hf⟩ := DataW.trod_struct hu hx
          obtain ⟨as, g1, g2, g3⟩ := read_fields (P := P) (w := w) (enc := enc) (base := base) (held := held) (cs := cs) (n := n) (fun t l h => readable d t l h) (fs := fs.toList) (fun f hfm => by
            obtain ⟨i, hi, rfl⟩ := List.mem_iff_getElem.1 hfm
            have := hf i fs.toList[i] (by simp)
            rw [this]
            have hlt : i < ys.length := by simp at hi; omega
            exact ⟨_, List.getElem?_eq_getElem hlt⟩) hl'
          rw [List.drop_zero, List.take_of_length_le (by omega)] at g1 g3
          exact ⟨as, g1, g2, g3⟩
        · cases h
      · cases h
    · rename_i n e hu
      split at h
      · rename_i le hle
        split at h
        · rename_i h1 h2
          simp only [Option.some.injEq] at h; subst h
          have e1 := Nat.eq_of_beq_eq_true h1
          have e2 := Nat.eq_of_beq_eq_true h2
          obtain ⟨ys, m, _, _, hlen, hyl, hf⟩ := DataW.trod_array hu hx
          obtain ⟨as, g1, g2, g3⟩ := read_elems (P := P) (w := w) (enc := enc) (base := base) (held := held) (cs := cs) (m := m) (n := n) (readable d e le hle) (fun i hi => by
            have := hf i hi
            rw [e1] at this
            rw [this]
            exact ⟨_, List.getElem?_eq_getElem (by omega)⟩) n 0 (by omega)
          rw [Nat.zero_mul, List.drop_zero, List.take_of_length_le (by omega)] at g1 g3
          exact ⟨as, g1, g2, g3⟩
        · cases h
      · cases h
    · cases h
end
end Go.Ev
