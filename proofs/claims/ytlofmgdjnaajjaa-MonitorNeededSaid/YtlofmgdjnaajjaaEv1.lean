/- Own text: abstract values, and how they stand to the machine's values. -/
import Derived.Tactics
import Derived.Below
import Derived.Laws.MakeOwn
import Derived.Orders
import Derived.Lib.MinMax
namespace Go.Ev
open Go Go.RowKit
set_option linter.unusedVariables false

/-- Abstract values: 'v' a value with no address of ours; 'ptr' an address in a block of ours; 'sl' a slice of a block of ours; 'rs' a slice that nobody writes; 'ep' an address in such a slice. -/
inductive AV where
  | v (x : Value)
  | ptr (b off : Nat)
  | sl (sz b off len : Nat)
  | pe (sz b i j : Nat)
  | rs (sz n : Nat) (cap : Option Nat) (f : Nat → List AV)
  | ep (sz n : Nat) (f : Nat → List AV) (i j : Nat)
  | fn (f : Fn) (first caps : List AV)
  | agg (cs : List AV)
  | tup (vs : List AV)
  | any

/-- Where our blocks lie, and how many cells they have. -/
abbrev Eta := Nat → Option (Nat × Nat)
def noEta : Eta := fun _ => none

mutual
inductive VRel (w : World) (O : Nat → Prop) : Eta → AV → Value → Prop
  | v (η : Eta) (x : Value) : VRel w O η (.v x) x
  | ptr (η : Eta) (b off c N : Nat) : η b = some (c, N) → VRel w O η (.ptr b off) (.pointer (some ⟨c, off, none⟩))
  | sl (η : Eta) (sz b off len c N cap : Nat) : η b = some (c, N) → len ≤ cap → cap ≤ maxLen → (off + cap) * sz = N → VRel w O η (.sl sz b off len) (.slice (some ⟨c, off * sz, none⟩) len cap)
  | slN (η : Eta) (sz b off : Nat) (base : Option Addr) : VRel w O η (.sl sz b off 0) (.slice base 0 0)
  | any (η : Eta) (x : Value) : VRel w O η .any x
  | pe (η : Eta) (sz b i j c N : Nat) : η b = some (c, N) → VRel w O η (.pe sz b i j) (.pointer (some ⟨c, i * sz + j, none⟩))
  | rs (η : Eta) (sz n : Nat) (k : Option Nat) (f : Nat → List AV) (c off cap : Nat) : n ≤ cap → (∀ m, k = some m → cap = m) →
      (∀ i, i < n → (f i).length = sz) → (∀ i, i < n → VRow w O c (off + i * sz) (f i)) → VRel w O η (.rs sz n k f) (.slice (some ⟨c, off, none⟩) n cap)
  | rsNil (η : Eta) (sz : Nat) (k : Option Nat) (f : Nat → List AV) (base : Option Addr) : (∀ m, k = some m → m = 0) → VRel w O η (.rs sz 0 k f) (.slice base 0 0)
  | ep (η : Eta) (sz n : Nat) (f : Nat → List AV) (i j c off : Nat) : i < n →
      (∀ i, i < n → (f i).length = sz) → (∀ i, i < n → VRow w O c (off + i * sz) (f i)) → VRel w O η (.ep sz n f i j) (.pointer (some ⟨c, off + i * sz + j, none⟩))
  | fn (η : Eta) (f : Fn) (a b : List AV) (x y : List Value) : VRels w O η a x → VRels w O η b y → VRel w O η (.fn f a b) (.func f x.toArray y.toArray)
  | agg (η : Eta) (a : List AV) (x : List Value) : VRels w O η a x → (∀ u ∈ x, u.oneCell' = true) → VRel w O η (.agg a) (.agg x.toArray)
  | tup (η : Eta) (a : List AV) (x : List Value) : VRels w O η a x → VRel w O η (.tup a) (.tuple x.toArray)
inductive VRels (w : World) (O : Nat → Prop) : Eta → List AV → List Value → Prop
  | nil (η : Eta) : VRels w O η [] []
  | cons (η : Eta) (a : AV) (x : Value) (as : List AV) (xs : List Value) : VRel w O η a x → VRels w O η as xs → VRels w O η (a :: as) (x :: xs)
inductive VRow (w : World) (O : Nat → Prop) : Nat → Nat → List AV → Prop
  | nil (c off : Nat) : VRow w O c off []
  | cons (c off : Nat) (a : AV) (x : Value) (as : List AV) : ¬ O c → w.cell? ⟨c, off, none⟩ = some x → x.oneCell' = true → VRel w O noEta a x → VRow w O c (off + 1) as → VRow w O c off (a :: as)
end

mutual
def AV.under (m : Nat) : AV → Bool
  | .v _ => true
  | .ptr b _ => Nat.blt b m
  | .sl _ b _ _ => Nat.blt b m
  | .pe _ b _ _ => Nat.blt b m
  | .rs .. => true
  | .ep .. => true
  | .fn _ a b => AV.unders m a && AV.unders m b
  | .agg a => AV.unders m a
  | .tup a => AV.unders m a
  | .any => true
def AV.unders (m : Nat) : List AV → Bool
  | [] => true
  | a :: r => AV.under m a && AV.unders m r
end

/-- What holds of a world that has kept what is not ours. -/
structure Kept (O : Nat → Prop) (w : World) (O' : Nat → Prop) (w' : World) : Prop where
  block : ∀ c, c < w.heap.size → ¬ O c → w'.heap[c]? = w.heap[c]?
  own : ∀ c, O' c → O c ∨ w.heap.size ≤ c

theorem cell_lt {w : World} {c off : Nat} {x : Value} (h : w.cell? ⟨c, off, none⟩ = some x) : c < w.heap.size := by
  unfold World.cell? at h
  cases hc : w.heap[c]? with
  | none => simp [hc] at h
  | some o => exact (Array.getElem?_eq_some_iff.1 hc).1

theorem cell_kept {O O' : Nat → Prop} {w w' : World} (k : Kept O w O' w') {c off : Nat} {x : Value} (hO : ¬ O c) (h : w.cell? ⟨c, off, none⟩ = some x) : w'.cell? ⟨c, off, none⟩ = some x ∧ ¬ O' c := by
  have hlt := cell_lt h
  refine ⟨?_, fun ho => ?_⟩
  · unfold World.cell? at h ⊢
    simp only at h ⊢
    rw [k.block c hlt hO]; exact h
  · rcases k.own c ho with h1 | h1
    · exact hO h1
    · omega

mutual
theorem VRel.kept {w w' : World} {O O' : Nat → Prop} (k : Kept O w O' w') : ∀ {η : Eta} {a : AV} {x : Value}, VRel w O η a x → VRel w' O' η a x
  | _, _, _, .v η x => .v η x
  | _, _, _, .ptr η b off c N h => .ptr η b off c N h
  | _, _, _, .sl η sz b off len c N cap h1 h2 h3 h4 => .sl η sz b off len c N cap h1 h2 h3 h4
  | _, _, _, .slN η sz b off bs => .slN η sz b off bs
  | _, _, _, .any η x => .any η x
  | _, _, _, .pe η sz b i j c N h1 => .pe η sz b i j c N h1
  | _, _, _, .rs η sz n kk f c off cap h1 h2 h3 h4 => .rs η sz n kk f c off cap h1 h2 h3 (fun i hi => VRow.kept k (h4 i hi))
  | _, _, _, .rsNil η sz kk f bs h => .rsNil η sz kk f bs h
  | _, _, _, .ep η sz n f i j c off h1 h2 h3 => .ep η sz n f i j c off h1 h2 (fun i hi => VRow.kept k (h3 i hi))
  | _, _, _, .fn η f a b x y h1 h2 => .fn η f a b x y (VRels.kept k h1) (VRels.kept k h2)
  | _, _, _, .agg η a x h ho => .agg η a x (VRels.kept k h) ho
  | _, _, _, .tup η a x h => .tup η a x (VRels.kept k h)
theorem VRels.kept {w w' : World} {O O' : Nat → Prop} (k : Kept O w O' w') : ∀ {η : Eta} {a : List AV} {x : List Value}, VRels w O η a x → VRels w' O' η a x
  | _, _, _, .nil η => .nil η
  | _, _, _, .cons η a x as xs h1 h2 => .cons η a x as xs (VRel.kept k h1) (VRels.kept k h2)
theorem VRow.kept {w w' : World} {O O' : Nat → Prop} (k : Kept O w O' w') : ∀ {c off : Nat} {a : List AV}, VRow w O c off a → VRow w' O' c off a
  | _, _, _, .nil c off => .nil c off
  | _, _, _, .cons c off a x as h1 h2 ho h3 h4 => .cons c off a x as (cell_kept k h1 h2).2 (cell_kept k h1 h2).1 ho (VRel.kept k h3) (VRow.kept k h4)
end

/-- More blocks of ours. -/
def EtaLe (η η' : Eta) : Prop := ∀ b c N, η b = some (c, N) → η' b = some (c, N)

mutual
theorem VRel.ext {w : World} {O : Nat → Prop} : ∀ {η : Eta} {a : AV} {x : Value}, VRel w O η a x → ∀ η', EtaLe η η' → VRel w O η' a x
  | _, _, _, .v η x, η', _ => .v η' x
  | _, _, _, .ptr η b off c N h, η', e => .ptr η' b off c N (e _ _ _ h)
  | _, _, _, .sl η sz b off len c N cap h1 h2 h3 h4, η', e => .sl η' sz b off len c N cap (e _ _ _ h1) h2 h3 h4
  | _, _, _, .slN η sz b off bs, η', e => .slN η' sz b off bs
  | _, _, _, .any η x, η', e => .any η' x
  | _, _, _, .pe η sz b i j c N h1, η', e => .pe η' sz b i j c N (e _ _ _ h1)
  | _, _, _, .rs η sz n kk f c off cap h1 h2 h3 h4, η', _ => .rs η' sz n kk f c off cap h1 h2 h3 h4
  | _, _, _, .rsNil η sz kk f bs h, η', _ => .rsNil η' sz kk f bs h
  | _, _, _, .ep η sz n f i j c off h1 h2 h3, η', _ => .ep η' sz n f i j c off h1 h2 h3
  | _, _, _, .fn η f a b x y h1 h2, η', e => .fn η' f a b x y (VRels.ext h1 η' e) (VRels.ext h2 η' e)
  | _, _, _, .agg η a x h ho, η', e => .agg η' a x (VRels.ext h η' e) ho
  | _, _, _, .tup η a x h, η', e => .tup η' a x (VRels.ext h η' e)
theorem VRels.ext {w : World} {O : Nat → Prop} : ∀ {η : Eta} {a : List AV} {x : List Value}, VRels w O η a x → ∀ η', EtaLe η η' → VRels w O η' a x
  | _, _, _, .nil η, η', _ => .nil η'
  | _, _, _, .cons η a x as xs h1 h2, η', e => .cons η' a x as xs (VRel.ext h1 η' e) (VRels.ext h2 η' e)
end

/-- Only our blocks below m are named. -/
def EtaLeB (m : Nat) (η η' : Eta) : Prop := ∀ b c N, b < m → η b = some (c, N) → η' b = some (c, N)

theorem blt_lt {b m : Nat} (h : Nat.blt b m = true) : b < m := by simp [Nat.blt] at h; omega
theorem and_split {a b : Bool} (h : (a && b) = true) : a = true ∧ b = true := by simpa using h

mutual
theorem VRel.cut {w : World} {O : Nat → Prop} {m : Nat} : ∀ {η : Eta} {a : AV} {x : Value}, VRel w O η a x → a.under m = true → ∀ η', EtaLeB m η η' → VRel w O η' a x
  | _, _, _, .v η x, _, η', _ => .v η' x
  | _, _, _, .ptr η b off c N h, u, η', e => .ptr η' b off c N (e _ _ _ (blt_lt (by simpa [AV.under] using u)) h)
  | _, _, _, .sl η sz b off len c N cap h1 h2 h3 h4, u, η', e => .sl η' sz b off len c N cap (e _ _ _ (blt_lt (by simpa [AV.under] using u)) h1) h2 h3 h4
  | _, _, _, .slN η sz b off bs, u, η', e => .slN η' sz b off bs
  | _, _, _, .any η x, u, η', e => .any η' x
  | _, _, _, .pe η sz b i j c N h1, u, η', e => .pe η' sz b i j c N (e _ _ _ (blt_lt (by simpa [AV.under] using u)) h1)
  | _, _, _, .rs η sz n kk f c off cap h1 h2 h3 h4, _, η', _ => .rs η' sz n kk f c off cap h1 h2 h3 h4
  | _, _, _, .rsNil η sz kk f bs h, _, η', _ => .rsNil η' sz kk f bs h
  | _, _, _, .ep η sz n f i j c off h1 h2 h3, _, η', _ => .ep η' sz n f i j c off h1 h2 h3
  | _, _, _, .fn η f a b x y h1 h2, u, η', e => .fn η' f a b x y (VRels.cut h1 (and_split (by simpa only [AV.under] using u)).1 η' e) (VRels.cut h2 (and_split (by simpa only [AV.under] using u)).2 η' e)
  | _, _, _, .agg η a x h ho, u, η', e => .agg η' a x (VRels.cut h (by simpa only [AV.under] using u) η' e) ho
  | _, _, _, .tup η a x h, u, η', e => .tup η' a x (VRels.cut h (by simpa only [AV.under] using u) η' e)
theorem VRels.cut {w : World} {O : Nat → Prop} {m : Nat} : ∀ {η : Eta} {a : List AV} {x : List Value}, VRels w O η a x → AV.unders m a = true → ∀ η', EtaLeB m η η' → VRels w O η' a x
  | _, _, _, .nil η, _, η', _ => .nil η'
  | _, _, _, .cons η a x as xs h1 h2, u, η', e => .cons η' a x as xs (VRel.cut h1 (and_split (by simpa only [AV.unders] using u)).1 η' e) (VRels.cut h2 (and_split (by simpa only [AV.unders] using u)).2 η' e)
end
theorem VRel.pure {w : World} {O : Nat → Prop} {η : Eta} {a : AV} {x : Value} (h : VRel w O η a x) (u : a.under 0 = true) (η' : Eta) : VRel w O η' a x :=
  h.cut u η' (fun b c N hb _ => absurd hb (Nat.not_lt_zero _))
theorem VRels.pure {w : World} {O : Nat → Prop} {η : Eta} {a : List AV} {x : List Value} (h : VRels w O η a x) (u : AV.unders 0 a = true) (η' : Eta) : VRels w O η' a x :=
  h.cut u η' (fun b c N hb _ => absurd hb (Nat.not_lt_zero _))

mutual
/-- No slice in it: it holds whatever is ours. -/
def AV.flat : AV → Bool
  | .v _ => true
  | .ptr .. => true
  | .sl .. => true
  | .pe .. => true
  | .rs .. => false
  | .ep .. => false
  | .fn _ a b => AV.flats a && AV.flats b
  | .agg a => AV.flats a
  | .tup a => AV.flats a
  | .any => true
def AV.flats : List AV → Bool
  | [] => true
  | a :: r => AV.flat a && AV.flats r
end
mutual
theorem VRel.refit {w : World} {O O' : Nat → Prop} : ∀ {η : Eta} {a : AV} {x : Value}, VRel w O η a x → a.flat = true → VRel w O' η a x
  | _, _, _, .v η x, _ => .v η x
  | _, _, _, .ptr η b off c N h, _ => .ptr η b off c N h
  | _, _, _, .sl η sz b off len c N cap h1 h2 h3 h4, _ => .sl η sz b off len c N cap h1 h2 h3 h4
  | _, _, _, .slN η sz b off bs, _ => .slN η sz b off bs
  | _, _, _, .any η x, _ => .any η x
  | _, _, _, .pe η sz b i j c N h1, _ => .pe η sz b i j c N h1
  | _, _, _, .rs η sz n kk f c off cap h1 h2 h3 h4, u => by simp [AV.flat] at u
  | _, _, _, .rsNil η sz kk f bs h, u => by simp [AV.flat] at u
  | _, _, _, .ep η sz n f i j c off h1 h2 h3, u => by simp [AV.flat] at u
  | _, _, _, .fn η f a b x y h1 h2, u => .fn η f a b x y (VRels.refit h1 (and_split (by simpa only [AV.flat] using u)).1) (VRels.refit h2 (and_split (by simpa only [AV.flat] using u)).2)
  | _, _, _, .agg η a x h ho, u => .agg η a x (VRels.refit h (by simpa only [AV.flat] using u)) ho
  | _, _, _, .tup η a x h, u => .tup η a x (VRels.refit h (by simpa only [AV.flat] using u))
theorem VRels.refit {w : World} {O O' : Nat → Prop} : ∀ {η : Eta} {a : List AV} {x : List Value}, VRels w O η a x → AV.flats a = true → VRels w O' η a x
  | _, _, _, .nil η, _ => .nil η
  | _, _, _, .cons η a x as xs h1 h2, u => .cons η a x as xs (VRel.refit h1 (and_split (by simpa only [AV.flats] using u)).1) (VRels.refit h2 (and_split (by simpa only [AV.flats] using u)).2)
end

/-! ### lists -/
theorem VRels.length {w : World} {O : Nat → Prop} : ∀ {η : Eta} {a : List AV} {x : List Value}, VRels w O η a x → a.length = x.length
  | _, _, _, .nil _ => rfl
  | _, _, _, .cons _ _ _ _ _ _ h => by simp [VRels.length h]
theorem VRels.get {w : World} {O : Nat → Prop} : ∀ {η : Eta} {a : List AV} {x : List Value}, VRels w O η a x → ∀ (i : Nat) (v : AV), a[i]? = some v → ∃ u, x[i]? = some u ∧ VRel w O η v u
  | _, _, _, .nil _, i, v, h => by simp at h
  | _, _, _, .cons _ _ _ _ _ h1 h2, 0, v, h => by simp at h; subst h; exact ⟨_, by simp, h1⟩
  | _, _, _, .cons _ _ _ _ _ h1 h2, i + 1, v, h => by simpa using VRels.get h2 i v (by simpa using h)
theorem VRels.append {w : World} {O : Nat → Prop} : ∀ {η : Eta} {a b : List AV} {x y : List Value}, VRels w O η a x → VRels w O η b y → VRels w O η (a ++ b) (x ++ y)
  | _, _, _, _, _, .nil _, h => h
  | _, _, _, _, _, .cons _ _ _ _ _ h1 h2, h => .cons _ _ _ _ _ h1 (VRels.append h2 h)
theorem VRels.take {w : World} {O : Nat → Prop} : ∀ {η : Eta} {a : List AV} {x : List Value} (n : Nat), VRels w O η a x → VRels w O η (a.take n) (x.take n)
  | _, _, _, 0, _ => by simpa using .nil _
  | _, _, _, n + 1, .nil _ => by simpa using .nil _
  | _, _, _, n + 1, .cons _ _ _ _ _ h1 h2 => by simpa using .cons _ _ _ _ _ h1 (VRels.take n h2)
theorem VRels.drop {w : World} {O : Nat → Prop} : ∀ {η : Eta} {a : List AV} {x : List Value} (n : Nat), VRels w O η a x → VRels w O η (a.drop n) (x.drop n)
  | _, _, _, 0, h => by simpa using h
  | _, _, _, n + 1, .nil _ => by simpa using .nil _
  | _, _, _, n + 1, .cons _ _ _ _ _ h1 h2 => by simpa using VRels.drop n h2
theorem VRels.vs {w : World} {O : Nat → Prop} (η : Eta) : ∀ (x : List Value), VRels w O η (x.map AV.v) x
  | [] => .nil η
  | u :: r => .cons η _ _ _ _ (.v η u) (VRels.vs η r)
end Go.Ev
