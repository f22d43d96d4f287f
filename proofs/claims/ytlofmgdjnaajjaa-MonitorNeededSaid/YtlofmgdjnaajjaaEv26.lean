/- Own text: equal values; loops by what holds at each round. -/
import Derived.Test.YtlofmgdjnaajjaaEv25
namespace Go.Ev
open Go Go.RowKit
set_option linter.unusedVariables false
set_option linter.unusedSimpArgs false

mutual
/-- Values that read alike. -/
inductive AVEq : AV → AV → Prop
  | refl (a : AV) : AVEq a a
  | any (a : AV) : AVEq a .any
  | rs (sz n m : Nat) (k : Option Nat) (f g : Nat → List AV) : n = m → (∀ i, i < n → AVEqs (f i) (g i)) → AVEq (.rs sz n k f) (.rs sz m none g)
  | rsk (sz n m : Nat) (k : Option Nat) (f g : Nat → List AV) : n = m → (∀ i, i < n → AVEqs (f i) (g i)) → AVEq (.rs sz n k f) (.rs sz m k g)
  | sl (sz b o o' n m : Nat) : o = o' → n = m → AVEq (.sl sz b o n) (.sl sz b o' m)
  | slNil (sz b o n : Nat) : n = 0 → AVEq (.v (.slice none 0 0)) (.sl sz b o n)
  | slEmp (sz sz' b o n m : Nat) (f : Nat → List AV) : n = 0 → m = 0 → AVEq (.rs sz' n (some 0) f) (.sl sz b o m)
  | nil (sz n : Nat) (g : Nat → List AV) : n = 0 → AVEq (.v (.slice none 0 0)) (.rs sz n none g)
  | agg (l m : List AV) : AVEqs l m → AVEq (.agg l) (.agg m)
  | tup (l m : List AV) : AVEqs l m → AVEq (.tup l) (.tup m)
  | fn (f : Fn) (l l' m m' : List AV) : AVEqs l l' → AVEqs m m' → AVEq (.fn f l m) (.fn f l' m')
inductive AVEqs : List AV → List AV → Prop
  | nil : AVEqs [] []
  | cons (a b : AV) (l m : List AV) : AVEq a b → AVEqs l m → AVEqs (a :: l) (b :: m)
end
theorem AVEq.of_eq {a b : AV} (h : a = b) : AVEq a b := h ▸ .refl a
theorem AVEqs.refl : ∀ (l : List AV), AVEqs l l
  | [] => .nil
  | a :: r => .cons _ _ _ _ (.refl a) (AVEqs.refl r)
theorem AVEqs.of_eq {a b : List AV} (h : a = b) : AVEqs a b := h ▸ .refl a
theorem AVEqs.length : ∀ {l m : List AV}, AVEqs l m → l.length = m.length
  | _, _, .nil => rfl
  | _, _, .cons _ _ _ _ _ h => by simp [AVEqs.length h]

mutual
theorem AVEq.rel {w : World} {O : Nat → Prop} {η : Eta} : ∀ {a b : AV}, AVEq a b → ∀ {x : Value}, VRel w O η a x → VRel w O η b x
  | _, _, .refl a, x, h => h
  | _, _, .any a, x, h => .any _ _
  | _, _, .nil sz n g hn, x, h => by
    subst hn
    cases h with
    | v _ _ => exact .rsNil _ _ _ _ _ (fun m hm => by cases hm)
  | _, _, .slNil sz b o n hn, x, h => by
    subst hn
    cases h with
    | v _ _ => exact .slN _ _ _ _ _
  | _, _, .slEmp sz sz' b o n m f hn hm, x, h => by
    subst hn; subst hm
    cases h with
    | rs _ _ _ _ _ c off cap h1 h2 h3 h4 => rw [h2 0 rfl]; exact .slN _ _ _ _ _
    | rsNil _ _ _ _ _ h1 => exact .slN _ _ _ _ _
  | _, _, .sl sz b o o' n m ho hnm, x, h => ho ▸ hnm ▸ h
  | _, _, .rs sz n m k f g hnm hfg, x, h => by
    subst hnm
    cases h with
    | rs _ _ _ _ _ c off cap h1 h2 h3 h4 => exact .rs _ _ _ _ _ _ _ _ h1 (fun m hm => by cases hm) (fun i hi => (AVEqs.length (hfg i hi)).symm.trans (h3 i hi)) (fun i hi => AVEqs.row (hfg i hi) (h4 i hi))
    | rsNil _ _ _ _ _ h1 => exact .rsNil _ _ _ _ _ (fun m hm => by cases hm)
  | _, _, .rsk sz n m k f g hnm hfg, x, h => by
    subst hnm
    cases h with
    | rs _ _ _ _ _ c off cap h1 h2 h3 h4 => exact .rs _ _ _ _ _ _ _ _ h1 h2 (fun i hi => (AVEqs.length (hfg i hi)).symm.trans (h3 i hi)) (fun i hi => AVEqs.row (hfg i hi) (h4 i hi))
    | rsNil _ _ _ _ _ h1 => exact .rsNil _ _ _ _ _ h1
  | _, _, .agg l m hl, x, h => by
    cases h with
    | agg _ _ xs h1 h2 => exact .agg _ _ _ (AVEqs.rel hl h1) h2
  | _, _, .tup l m hl, x, h => by
    cases h with
    | tup _ _ xs h1 => exact .tup _ _ _ (AVEqs.rel hl h1)
  | _, _, .fn f l l' m m' h1 h2, x, h => by
    cases h with
    | fn _ _ _ _ x y g1 g2 => exact .fn _ _ _ _ _ _ (AVEqs.rel h1 g1) (AVEqs.rel h2 g2)
theorem AVEqs.rel {w : World} {O : Nat → Prop} {η : Eta} : ∀ {a b : List AV}, AVEqs a b → ∀ {x : List Value}, VRels w O η a x → VRels w O η b x
  | _, _, .nil, x, h => h
  | _, _, .cons a b l m h1 h2, x, h => by
    cases h with
    | cons _ _ y _ ys g1 g2 => exact .cons _ _ _ _ _ (AVEq.rel h1 g1) (AVEqs.rel h2 g2)
theorem AVEqs.row {w : World} {O : Nat → Prop} : ∀ {a b : List AV}, AVEqs a b → ∀ {c off : Nat}, VRow w O c off a → VRow w O c off b
  | _, _, .nil, c, off, h => h
  | _, _, .cons a b l m h1 h2, c, off, h => by
    cases h with
    | cons _ _ _ x _ k1 k2 k3 k4 k5 => exact .cons _ _ _ x _ k1 k2 k3 (AVEq.rel h1 k4) (AVEqs.row h2 k5)
end

def isNilV : Value → Bool
  | .slice none 0 0 => true
  | _ => false
theorem isNilV_eq {x : Value} (h : isNilV x = true) : x = .slice none 0 0 := by
  unfold isNilV at h
  split at h
  · rfl
  · cases h
def eqW (x y : Value) (K : Prop) : Prop := match x, y with
  | .int k a, .int k' b => match kindEq k k' with
    | true => a = b ∧ K
    | false => False
  | .bool a, .bool b => a = b ∧ K
  | x, y => x = y ∧ K
theorem eqW_eq {x y : Value} {K : Prop} (h : eqW x y K) : x = y ∧ K := by
  unfold eqW at h
  split at h
  · split at h
    · rename_i hk
      exact ⟨by rw [kindEq_eq hk, h.1], h.2⟩
    · exact h.elim
  · exact ⟨by rw [h.1], h.2⟩
  · exact h
mutual
/-- What makes two values read alike, ahead of what follows. -/
def eqA : AV → AV → Prop → Prop
  | .v x, b, K => match b with
    | .any => K
    | .v y => eqW x y K
    | .rs _ m none _ => match isNilV x with
      | true => m = 0 ∧ K
      | false => False
    | .sl _ _ _ m => match isNilV x with
      | true => m = 0 ∧ K
      | false => False
    | _ => False
  | .rs sz n k f, b, K => match b with
    | .any => K
    | .rs sz' m k' g => match Nat.beq sz sz' with
      | true => match k' with
        | none => n = m ∧ (∀ i, i < n → AVEqs (f i) (g i)) ∧ K
        | some q => k = some q ∧ n = m ∧ (∀ i, i < n → AVEqs (f i) (g i)) ∧ K
      | false => False
    | .sl _ _ _ m => match k with
      | some 0 => n = 0 ∧ m = 0 ∧ K
      | _ => False
    | _ => False
  | .sl sz b o n, c, K => match c with
    | .any => K
    | .sl sz' b' o' m => match Nat.beq sz sz', Nat.beq b b' with
      | true, true => o = o' ∧ n = m ∧ K
      | _, _ => False
    | _ => False
  | .ptr b o, c, K => match c with
    | .any => K
    | .ptr b' o' => match Nat.beq b b' with
      | true => o = o' ∧ K
      | false => False
    | _ => False
  | .agg l, c, K => match c with
    | .any => K
    | .agg m => eqL l m K
    | _ => False
  | .tup l, c, K => match c with
    | .any => K
    | .tup m => eqL l m K
    | _ => False
  | .fn f l m, c, K => match c with
    | .any => K
    | .fn f' l' m' => f = f' ∧ eqL l l' (eqL m m' K)
    | _ => False
  | .pe sz b i j, c, K => match c with
    | .any => K
    | c => .pe sz b i j = c ∧ K
  | .ep sz n f i j, c, K => match c with
    | .any => K
    | c => .ep sz n f i j = c ∧ K
  | .any, c, K => match c with
    | .any => K
    | _ => False
def eqL : List AV → List AV → Prop → Prop
  | [], c, K => match c with
    | [] => K
    | _ :: _ => False
  | a :: r, c, K => match c with
    | [] => False
    | b :: s => eqA a b (eqL r s K)
end
mutual
theorem eqA_eq : ∀ {a b : AV} {K : Prop}, eqA a b K → AVEq a b ∧ K
  | .v x, b, K, h => by
    simp only [eqA] at h
    split at h
    · exact ⟨.any _, h⟩
    · have h' := eqW_eq h; exact ⟨.of_eq (by rw [h'.1]), h'.2⟩
    · split at h
      · rename_i hx; rw [isNilV_eq hx]; exact ⟨.nil _ _ _ h.1, h.2⟩
      · exact h.elim
    · split at h
      · rename_i hx; rw [isNilV_eq hx]; exact ⟨.slNil _ _ _ _ h.1, h.2⟩
      · exact h.elim
    · exact h.elim
  | .rs sz n k f, b, K, h => by
    simp only [eqA] at h
    split at h
    · exact ⟨.any _, h⟩
    · split at h
      · rename_i hz
        cases Nat.eq_of_beq_eq_true hz
        split at h
        · exact ⟨.rs _ _ _ _ _ _ h.1 h.2.1, h.2.2⟩
        · obtain ⟨rfl, h1, h2, h3⟩ := h; exact ⟨.rsk _ _ _ _ _ _ h1 h2, h3⟩
      · exact h.elim
    · split at h
      · exact ⟨.slEmp _ _ _ _ _ _ _ h.1 h.2.1, h.2.2⟩
      · exact h.elim
    · exact h.elim
  | .sl sz b o n, c, K, h => by
    simp only [eqA] at h
    split at h
    · exact ⟨.any _, h⟩
    · split at h
      · rename_i h1 h2
        cases Nat.eq_of_beq_eq_true h1; cases Nat.eq_of_beq_eq_true h2
        exact ⟨.sl _ _ _ _ _ _ h.1 h.2.1, h.2.2⟩
      · exact h.elim
    · exact h.elim
  | .ptr b o, c, K, h => by
    simp only [eqA] at h
    split at h
    · exact ⟨.any _, h⟩
    · split at h
      · rename_i h1
        cases Nat.eq_of_beq_eq_true h1
        obtain ⟨rfl, h⟩ := h
        exact ⟨.refl _, h⟩
      · exact h.elim
    · exact h.elim
  | .agg l, c, K, h => by
    simp only [eqA] at h
    split at h
    · exact ⟨.any _, h⟩
    · obtain ⟨h1, h2⟩ := eqL_eq h; exact ⟨.agg _ _ h1, h2⟩
    · exact h.elim
  | .tup l, c, K, h => by
    simp only [eqA] at h
    split at h
    · exact ⟨.any _, h⟩
    · obtain ⟨h1, h2⟩ := eqL_eq h; exact ⟨.tup _ _ h1, h2⟩
    · exact h.elim
  | .fn f l m, c, K, h => by
    simp only [eqA] at h
    split at h
    · exact ⟨.any _, h⟩
    · obtain ⟨rfl, h⟩ := h
      obtain ⟨h1, h2⟩ := eqL_eq h
      obtain ⟨h3, h4⟩ := eqL_eq h2
      exact ⟨.fn _ _ _ _ _ h1 h3, h4⟩
    · exact h.elim
  | .pe sz b i j, c, K, h => by
    simp only [eqA] at h
    split at h
    · exact ⟨.any _, h⟩
    · exact ⟨.of_eq h.1, h.2⟩
  | .ep sz n f i j, c, K, h => by
    simp only [eqA] at h
    split at h
    · exact ⟨.any _, h⟩
    · exact ⟨.of_eq h.1, h.2⟩
  | .any, c, K, h => by
    simp only [eqA] at h
    split at h
    · exact ⟨.any _, h⟩
    · exact h.elim
theorem eqL_eq : ∀ {l m : List AV} {K : Prop}, eqL l m K → AVEqs l m ∧ K
  | [], c, K, h => by
    simp only [eqL] at h
    split at h
    · exact ⟨.nil, h⟩
    · exact h.elim
  | a :: r, c, K, h => by
    simp only [eqL] at h
    split at h
    · exact h.elim
    · obtain ⟨h1, h2⟩ := eqA_eq h
      obtain ⟨h3, h4⟩ := eqL_eq h2
      exact ⟨.cons _ _ _ _ h1 h3, h4⟩
end

/-- What a function's result reads as. -/
def Reads (v' : AV) : OpK := fun v h _ => match pubA (Heap.live h) v with
  | some (c, v1) => allK c (eqA v1 v' True)
  | none => False
/-- A branch. -/
def Br (c : Bool) (t e : Prop) : Prop := match c with
  | true => t
  | false => e
theorem Br.intro {c : Bool} {t e : Prop} (h1 : c = true → t) (h2 : c = false → e) : Br c t e := by
  cases c
  · exact h2 rfl
  · exact h1 rfl

section
variable {P : Program} {cfg : Cfg}
theorem pure_of' (hc : CfgOk P cfg) (hi : InlOk P cfg) (hmix : P.follows .mixedOrders = true) {fuel d : Nat} {f : FuncId} {args : List AV} {v' : AV} (h : callN P cfg fuel d f args [] 0 (Reads v')) : Entry P f ∧ APure P f args v' := by
  obtain ⟨v, h', n', h1, h23⟩ := callN_det d _ _ _ _ _ h
  unfold Reads at h23
  split at h23
  rotate_left
  · exact h23.elim
  rename_i cc v1 h2
  obtain ⟨hcc, h3⟩ := allK_iff.1 h23
  obtain ⟨h3, _⟩ := eqA_eq h3
  obtain ⟨he, hp⟩ := pure_of (v' := v1) hc hi hmix (callN_mono d _ _ _ _ _ _ (fun v0 h0 n0 hh => by obtain ⟨rfl, rfl, rfl⟩ := hh; exact ⟨cc, h2, hcc⟩) h1)
  exact ⟨he, fun w O xs hO ha => (hp w O xs hO ha).mono fun e w' ⟨x, hx, hv, hb⟩ => ⟨x, hx, h3.rel hv, hb⟩⟩

/-! ### loops -/
mutual
/-- Our blocks by other numbers. -/
def AV.ren (ρ : Nat → Nat) : AV → AV
  | .v x => .v x
  | .ptr b off => .ptr (ρ b) off
  | .sl sz b off len => .sl sz (ρ b) off len
  | .pe sz b i j => .pe sz (ρ b) i j
  | .rs sz n k f => .rs sz n k f
  | .ep sz n f i j => .ep sz n f i j
  | .fn f a b => .fn f (AV.rens ρ a) (AV.rens ρ b)
  | .agg a => .agg (AV.rens ρ a)
  | .tup a => .tup (AV.rens ρ a)
  | .any => .any
def AV.rens (ρ : Nat → Nat) : List AV → List AV
  | [] => []
  | a :: r => AV.ren ρ a :: AV.rens ρ r
end
mutual
theorem VRel.ren {w : World} {O : Nat → Prop} {m : Nat} {ρ : Nat → Nat} {η η' : Eta} (e : ∀ b, b < m → η' b = η (ρ b)) : ∀ (v : AV) {x : Value}, VRel w O η (v.ren ρ) x → v.under m = true → VRel w O η' v x
  | .v y, x, h, u => by
    unfold AV.ren at h
    cases h; exact .v _ _
  | .ptr b off, x, h, u => by
    unfold AV.ren at h
    cases h with
    | ptr _ _ _ c N h1 => exact .ptr _ _ _ c N ((e b (blt_lt (by simpa [AV.under] using u))).trans h1)
  | .sl sz b off len, x, h, u => by
    unfold AV.ren at h
    cases h with
    | sl _ _ _ _ _ c N cap h1 h2 h3 h4 => exact .sl _ _ _ _ _ c N cap ((e b (blt_lt (by simpa [AV.under] using u))).trans h1) h2 h3 h4
    | slN => exact .slN _ _ _ _ _
  | .pe sz b i j, x, h, u => by
    unfold AV.ren at h
    cases h with
    | pe _ _ _ _ _ c N h1 => exact .pe _ _ _ _ _ c N ((e b (blt_lt (by simpa [AV.under] using u))).trans h1)
  | .rs sz n k f, x, h, u => by
    unfold AV.ren at h
    exact h.pure rfl _
  | .ep sz n f i j, x, h, u => by
    unfold AV.ren at h
    exact h.pure rfl _
  | .any, x, h, u => .any _ _
  | .fn f a b, x, h, u => by
    have u := and_split (by simpa only [AV.under] using u)
    unfold AV.ren at h
    cases h with
    | fn _ _ _ _ x y h1 h2 => exact .fn _ _ _ _ _ _ (VRels.ren e a h1 u.1) (VRels.ren e b h2 u.2)
  | .agg a, x, h, u => by
    have u : AV.unders m a = true := by simpa only [AV.under] using u
    unfold AV.ren at h
    cases h with
    | agg _ _ x h1 ho => exact .agg _ _ _ (VRels.ren e a h1 u) ho
  | .tup a, x, h, u => by
    have u : AV.unders m a = true := by simpa only [AV.under] using u
    unfold AV.ren at h
    cases h with
    | tup _ _ x h1 => exact .tup _ _ _ (VRels.ren e a h1 u)
theorem VRels.ren {w : World} {O : Nat → Prop} {m : Nat} {ρ : Nat → Nat} {η η' : Eta} (e : ∀ b, b < m → η' b = η (ρ b)) : ∀ (v : List AV) {x : List Value}, VRels w O η (AV.rens ρ v) x → AV.unders m v = true → VRels w O η' v x
  | [], x, h, u => by
    unfold AV.rens at h
    cases h; exact .nil _
  | a :: r, x, h, u => by
    have u := and_split (by simpa only [AV.unders] using u)
    unfold AV.rens at h
    cases h with
    | cons _ _ y _ ys h1 h2 => exact .cons _ _ _ _ _ (VRel.ren e a h1 u.1) (VRels.ren e r h2 u.2)
end

def blkLe (ρ : Nat → Nat) : Blk → Blk → Prop → Prop
  | .cells l, .cells l', K => eqL l (AV.rens ρ l') K
  | .arr sz n f, .arr sz' n' f', K => match Nat.beq sz sz' with
    | true => n = n' ∧ (∀ i, i < n → AVEqs (f i) (f' i)) ∧ K
    | false => False
  | _, _, _ => False
def envLe (ρ : Nat → Nat) (e : Env) : Env → Prop → Prop
  | [], K => K
  | (t, v) :: r, K => match look e t with
    | some u => eqA u (v.ren ρ) (envLe ρ e r K)
    | none => False
def heapLe (ρ : Nat → Nat) (next : Nat) (h : Heap) : Heap → Prop → Prop
  | [], K => K
  | (b, some k) :: r, K => match Heap.live h (ρ b) with
    | some k' => blkLe ρ k' k (heapLe ρ next h r K)
    | none => match k with
      | .arr _ n _ => match Nat.ble next (ρ b) with
        | true => n = 0 ∧ heapLe ρ next h r K
        | false => False
      | .cells _ => False
  | (_, none) :: _, K => False
def apart (ρ : Nat → Nat) (b : Nat) : Heap → Bool
  | [] => true
  | (b', _) :: r => (Nat.beq b b' || !Nat.beq (ρ b) (ρ b')) && apart ρ b r
def aparts (ρ : Nat → Nat) (h : Heap) : Heap → Bool
  | [] => true
  | (b, _) :: r => apart ρ b h && aparts ρ h r
def underBlk (m : Nat) : Blk → Bool
  | .cells l => AV.unders m l
  | .arr _ _ _ => true
def underSt (s : St) : Bool := (s.env.all fun p => p.2.under s.next) && (s.heap.all fun p => Nat.blt p.1 s.next && (match p.2 with
  | some k => underBlk s.next k
  | none => false))
def fixB (ρ : Nat → Nat) : Nat → Bool
  | 0 => true
  | k + 1 => Nat.beq (ρ k) k && fixB ρ k
theorem fixB_eq {ρ : Nat → Nat} : ∀ {m : Nat}, fixB ρ m = true → ∀ b, b < m → ρ b = b
  | 0, _, b, hb => absurd hb (Nat.not_lt_zero b)
  | k + 1, h, b, hb => by
    have h := and_split h
    by_cases e : b = k
    · subst e; exact Nat.eq_of_beq_eq_true h.1
    · exact fixB_eq h.2 b (by omega)
/-- State s1 is one of those that s2 speaks of. -/
def StLe (m : Nat) (ρ : Nat → Nat) (s1 s2 : St) (K : Prop) : Prop := match aparts ρ s2.heap s2.heap && (underSt s2 && (fixB ρ m && Nat.ble m s2.next)) with
  | true => envLe ρ s1.env s2.env (heapLe ρ s1.next s1.heap s2.heap K)
  | false => False

theorem envLe_look {ρ : Nat → Nat} {e : Env} : ∀ {e' : Env} {K : Prop}, envLe ρ e e' K → (∀ t v, look e' t = some v → ∃ u, look e t = some u ∧ AVEq u (v.ren ρ)) ∧ K
  | [], K, h => ⟨fun t v h => (by cases h), h⟩
  | (t0, v0) :: r, K, hl => by
    simp only [envLe] at hl
    split at hl
    · rename_i u hu
      obtain ⟨h1, h2⟩ := eqA_eq hl
      obtain ⟨h3, h4⟩ := envLe_look h2
      refine ⟨fun t v h => ?_, h4⟩
      by_cases ht : t0 = t
      · subst ht
        rw [look_cons_self] at h
        cases h
        exact ⟨u, hu, h1⟩
      · rw [look_cons_ne _ _ ht] at h
        exact h3 t v h
    · exact hl.elim
/-- How a block stands to one of another state. -/
def BlkLe (ρ : Nat → Nat) : Blk → Blk → Prop
  | .cells l, .cells l' => AVEqs l (AV.rens ρ l')
  | .arr sz n f, .arr sz' n' f' => sz = sz' ∧ n = n' ∧ ∀ i, i < n → AVEqs (f i) (f' i)
  | _, _ => False
theorem blkLe_eq {ρ : Nat → Nat} {k k' : Blk} {K : Prop} (h : blkLe ρ k k' K) : BlkLe ρ k k' ∧ K := by
  match k, k', h with
  | .cells l, .cells l', h => exact eqL_eq h
  | .cells l, .arr _ _ _, h => exact h.elim
  | .arr _ _ _, .cells _, h => exact h.elim
  | .arr sz n f, .arr sz' n' f', h =>
    simp only [blkLe] at h
    split at h
    · rename_i hz; exact ⟨⟨Nat.eq_of_beq_eq_true hz, h.1, h.2.1⟩, h.2.2⟩
    · exact h.elim
theorem heapLe_live {ρ : Nat → Nat} {next : Nat} {h : Heap} : ∀ {h' : Heap} {K : Prop}, heapLe ρ next h h' K → (∀ b k, Heap.live h' b = some k → (∃ k', Heap.live h (ρ b) = some k' ∧ BlkLe ρ k' k) ∨ (next ≤ ρ b ∧ ∃ sz f, k = .arr sz 0 f)) ∧ K
  | [], K, h => ⟨fun b k hk => (by cases hk), h⟩
  | (b0, some k0) :: r, K, hl => by
    have key : ((∃ k', Heap.live h (ρ b0) = some k' ∧ BlkLe ρ k' k0) ∨ (next ≤ ρ b0 ∧ ∃ sz f, k0 = .arr sz 0 f)) ∧ heapLe ρ next h r K := by
      simp only [heapLe] at hl
      split at hl
      · rename_i k' hk'
        obtain ⟨h1, h2⟩ := blkLe_eq hl
        exact ⟨.inl ⟨k', hk', h1⟩, h2⟩
      · split at hl
        · split at hl
          · rename_i hle
            obtain ⟨rfl, h2⟩ := hl
            exact ⟨.inr ⟨Nat.le_of_ble_eq_true hle, _, _, rfl⟩, h2⟩
          · exact hl.elim
        · exact hl.elim
    obtain ⟨h3, h4⟩ := heapLe_live key.2
    refine ⟨fun b k hk => ?_, h4⟩
    by_cases hb : b0 = b
    · subst hb
      simp only [Heap.live, look_cons_self] at hk
      cases hk
      exact key.1
    · have : Heap.live ((b0, some k0) :: r) b = Heap.live r b := by simp only [Heap.live, look_cons_ne _ _ hb]
      rw [this] at hk
      exact h3 b k hk
  | (b0, none) :: r, K, hl => hl.elim
theorem look_mem {α : Type} : ∀ {l : List (Nat × α)} {t : Nat} {v : α}, look l t = some v → (t, v) ∈ l
  | [], t, v, h => by cases h
  | (t0, v0) :: r, t, v, h => by
    by_cases ht : t0 = t
    · subst ht; rw [look_cons_self] at h; cases h; exact List.mem_cons_self
    · rw [look_cons_ne _ _ ht] at h; exact List.mem_cons_of_mem _ (look_mem h)
theorem apart_of {ρ : Nat → Nat} {b b' : Nat} : ∀ {h : Heap} {k : Option Blk}, apart ρ b h = true → (b', k) ∈ h → ρ b = ρ b' → b = b'
  | [], _, _, hm, _ => by cases hm
  | (b0, _) :: r, k, ha, hm, he => by
    have ha := and_split ha
    rcases List.mem_cons.1 hm with hm | hm
    · cases hm
      rw [he, Nat.beq_refl] at ha
      have := ha.1
      simp at this
      exact Nat.eq_of_beq_eq_true (by simpa using this)
    · exact apart_of ha.2 hm he
theorem aparts_of {ρ : Nat → Nat} {b b' : Nat} {h : Heap} : ∀ {h1 : Heap} {k k' : Option Blk}, aparts ρ h h1 = true → (b, k) ∈ h1 → (b', k') ∈ h → ρ b = ρ b' → b = b'
  | [], _, _, _, hm, _, _ => by cases hm
  | (b0, _) :: r, k, k', ha, hm, hm', he => by
    have ha := and_split ha
    rcases List.mem_cons.1 hm with hm | hm
    · cases hm
      exact apart_of ha.1 hm' he
    · exact aparts_of ha.2 hm hm' he
theorem live_mem {h : Heap} {b : Nat} {k : Blk} (hb : Heap.live h b = some k) : (b, some k) ∈ h := by
  have hlk : look h b = some (some k) := by
    unfold Heap.live at hb
    split at hb
    · rename_i hq; cases hb; exact hq
    · cases hb
  exact look_mem hlk

variable {A : Anc}
theorem Rel.le {ρ : Nat → Nat} {η : Eta} {s1 s2 : St} {a : Act} {w : World} {K : Prop} (R : Rel A η s1 a w) (h : StLe A.m ρ s1 s2 K) : K ∧ ∃ η', Rel A η' s2 a w := by
  unfold StLe at h
  split at h
  rotate_left
  · exact h.elim
  rename_i hbool
  obtain ⟨hn, hu⟩ := and_split hbool
  obtain ⟨hu, hfix⟩ := and_split hu
  obtain ⟨hfix, hmle⟩ := and_split hfix
  have hfix := fixB_eq hfix
  have hmle := Nat.le_of_ble_eq_true hmle
  obtain ⟨he, h⟩ := envLe_look h
  obtain ⟨hh, hK⟩ := heapLe_live h
  refine ⟨hK, ?_⟩
  have hu := and_split hu
  let η' : Eta := fun b => if b < s2.next then η (ρ b) else none
  have hcut : ∀ b, b < s2.next → η' b = η (ρ b) := fun b hb => by show (if b < s2.next then η (ρ b) else none) = _; rw [if_pos hb]
  have hη' : ∀ b c N, η' b = some (c, N) → η (ρ b) = some (c, N) ∧ b < s2.next := fun b c N hb => by
    have hb : (if b < s2.next then η (ρ b) else none) = some (c, N) := hb
    split at hb
    · rename_i hlt; exact ⟨hb, hlt⟩
    · cases hb
  have hold : ∀ b k c N, Heap.live s2.heap b = some k → η (ρ b) = some (c, N) → ∃ k', Heap.live s1.heap (ρ b) = some k' ∧ BlkLe ρ k' k := fun b k c N hb hc => by
    rcases hh b k hb with h | ⟨h, _⟩
    · exact h
    · rw [R.dom _ h] at hc; cases hc
  have hown : ∀ c, Own A.O0 η' s2.heap.live c → Own A.O0 η s1.heap.live c := fun c hc => by
    rcases hc with hc | ⟨b, k, N, h1, h2⟩
    · exact .inl hc
    · obtain ⟨k', h3, _⟩ := hold b k c N h1 (hη' _ _ _ h2).1
      exact .inr ⟨ρ b, k', N, h3, (hη' _ _ _ h2).1⟩
  have hk : Kept (Own A.O0 η s1.heap.live) w (Own A.O0 η' s2.heap.live) w := Kept.less hown
  have hbu : ∀ b k, Heap.live s2.heap b = some k → b < s2.next ∧ underBlk s2.next k = true := fun b k hb => by
    have := List.all_eq_true.1 hu.2 _ (live_mem hb)
    have := and_split this
    exact ⟨blt_lt this.1, this.2⟩
  refine ⟨η', ⟨fun b k hb => ?_, fun b b' k k' c N N' h1 h2 h3 h4 => ?_, fun b c N hb => R.h.lt _ _ _ (hη' _ _ _ hb).1, R.h.O0lt⟩, fun t v ht => ?_, fun b hb => ?_, hmle, fun b hb => ?_, ⟨R.kept.block, fun c hc => R.kept.own c (hown c hc)⟩, R.low, R.keep0, R.size, R.defers⟩
  · obtain ⟨hlt, hub⟩ := hbu b k hb
    rcases hh b k hb with ⟨k', h1, h2⟩ | ⟨h1, h2⟩
    · rcases R.h.blk (ρ b) k' h1 with ⟨g1, sz, f, rfl⟩ | ⟨c, N, g1, g2, cur, T, g3, g4, g5⟩
      · cases k with
        | cells l' => exact h2.elim
        | arr sz' n' f' =>
          obtain ⟨rfl, rfl, _⟩ := h2
          exact .inl ⟨(hcut b hlt).trans g1, _, _, rfl⟩
      · refine .inr ⟨c, N, (hcut b hlt).trans g1, g2, cur, T, g3, g4, ?_⟩
        cases k' with
        | cells l =>
          cases k with
          | cells l' => exact ⟨VRels.ren hcut l' ((AVEqs.rel h2 g5.1).kept hk) hub, g5.2⟩
          | arr sz n f => exact h2.elim
        | arr sz n f =>
          cases k with
          | cells l' => exact h2.elim
          | arr sz' n' f' =>
            obtain ⟨rfl, rfl, hff⟩ := h2
            obtain ⟨q1, q2, q3⟩ := g5
            exact ⟨q1, q2, fun i hi => ⟨(AVEqs.length (hff i hi)).symm.trans (q3 i hi).1, AVEqs.rel (hff i hi) ((q3 i hi).2.1.kept hk), (q3 i hi).2.2⟩⟩
    · exact .inl ⟨(hcut b hlt).trans (R.dom _ h1), h2⟩
  · obtain ⟨k1, e1, _⟩ := hold b k c N h1 (hη' _ _ _ h3).1
    obtain ⟨k2, e2, _⟩ := hold b' k' c N' h2 (hη' _ _ _ h4).1
    exact aparts_of hn (live_mem h1) (live_mem h2) (R.h.inj (ρ b) (ρ b') k1 k2 c N N' e1 e2 (hη' _ _ _ h3).1 (hη' _ _ _ h4).1)
  · obtain ⟨u, h1, h2⟩ := he t v ht
    obtain ⟨x, g1, g2⟩ := R.env t u h1
    have := List.all_eq_true.1 hu.1 _ (look_mem ht)
    exact ⟨x, g1, VRel.ren hcut v ((h2.rel g2).kept hk) this⟩
  · show (if b < s2.next then η (ρ b) else none) = none
    rw [if_neg (by omega)]
  · rw [hcut b (by omega), hfix b hb]; exact R.eta b hb

/-- A proposition as it stands. -/
structure The (p : Prop) : Prop where
  h : p
/-- A loop as a sequence of states: 'I k' is what holds ahead of round k; 'N': there are no more rounds; 'r': how a state's blocks are numbered; it ends in 's1' by 'e1' if 'b', else in 's2' by 'e2'. -/
structure Lp where
  m : Nat
  I : Nat → St
  N : Nat
  r : St → Nat → Nat
  b : Bool
  e1 : Exit
  s1 : St
  e2 : Exit
  s2 : St
def exitEq : Exit → Exit → Bool
  | .exit a, .exit b => Nat.beq a b
  | .ret, .ret => true
  | _, _ => false
theorem exitEq_eq {a b : Exit} (h : exitEq a b = true) : a = b := by
  unfold exitEq at h
  split at h
  · rw [Nat.eq_of_beq_eq_true h]
  · rfl
  · cases h
def Lp.go (F : Lp) : Nat → St → Option (Prop × Bool × (Exit × St) × (Exit × St)) := fun m s => match Nat.beq m F.m with
  | true => some (StLe F.m (F.r s) s (F.I 0) (The (0 < F.N)), F.b, (F.e1, F.s1), (F.e2, F.s2))
  | false => none
def Lp.out (F : Lp) (e : Exit) (s : St) : Prop := match exitEq e F.e1 with
  | true => StLe F.m (F.r s) s F.s1 (The (F.b = true))
  | false => match exitEq e F.e2 with
    | true => StLe F.m (F.r s) s F.s2 (The (F.b = false))
    | false => False
def Lp.nxt (F : Lp) (k : Nat) : Exit → St → Prop := fun e s => match e with
  | .normal => StLe F.m (F.r s) s (F.I (k + 1)) (The (k + 1 < F.N))
  | .exit j => F.out (.exit j) s
  | .ret => F.out .ret s
  | _ => False

/-- A loop, by a sequence of states. -/
theorem loop_of (hmix : P.follows .mixedOrders = true) {fid : FuncId} {fuel : Nat} {b : Code} (F : Lp)
    (round : ∀ k, k < F.N → ∃ (cfg : Cfg) (callE : CallE), CfgOk P cfg ∧ SoundC P callE ∧ MonoC callE ∧ DetC callE ∧ LoopsOk P cfg fid b ∧ codeE P callE cfg fid fuel F.m b (F.I k) (F.nxt k)) {s : St} {c : Prop} {t : Bool} {t1 t2 : Exit × St} (hg : F.go F.m s = some (c, t, t1, t2)) (hcc : c) : LoopSound P F.m b s (sel t t1 t2).1 (sel t t1 t2).2 := by
  intro A η a w hu hm R
  unfold Lp.go at hg
  rw [Nat.beq_refl] at hg
  simp only [Option.some.injEq, Prod.mk.injEq] at hg
  obtain ⟨rfl, rfl, rfl, rfl⟩ := hg
  rw [← hm] at hcc
  obtain ⟨⟨h0⟩, η0, R0⟩ := R.le hcc
  refine wp_loop_n (fun n a w => ∃ k η, k < F.N ∧ F.N < n + k + 1 ∧ Rel A η (F.I k) a w) (fun a w ⟨k, η, h1, h2, _⟩ => by omega) (fun n a w ⟨k, η, hk, hn, R⟩ => ?_) (n := F.N) ⟨0, η0, h0, by omega, R0⟩
  obtain ⟨cfg, callE, hc, hs', hmo, hdt, hl, hround⟩ := round k hk
  refine wp_mono (codeE_sound (Q := F.nxt k) hc hs' hmo hdt hmix hl hu R (by rw [hm]; exact hround)) fun e a' w' ⟨η', s', hq, R'⟩ => ?_
  have fin : F.out e s' → e ≠ .normal → Exit.then (fun a' w' => ∃ k η, k < F.N ∧ F.N < n + k + 1 ∧ Rel A η (F.I k) a' w') (fun e1 a' w' => e1 = (sel F.b (F.e1, F.s1) (F.e2, F.s2)).1 ∧ ∃ η', Rel A η' (sel F.b (F.e1, F.s1) (F.e2, F.s2)).2 a' w') e a' w' := fun h hne => by
    have hres : e = (sel F.b (F.e1, F.s1) (F.e2, F.s2)).1 ∧ ∃ η', Rel A η' (sel F.b (F.e1, F.s1) (F.e2, F.s2)).2 a' w' := by
      unfold Lp.out at h
      split at h
      · rename_i he
        rw [← hm] at h
        obtain ⟨⟨hb⟩, η2, R2⟩ := R'.le h
        rw [hb]
        exact ⟨exitEq_eq he, η2, R2⟩
      · split at h
        · rename_i he
          rw [← hm] at h
          obtain ⟨⟨hb⟩, η2, R2⟩ := R'.le h
          rw [hb]
          exact ⟨exitEq_eq he, η2, R2⟩
        · exact h.elim
    cases e <;> first
      | exact hres
      | exact absurd rfl hne
  cases e <;> simp only [Lp.nxt] at hq
  case normal =>
    rw [← hm] at hq
    obtain ⟨⟨h1⟩, η2, R2⟩ := R'.le hq
    exact ⟨k + 1, η2, h1, by omega, R2⟩
  all_goals first
    | exact hq.elim
    | exact fin hq (fun h => by cases h)
end

/-! reading a state -/
def atE (s : St) (t : Nat) : Option AV := look s.env t
def atC (s : St) (b i : Nat) : Option AV := match Heap.live s.heap b with
  | some (.cells l) => l[i]?
  | _ => none
def bk (s : St) (d : Nat) : Option AV → Nat
  | some (.sl _ b _ _) => b
  | some (.ptr b _) => b
  | _ => s.next + d
end Go.Ev
