/- Own text: states; operations and regions in order. -/
import Derived.Test.YtlofmgdjnaajjaaEv17
namespace Go.Ev
open Go Go.RowKit
set_option linter.unusedVariables false
set_option linter.unusedSimpArgs false

/-- Where an activation began. -/
structure Anc where
  m : Nat
  N : Nat
  O0 : Nat → Prop
  η : Eta
  O : Nat → Prop
  w : World

structure Rel (A : Anc) (η : Eta) (s : St) (a : Act) (w : World) : Prop where
  h : HRel A.O0 η s.heap.live w
  env : ∀ t v, look s.env t = some v → ∃ x, a.tmps[t]? = some x ∧ VRel w (Own A.O0 η s.heap.live) η v x
  dom : ∀ b, s.next ≤ b → η b = none
  m : A.m ≤ s.next
  eta : ∀ b, b < A.m → η b = A.η b
  kept : Kept A.O A.w (Own A.O0 η s.heap.live) w
  low : Below 0 A.w w
  keep0 : ∀ c, A.O0 c → w.heap[c]? = A.w.heap[c]?
  size : A.N ≤ a.tmps.size
  defers : a.defers = []

/-- A call that is entered. -/
def SoundC (P : Program) (callE : CallE) : Prop := ∀ f args h n K, callE f args h n K → Entry P f ∧ ∀ (O0 : Nat → Prop) (η : Eta) (w : World) (xs : List Value), HRel O0 η (Heap.live h) w → (∀ b, n ≤ b → η b = none) → VRels w (Own O0 η (Heap.live h)) η args xs →
  Calls P f xs.toArray w fun e w' => ∃ x v h' n' η', e = .returned x ∧ K v h' n' ∧ VRel w' (Own O0 η' (Heap.live h')) η' v x ∧ HRel O0 η' (Heap.live h') w' ∧ (∀ b, n' ≤ b → η' b = none) ∧ n ≤ n' ∧ (∀ b, b < n → η' b = η b) ∧ Kept (Own O0 η (Heap.live h)) w (Own O0 η' (Heap.live h')) w' ∧ Below 0 w w' ∧ ∀ c, O0 c → w'.heap[c]? = w.heap[c]?

section
variable {P : Program} {callE : CallE} {cfg : Cfg} {fid : FuncId} {o : Oper} {A : Anc}

theorem ofVal_rel {w : World} {O : Nat → Prop} {η : Eta} {c : Value} (h : constOk c = true) : VRel w O η (ofVal c) c := by
  cases c <;> try exact .v _ _
  case agg cs =>
    simp only [ofVal]
    have := VRel.agg (w := w) (O := O) η (cs.toList.map AV.v) cs.toList (VRels.vs η _) (fun u hu => List.all_eq_true.1 (by simpa only [constOk] using h) u hu)
    simpa using this
  case func f a b =>
    simp only [ofVal]
    split
    · rename_i h1 h2
      have ha : a = #[] := Array.eq_empty_of_size_eq_zero h1
      have hb : b = #[] := Array.eq_empty_of_size_eq_zero h2
      subst ha; subst hb
      exact .fn η f [] [] [] [] (.nil η) (.nil η)
    · exact .v _ _

theorem opA_rel {η : Eta} {env : Env} {a : Act} {w : World} {O : Nat → Prop} (henv : ∀ t v, look env t = some v → ∃ x, a.tmps[t]? = some x ∧ VRel w O η v x) (x : Operand) (v : AV) (h : opA env x = some v) : VRel w O η v (a.eval x) := by
  cases x with
  | tmp t =>
    obtain ⟨y, h1, h2⟩ := henv t v h
    simpa [Act.eval, h1] using h2
  | const c =>
    simp only [opA] at h
    split at h
    · rename_i hc
      simp only [Option.some.injEq] at h
      subst h
      exact ofVal_rel hc
    · cases h
  | global g =>
    simp only [opA, Option.some.injEq] at h
    subst h
    exact .v _ _
  | func f =>
    simp only [opA, Option.some.injEq] at h
    subst h
    exact .fn η _ [] [] [] [] (.nil η) (.nil η)

theorem look_set_self {s : St} {d : Tmp} {v : AV} : look (s.set (some d) v).env d = some v := by simp [St.set, look_cons_self]
theorem look_set_ne {s : St} {d t : Tmp} {v : AV} (h : d ≠ t) : look (s.set (some d) v).env t = look s.env t := by simp only [St.set]; exact look_cons_ne _ _ h

/-- Behind a step. -/
theorem Rel.put {η η' : Eta} {s : St} {a : Act} {w w' : World} {h' : Heap} {n' : Nat} {v : AV} {x : Value} {dst : Option Tmp} (R : Rel A η s a w) (hd : ∀ d, dst = some d → d < A.N)
    (he : EtaLe η η') (hsame : ∀ b, b < s.next → η' b = η b) (hdom : ∀ b, n' ≤ b → η' b = none) (hn : s.next ≤ n') (hv : VRel w' (Own A.O0 η' (Heap.live h')) η' v x) (hh : HRel A.O0 η' (Heap.live h') w') (hk : Kept (Own A.O0 η s.heap.live) w (Own A.O0 η' (Heap.live h')) w') (hl : Below 0 w w') (h0 : ∀ c, A.O0 c → w'.heap[c]? = w.heap[c]?) :
    Rel A η' (St.set { s with heap := h', next := n' } dst v) (a.put dst x) w' := by
  have hnext : (St.set { s with heap := h', next := n' } dst v).next = n' := by cases dst <;> rfl
  have hheap : (St.set { s with heap := h', next := n' } dst v).heap = h' := by cases dst <;> rfl
  refine ⟨by rw [hheap]; exact hh, fun t u ht => ?_, by rw [hnext]; exact hdom, by rw [hnext]; exact Nat.le_trans R.m hn, fun b hb => by rw [hsame b (Nat.lt_of_lt_of_le hb R.m)]; exact R.eta b hb, by rw [hheap]; exact R.kept.trans hk R.low.size, R.low.trans hl, fun c hc => (h0 c hc).trans (R.keep0 c hc), ?_, ?_⟩
  · rw [hheap]
    cases dst with
    | none =>
      obtain ⟨y, h1, h2⟩ := R.env t u ht
      exact ⟨y, h1, (h2.kept hk).ext _ he⟩
    | some d =>
      have hlt : d < a.tmps.size := Nat.lt_of_lt_of_le (hd d rfl) R.size
      by_cases hdt : d = t
      · subst hdt
        rw [look_set_self] at ht
        cases ht
        exact ⟨x, by simp [Act.put, hlt], hv⟩
      · rw [look_set_ne hdt] at ht
        obtain ⟨y, h1, h2⟩ := R.env t u ht
        exact ⟨y, by simp only [Act.put]; rw [Array.getElem?_setIfInBounds_ne hdt]; exact h1, (h2.kept hk).ext _ he⟩
  · cases dst <;> simp [Act.put, R.size]
  · cases dst <;> simp [Act.put, R.defers]

theorem Rel.skip {η : Eta} {s : St} {a : Act} {w : World} {dst : Option Tmp} (R : Rel A η s a w) (hd : ∀ d, dst = some d → d < A.N) : Rel A η (s.set dst (.v undef)) (a.put dst undef) w := by
  have := R.put (v := .v undef) (x := undef) (h' := s.heap) (n' := s.next) hd (EtaLe.refl η) (fun b hb => rfl) R.dom (Nat.le_refl _) (.v _ _) R.h (Kept.refl _ _) (Below.refl 0 w) (fun _ _ => rfl)
  exact this

/-- The temporary holds this bool. -/
theorem Rel.bool {η : Eta} {s : St} {a : Act} {w : World} {t : Tmp} {c : Bool} (R : Rel A η s a w) (h : look s.env t = some (.v (.bool c))) : Rel A η { s with env := (t, .v (.bool c)) :: s.env } a w := by
  refine ⟨R.h, fun t' v ht => ?_, R.dom, R.m, R.eta, R.kept, R.low, R.keep0, R.size, R.defers⟩
  by_cases htt : t = t'
  · subst htt
    rw [look_cons_self] at ht
    cases ht
    exact R.env t _ h
  · rw [look_cons_ne _ _ htt] at ht
    exact R.env t' v ht

theorem opE_sound (hc : CfgOk P cfg) (hs : SoundC P callE) {η : Eta} {s : St} {a : Act} {w : World} {K : St → Prop} {Q : Exit → Act → World → Prop} (R : Rel A η s a w) (hd : ∀ d, o.dst = some d → d < A.N) (h : opE P callE cfg fid o s K) :
    o.wp P a w (fun a' w' => ∃ η' s', K s' ∧ Rel A η' s' a' w') Q := by
  have hop : Opd w (Own A.O0 η s.heap.live) η s.env a.eval o.op.operands.toList := fun x _ v hx => opA_rel R.env x v hx
  unfold opE at h
  split at h
  · rename_i f args hinl
    unfold inlOf at hinl
    split at hinl
    · rename_i g as ts hoo
      split at hinl
      · rename_i f' first caps l hg hl
        split at hinl
        · cases hinl
        split at hinl
        · rename_i fn hfn
          simp only [Option.some.injEq, Prod.mk.injEq] at hinl
          obtain ⟨rfl, rfl⟩ := hinl
          obtain ⟨he, hcalls⟩ := hs _ _ _ _ _ h
          have hgr := hop g (by simp [hoo, Op.operands, Call.operands]) _ hg
          have hlr := opAs_rel (w := w) (O := Own A.O0 η s.heap.live) (η := η) (ρ := a.eval) (fun y hy b hb => hop y (by simp [hoo, Op.operands, Call.operands]; exact .inr (by simpa using hy)) b hb) hl
          generalize hgv : a.eval g = gv at hgr
          cases hgr with
          | fn _ _ _ _ xf xc h1 h2 =>
          have hall := hcalls A.O0 η w _ R.h R.dom ((h1.append hlr).append h2)
          have hgoes : Goes P o a.eval w (fun x w' => ∃ v h' n' η', K (St.set { s with heap := h', next := n' } o.dst v) ∧ VRel w' (Own A.O0 η' (Heap.live h')) η' v x ∧ HRel A.O0 η' (Heap.live h') w' ∧ (∀ b, n' ≤ b → η' b = none) ∧ s.next ≤ n' ∧ (∀ b, b < s.next → η' b = η b) ∧ Kept (Own A.O0 η s.heap.live) w (Own A.O0 η' (Heap.live h')) w' ∧ Below 0 w w' ∧ ∀ c, A.O0 c → w'.heap[c]? = w.heap[c]?) :=
            goes_enter he hoo hgv (hall.mono fun e w' ⟨x, v, h', n', η', hx, hK, rest⟩ => ⟨x, hx, v, h', n', η', hK, rest⟩)
          refine hgoes.wp fun x w' ⟨v, h', n', η', hK, k1, k2, k3, k4, k5, k6, k7, k8⟩ => ⟨η', _, hK, R.put hd (fun b c N hb => ?_) k5 k3 k4 k1 k2 k6 k7 k8⟩
          rw [k5 b (Nat.lt_of_not_le fun hle => by rw [R.dom b hle] at hb; cases hb)]; exact hb
        · cases hinl
      · cases hinl
    · cases hinl
  · obtain ⟨v, u, n', h1, h2⟩ := opL_det h
    obtain ⟨hg, hnn⟩ := opL_sound hc h1 hop R.h (fun b _ => rfl) (fun _ => R.dom _ (Nat.le_refl _))
    refine hg.wp fun x w' ⟨η', k1, k2, k3, k4, k5, k6, k7⟩ => ⟨η', _, h2, R.put hd k1 (fun b hb => k2 b (by omega)) (fun b hb => ?_) hnn ?_ ?_ ?_ k6 k7⟩
    · rw [k2 b (by omega)]; exact R.dom b (by omega)
    · rw [live_append]; exact k3
    · rw [live_append]; exact k4
    · rw [live_append]; exact k5

theorem yielded_of {η : Eta} {s : St} {a : Act} {w : World} {ops : Array Oper} {j : Nat} {t : Tmp} {y : Value} (R : Rel A η s a w) (hj : (ops[j]?).bind (·.dst) = some t) (ht : look s.env t = some (.v y)) : yielded ops a.tmps j = (match y with | .bool b => some b | _ => none) := by
  obtain ⟨x, h1, h2⟩ := R.env t _ ht
  cases vrel_v h2
  unfold yielded
  rw [hj]
  simp only [Option.bind_some, h1]
  cases y <;> rfl

theorem wpList_of {ops : Array Oper} {rest : List Oper} {a : Act} {w : World} {Q : Exit → Act → World → Prop} {c : Bool} (hw : Region.wanted o (yielded ops a.tmps) = c) (h1 : c = true → o.wp P a w (wpList P ops Q rest) Q) (h2 : c = false → wpList P ops Q rest (a.put o.dst undef) w) : wpList P ops Q (o :: rest) a w := by
  unfold wpList
  rw [hw]
  cases c
  · simpa using h2 rfl
  · simpa using .inl (h1 rfl)

theorem dst_under {n : Nat} {r : List Oper} (h : dstUnder n (o :: r) = true) : (∀ d, o.dst = some d → d < n) ∧ dstUnder n r = true := by
  simp only [dstUnder] at h
  have := and_split h
  refine ⟨fun d hd => ?_, this.2⟩
  rw [hd] at this
  exact blt_lt this.1

theorem regE_sound (hc : CfgOk P cfg) (hs : SoundC P callE) {ops : Array Oper} {K : St → Prop} {Q : Exit → Act → World → Prop} (hQ : ∀ s η a w, K s → Rel A η s a w → Q .normal a w) : ∀ {l : List Oper} {s : St} {η : Eta} {a : Act} {w : World}, dstUnder A.N l = true → Rel A η s a w → regE P callE cfg fid ops l s K → wpList P ops Q l a w
  | [], s, η, a, w, _, R, h => hQ s η a w h R
  | o :: rest, s, η, a, w, hd, R, h => by
    obtain ⟨hd1, hd2⟩ := dst_under hd
    have run : ∀ {s : St}, Rel A η s a w → Region.wanted o (yielded ops a.tmps) = true → opE P callE cfg fid o s (fun s' => regE P callE cfg fid ops rest s' K) → wpList P ops Q (o :: rest) a w := fun R hw h =>
      wpList_of hw (fun _ => Oper.wp_mono (fun a' w' ⟨η', s', h1, h2⟩ => regE_sound hc hs hQ hd2 h2 h1) (opE_sound hc hs R hd1 h)) (fun e => by cases e)
    have skip : ∀ {s : St}, Rel A η s a w → Region.wanted o (yielded ops a.tmps) = false → regE P callE cfg fid ops rest (s.set o.dst (.v undef)) K → wpList P ops Q (o :: rest) a w := fun R hw h =>
      wpList_of hw (fun e => by cases e) (fun _ => regE_sound hc hs hQ hd2 (R.skip hd1) h)
    simp only [regE] at h
    split at h
    · rename_i hg
      exact run R (by simp [Region.wanted, hg]) h
    · rename_i j want hg
      split at h
      · rename_i t hj
        split at h
        · rename_i c ht
          have hy := yielded_of R hj ht
          split at h
          · exact run (R.bool ht) (by simp [Region.wanted, hg, hy]) h
          · exact skip (R.bool ht) (by simp [Region.wanted, hg, hy]) h
          · exact run (R.bool ht) (by simp [Region.wanted, hg, hy]) h
          · exact skip (R.bool ht) (by simp [Region.wanted, hg, hy]) h
        · rename_i vs ht
          have hy := yielded_of R hj ht
          exact skip R (by simp [Region.wanted, hg, hy]) h
        · exact h.elim
      · exact h.elim
end
end Go.Ev
