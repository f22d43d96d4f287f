/- Own text: code and functions come out as the evaluator says. -/
import Derived.Test.YtlofmgdjnaajjaaEv24
namespace Go.Ev
open Go Go.RowKit
set_option linter.unusedVariables false
set_option linter.unusedSimpArgs false

def loopsIn : Code → List Code
  | .seq a b => loopsIn a ++ loopsIn b
  | .cond _ a b => loopsIn a ++ loopsIn b
  | .block _ b => loopsIn b
  | .loop b => b :: loopsIn b
  | _ => []

def sel (t : Bool) (a b : Exit × St) : Exit × St := match t with
  | true => a
  | false => b
/-- A loop that comes from state s to state s'. -/
def LoopSound (P : Program) (m : Nat) (b : Code) (s : St) (e : Exit) (s' : St) : Prop :=
  ∀ (A : Anc) (η : Eta) (a : Act) (w : World), codeUnder A.N b = true → A.m = m → Rel A η s a w → (Code.loop b).wp P (fun e1 a' w' => e1 = e ∧ ∃ η', Rel A η' s' a' w') a w

def LoopsOk (P : Program) (cfg : Cfg) (fid : FuncId) (c : Code) : Prop := ∀ b, b ∈ loopsIn c → ∀ g, cfg.loop fid (firstReg b) = some g → ∀ m s c t t1 t2, g m s = some (c, t, t1, t2) → c → LoopSound P m b s (sel t t1 t2).1 (sel t t1 t2).2

section
variable {P : Program} {callE : CallE} {cfg : Cfg} {fid : FuncId} {A : Anc}

theorem wp_loop_n {c : Code} {Q : Exit → Act → World → Prop} (I : Nat → Act → World → Prop) (h0 : ∀ a w, ¬ I 0 a w) (round : ∀ n a w, I (n + 1) a w → c.wp P (Exit.then (fun a' w' => I n a' w') Q) a w) {n : Nat} {a : Act} {w : World} (h : I n a w) : (Code.loop c).wp P Q a w := by
  intro b k cs
  have key : ∀ n a w, I n a w → ∃ e a' w', Q e a' w' ∧ Arrives P (lone (b.at a (.code c :: .inLoop c :: k)) cs w) b k cs e a' w' := by
    intro n
    induction n with
    | zero => exact fun a w h => absurd h (h0 a w)
    | succ n ih =>
      intro a w hI
      obtain ⟨e, a₁, w₁, hq, harr⟩ := round n a w hI b (.inLoop c :: k) cs
      cases e with
      | normal =>
        obtain ⟨e₂, a₂, w₂, hq₂, harr₂⟩ := ih a₁ w₁ hq
        exact ⟨e₂, a₂, w₂, hq₂, .of_steps (Steps.trans harr (.one step_inLoop)) harr₂⟩
      | exit id => exact ⟨_, a₁, w₁, hq, .pass (x := .inLoop c) rfl (fun _ _ => .inl (by simp)) harr⟩
      | goto l => exact ⟨_, a₁, w₁, hq, .pass (x := .inLoop c) rfl (fun _ _ => .inl (by simp)) harr⟩
      | ret => exact ⟨_, a₁, w₁, hq, .pass (x := .inLoop c) rfl (fun _ _ => .inl (by simp)) harr⟩
      | panic ch => exact ⟨_, a₁, w₁, hq, .pass (x := .inLoop c) rfl (fun _ _ => .inl (by simp)) harr⟩
      | outgrown => exact ⟨_, a₁, w₁, hq, .pass (x := .inLoop c) rfl (fun _ _ => .inl (by simp)) harr⟩
  obtain ⟨e, a', w', hq, harr⟩ := key n a w h
  exact ⟨e, a', w', hq, .of_steps (.one step_loop) harr⟩

theorem codeE_sound (hc : CfgOk P cfg) (hs' : SoundC P callE) (hm : MonoC callE) (hdt : DetC callE) (hmix : P.follows .mixedOrders = true) {fuel : Nat} : ∀ {c : Code} {s : St} {Q : Exit → St → Prop}, LoopsOk P cfg fid c → codeUnder A.N c = true → ∀ {η : Eta} {a : Act} {w : World}, Rel A η s a w → codeE P callE cfg fid fuel A.m c s Q → c.wp P (fun e a' w' => ∃ η' s', Q e s' ∧ Rel A η' s' a' w') a w
  | .skip, s, Q, hl, hu, η, a, w, R, h => wp_skip ⟨η, s, h, R⟩
  | .label _, s, Q, hl, hu, η, a, w, R, h => wp_label ⟨η, s, h, R⟩
  | .exit _, s, Q, hl, hu, η, a, w, R, h => wp_exit ⟨η, s, h, R⟩
  | .ret, s, Q, hl, hu, η, a, w, R, h => wp_ret ⟨η, s, h, R⟩
  | .region id ops d, s, Q, hl, hu, η, a, w, R, h => by
    simp only [codeE] at h
    split at h
    · exact wp_region_list (regE_sound hc hs' (fun s η a w hK hR => ⟨η, s, hK, hR⟩) hu R h)
    · split at h
      · rename_i hok
        exact regD_sound hc hs' hm hdt hmix hok hu (fun s η a w hK hR => ⟨η, s, hK, hR⟩) R h
      · exact h.elim
  | .seq x y, s, Q, hl, hu, η, a, w, R, h => by
    simp only [codeE] at h
    have hu := and_split hu
    have h1 := codeE_sound hc hs' hm hdt hmix (c := x) (fun b hb => hl b (List.mem_append_left _ hb)) hu.1 R h
    refine wp_seq (wp_mono h1 fun e a' w' ⟨η', s', hq, R'⟩ => ?_)
    cases e <;> simp only [Exit.then] at hq ⊢ <;> first
      | exact codeE_sound hc hs' hm hdt hmix (c := y) (fun b hb => hl b (List.mem_append_right _ hb)) hu.2 R' hq
      | exact ⟨η', s', hq, R'⟩
  | .cond c x y, s, Q, hl, hu, η, a, w, R, h => by
    simp only [codeE] at h
    have hu := and_split hu
    split at h
    · rename_i t ht
      have he := vrel_v (opA_rel R.env c _ ht)
      split at h
      · exact wp_cond_true he (codeE_sound hc hs' hm hdt hmix (c := x) (fun b hb => hl b (List.mem_append_left _ hb)) hu.1 R h)
      · exact wp_cond_false he (codeE_sound hc hs' hm hdt hmix (c := y) (fun b hb => hl b (List.mem_append_right _ hb)) hu.2 R h)
    · exact h.elim
  | .block id b, s, Q, hl, hu, η, a, w, R, h => by
    simp only [codeE] at h
    refine wp_block (wp_mono (codeE_sound hc hs' hm hdt hmix (c := b) hl hu R h) fun e a' w' ⟨η', s', hq, R'⟩ => ?_)
    cases e <;> simp only [Exit.inBlock] at hq ⊢ <;> first
      | exact ⟨η', s', hq, R'⟩
      | (split at hq
         · rename_i he
           rw [if_pos (Nat.eq_of_beq_eq_true he)]
           exact ⟨η', s', hq, R'⟩
         · rename_i he
           rw [if_neg (fun e => by rw [e, Nat.beq_refl] at he; cases he)]
           exact ⟨η', s', hq, R'⟩)
  | .loop b, s, Q, hl, hu, η, a, w, R, h => by
    simp only [codeE] at h
    split at h
    · rename_i g hg
      split at h
      · rename_i c t e1 s1 e2 s2 hgs
        obtain ⟨hcc, hq⟩ := h
        refine wp_mono (hl b List.mem_cons_self g hg A.m s c t (e1, s1) (e2, s2) hgs hcc A η a w hu rfl R) fun e1 a' w' ⟨he, η', R'⟩ => ⟨η', _, ?_, R'⟩
        rw [he]
        cases t <;> exact hq
      · exact h.elim
    · have hb : ∀ {s : St} {Q : Exit → St → Prop} {η : Eta} {a : Act} {w : World}, Rel A η s a w → codeE P callE cfg fid fuel A.m b s Q → b.wp P (fun e a' w' => ∃ η' s', Q e s' ∧ Rel A η' s' a' w') a w :=
        fun R h => codeE_sound hc hs' hm hdt hmix (c := b) (fun b' hb' => hl b' (List.mem_cons_of_mem _ hb')) hu R h
      refine wp_loop_n (fun k a w => ∃ s η, Rel A η s a w ∧ loopU (fun s Q => codeE P callE cfg fid fuel A.m b s Q) k s Q) (fun a w ⟨s, η, _, hh⟩ => hh.elim) (fun n a w ⟨s, η, R, hh⟩ => ?_) (n := fuel) ⟨s, η, R, h⟩
      refine wp_mono (hb R hh) fun e a' w' ⟨η', s', hq, R'⟩ => ?_
      cases e <;> simp only [Exit.then] at hq ⊢ <;> first
        | exact ⟨s', η', R', hq⟩
        | exact ⟨η', s', hq, R'⟩
  | .rangeFunc .., s, Q, hl, hu, η, a, w, R, h => h.elim
  | .scope _, s, Q, hl, hu, η, a, w, R, h => h.elim
  | .goto _, s, Q, hl, hu, η, a, w, R, h => h.elim
  | .refuse _, s, Q, hl, hu, η, a, w, R, h => h.elim

def resSem (tmps : Array Value) : ResultVar → Sem Value
  | .tmp t => pure (tmps.getD t undef)
  | .cell p t => do loadVar t (← asAddr (tmps.getD p undef))

theorem mapM_res {η : Eta} {s : St} {a : Act} {w : World} (R : Rel A η s a w) : ∀ {l : List ResultVar} {vs : List AV}, resVs P s l = some vs →
    ∃ xs : List Value, (l.mapM (resSem a.tmps)).run P w = .ok xs w ∧ VRels w (Own A.O0 η s.heap.live) η vs xs
  | [], vs, h => by
    simp only [resVs, Option.some.injEq] at h
    subst h
    exact ⟨[], by simp, .nil _⟩
  | r :: rs, vs, h => by
    simp only [resVs] at h
    split at h
    · rename_i v vs' hv hvs
      simp only [Option.some.injEq] at h
      subst h
      obtain ⟨xs, h1, h2⟩ := mapM_res R hvs
      cases r with
      | tmp t =>
        simp only [resV] at hv
        obtain ⟨x, g1, g2⟩ := R.env t v hv
        refine ⟨x :: xs, ?_, .cons _ _ _ _ _ g2 h2⟩
        have e1 : a.tmps.getD t undef = x := by simp [g1]
        simp only [List.mapM_cons, resSem, Sem.run_bind, Sem.run_pure, Result.andThen_ok, h1, e1]
      | cell p t =>
        simp only [resV] at hv
        split at hv
        · rename_i pv hp
          obtain ⟨x, g1, g2⟩ := R.env p pv hp
          have e1 : a.tmps.getD p undef = x := by simp [g1]
          obtain ⟨ad, y, hx, hr, hvv⟩ := loadA_run hv g2 R.h (fun b _ => rfl)
          refine ⟨y :: xs, ?_, .cons _ _ _ _ _ hvv h2⟩
          have hA : (asAddr (a.tmps.getD p undef)).run P w = .ok ad w := by rw [e1, hx]; simp [asAddr]
          simp only [List.mapM_cons, resSem, Sem.run_bind, Sem.run_pure, Result.andThen_ok, h1, hA, hr]
        · cases hv
    · cases h

theorem res_rel {η : Eta} {s : St} {a : Act} {w : World} {fn : Func} {v : AV} (R : Rel A η s a w) (h : resE P s fn.results.toList = some v) :
    ∃ x, (results fn a.tmps).run P w = .ok x w ∧ VRel w (Own A.O0 η s.heap.live) η v x := by
  unfold resE at h
  have hm : ∀ (f : ResultVar → Sem Value), fn.results.mapM f = List.toArray <$> fn.results.toList.mapM f := fun f => Array.mapM_eq_mapM_toList
  have hF : results fn a.tmps = (do let vs ← fn.results.mapM (resSem a.tmps); pure (if h : vs.size = 1 then vs[0] else .tuple vs)) := by
    unfold results
    congr 2
  split at h
  · rename_i v0 hvs
    simp only [Option.some.injEq] at h
    subst h
    obtain ⟨xs, h1, h2⟩ := mapM_res R hvs
    obtain ⟨x, rfl⟩ : ∃ x, xs = [x] := by
      have := h2.length
      match xs, this with
      | [x], _ => exact ⟨x, rfl⟩
    cases h2 with
    | cons _ _ _ _ _ g1 _ =>
    refine ⟨x, ?_, g1⟩
    rw [hF]
    simp only [Sem.run_bind, hm, Sem.run_map, h1, Result.andThen_ok]
    rfl
  · rename_i vs hne hvs
    simp only [Option.some.injEq] at h
    subst h
    obtain ⟨xs, h1, h2⟩ := mapM_res R hvs
    refine ⟨.tuple xs.toArray, ?_, .tup _ _ _ h2⟩
    have hlen : xs.length ≠ 1 := fun e => by
      have := h2.length
      cases vs with
      | nil => simp at this; omega
      | cons y r => cases r with
        | nil => exact hne y rfl
        | cons z r => simp at this; omega
    rw [hF]
    simp only [Sem.run_bind, hm, Sem.run_map, h1, Result.andThen_ok]
    rw [dif_neg (by simpa using hlen)]
    rfl
  · cases h

theorem argEnv_look : ∀ {args : List AV} {k t : Nat} {v : AV}, look (argEnv k args) t = some v → k ≤ t ∧ args[t - k]? = some v
  | [], k, t, v, h => by cases h
  | a :: r, k, t, v, h => by
    simp only [argEnv] at h
    by_cases e : k = t
    · subst e
      rw [look_cons_self] at h
      exact ⟨Nat.le_refl _, by simpa using h⟩
    · rw [look_cons_ne _ _ e] at h
      obtain ⟨h1, h2⟩ := argEnv_look h
      refine ⟨by omega, ?_⟩
      rw [show t - k = (t - (k + 1)) + 1 by omega]
      simpa using h2

theorem bodyE_sound (hc : CfgOk P cfg) (hs' : SoundC P callE) (hm : MonoC callE) (hdt : DetC callE) (hmix : P.follows .mixedOrders = true) {fuel : Nat} {fn : Func} {f : FuncId} (hf : P.funcs[f]? = some fn) (hl : ∀ c, fn.body = some c → LoopsOk P cfg f c)
    {args : List AV} {h : Heap} {n : Nat} {K : OpK} (hh : bodyE P callE cfg fuel f fn args h n K) :
    Entry P f ∧ ∀ (O0 : Nat → Prop) (η : Eta) (w : World) (xs : List Value), HRel O0 η (Heap.live h) w → (∀ b, n ≤ b → η b = none) → VRels w (Own O0 η (Heap.live h)) η args xs →
      Calls P f xs.toArray w fun e w' => ∃ x v h' n' η', e = .returned x ∧ K v h' n' ∧ VRel w' (Own O0 η' (Heap.live h')) η' v x ∧ HRel O0 η' (Heap.live h') w' ∧ (∀ b, n' ≤ b → η' b = none) ∧ n ≤ n' ∧ (∀ b, b < n → η' b = η b) ∧ Kept (Own O0 η (Heap.live h)) w (Own O0 η' (Heap.live h')) w' ∧ Below 0 w w' ∧ ∀ c, O0 c → w'.heap[c]? = w.heap[c]? := by
  unfold bodyE at hh
  split at hh
  · rename_i c hbody
    split at hh
    · rename_i hu hname
      refine ⟨⟨fn, hf, hname, by rw [hbody]; rfl⟩, fun O0 η w xs hH hdom hargs => ?_⟩
      refine calls_of_wp hf hbody ?_
      have R : Rel ⟨n, fn.ntmps, O0, η, Own O0 η (Heap.live h), w⟩ η { env := argEnv 0 args, heap := h, next := n } { tmps := xs.toArray ++ Array.replicate (fn.ntmps - xs.toArray.size) undef, defers := [] } w := by
        refine ⟨hH, fun t v ht => ?_, hdom, Nat.le_refl _, fun b _ => rfl, Kept.refl _ _, Below.refl 0 w, fun _ _ => rfl, ?_, rfl⟩
        · obtain ⟨_, h2⟩ := argEnv_look ht
          rw [Nat.sub_zero] at h2
          obtain ⟨x, g1, g2⟩ := hargs.get t v h2
          refine ⟨x, ?_, g2⟩
          have hlt : t < xs.length := (List.getElem?_eq_some_iff.1 g1).1
          rw [Array.getElem?_append_left (by simpa using hlt)]
          simpa using g1
        · simp; omega
      refine wp_mono (codeE_sound hc hs' hm hdt hmix (hl c hbody) hu R hh) fun e a' w' ⟨η', s', hq, R'⟩ => ?_
      have fin : ∀ {v : AV}, resE P s' fn.results.toList = some v → K v s'.heap s'.next → a'.defers = [] ∧ ∃ x, (results fn a'.tmps).run P w' = .ok x w' ∧ ∃ x' v h' n' η', Ending.returned x = .returned x' ∧ K v h' n' ∧ VRel w' (Own O0 η' (Heap.live h')) η' v x' ∧ HRel O0 η' (Heap.live h') w' ∧ (∀ b, n' ≤ b → η' b = none) ∧ n ≤ n' ∧ (∀ b, b < n → η' b = η b) ∧ Kept (Own O0 η (Heap.live h)) w (Own O0 η' (Heap.live h')) w' ∧ Below 0 w w' ∧ ∀ c, O0 c → w'.heap[c]? = w.heap[c]? := fun hr hK => by
        obtain ⟨x, hx, hv⟩ := res_rel R' hr
        exact ⟨R'.defers, x, hx, x, _, s'.heap, s'.next, η', rfl, hK, hv, R'.h, R'.dom, R'.m, R'.eta, R'.kept, R'.low, R'.keep0⟩
      cases e <;> simp only at hq <;> first
        | exact hq.elim
        | (split at hq
           · rename_i v hr
             exact fin hr hq
           · exact hq.elim)
    · exact hh.elim
  · exact hh.elim

/-- What the functions that are entered owe. -/
structure InlOk (P : Program) (cfg : Cfg) : Prop where
  fn : ∀ f fn, cfg.inl f = some fn → P.funcs[f]? = some fn
  loops : ∀ f fn c, cfg.inl f = some fn → fn.body = some c → LoopsOk P cfg f c

theorem callN_sound (hc : CfgOk P cfg) (hi : InlOk P cfg) (hmix : P.follows .mixedOrders = true) {fuel : Nat} : ∀ d, SoundC P (callN P cfg fuel d)
  | 0 => fun f args h n K hh => hh.elim
  | d + 1 => fun f args h n K hh => by
    simp only [callN] at hh
    split at hh
    · rename_i fn hfn
      exact bodyE_sound hc (callN_sound hc hi hmix d) (callN_mono d) (callN_det d) hmix (hi.fn f fn hfn) (fun c hb => hi.loops f fn c hfn hb) hh
    · exact hh.elim

/-- A function's contract, out of what the kernel reckons. -/
theorem pure_of (hc : CfgOk P cfg) (hi : InlOk P cfg) (hmix : P.follows .mixedOrders = true) {fuel d : Nat} {f : FuncId} {args : List AV} {v' : AV} (h : callN P cfg fuel d f args [] 0 fun v h _ => ∃ cc, pubA (Heap.live h) v = some (cc, v') ∧ ∀ p ∈ cc, p) : Entry P f ∧ APure P f args v' :=
  pure_of_call (callN_sound hc hi hmix d) h
end
#print axioms pure_of
end Go.Ev
