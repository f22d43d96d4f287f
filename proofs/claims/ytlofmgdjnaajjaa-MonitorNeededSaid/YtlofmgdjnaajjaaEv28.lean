/- Own text: loops in tables. -/
import Derived.Test.YtlofmgdjnaajjaaEv27
namespace Go.Ev
open Go Go.RowKit
set_option linter.unusedVariables false
set_option linter.unusedSimpArgs false

/-- The loops of a function that begin at a region. -/
def loopsAt (i : Nat) : List Code → List Code
  | [] => []
  | b :: r => match Nat.beq (firstReg b) i with
    | true => b :: loopsAt i r
    | false => loopsAt i r
noncomputable def bodyOf (P : Program) (f : FuncId) : Code := match P.funcs[f]? with
  | some fn => match fn.body with
    | some c => c
    | none => .skip
  | none => .skip
noncomputable def loopB (P : Program) (f : FuncId) (i : Nat) : Code := match loopsAt i (loopsIn (bodyOf P f)) with
  | b :: _ => b
  | [] => .skip
noncomputable def loopOne (P : Program) (f : FuncId) (i : Nat) : Bool := match loopsAt i (loopsIn (bodyOf P f)) with
  | [_] => true
  | _ => false
theorem loopsAt_mem {i : Nat} {b : Code} : ∀ {l : List Code}, b ∈ l → firstReg b = i → b ∈ loopsAt i l
  | [], h, _ => by cases h
  | b0 :: r, h, hi => by
    rcases List.mem_cons.1 h with h | h
    · subst h
      simp only [loopsAt, hi, Nat.beq_refl]
      exact List.mem_cons_self
    · simp only [loopsAt]
      split
      · exact List.mem_cons_of_mem _ (loopsAt_mem h hi)
      · exact loopsAt_mem h hi
theorem loopB_of {P : Program} {f : FuncId} {i : Nat} (h1 : loopOne P f i = true) {fn : Func} {c b : Code} (hf : P.funcs[f]? = some fn) (hb : fn.body = some c) (hm : b ∈ loopsIn c) (hi : firstReg b = i) : b = loopB P f i := by
  have hc : bodyOf P f = c := by simp only [bodyOf, hf, hb]
  have hm := loopsAt_mem hm hi
  unfold loopOne at h1
  unfold loopB
  rw [hc] at h1 ⊢
  generalize loopsAt i (loopsIn c) = l at h1 hm
  match l with
  | [] => cases h1
  | [b'] => simpa using hm
  | _ :: _ :: _ => cases h1
theorem loopsIn_trans {b : Code} : ∀ {c b' : Code}, b ∈ loopsIn c → b' ∈ loopsIn b → b' ∈ loopsIn c
  | .seq a c, b', h, h' => by
    simp only [loopsIn, List.mem_append] at h ⊢
    exact h.imp (fun h => loopsIn_trans h h') (fun h => loopsIn_trans h h')
  | .cond _ a c, b', h, h' => by
    simp only [loopsIn, List.mem_append] at h ⊢
    exact h.imp (fun h => loopsIn_trans h h') (fun h => loopsIn_trans h h')
  | .block _ c, b', h, h' => by
    simp only [loopsIn] at h ⊢
    exact loopsIn_trans h h'
  | .loop c, b', h, h' => by
    simp only [loopsIn] at h ⊢
    rcases List.mem_cons.1 h with h | h
    · subst h; exact List.mem_cons_of_mem _ h'
    · exact List.mem_cons_of_mem _ (loopsIn_trans h h')
  | .skip, b', h, h' => by cases h
  | .label _, b', h, h' => by cases h
  | .exit _, b', h, h' => by cases h
  | .ret, b', h, h' => by cases h
  | .region _ _ _, b', h, h' => by cases h
  | .rangeFunc .., b', h, h' => by cases h
  | .scope _, b', h, h' => by cases h
  | .goto _, b', h, h' => by cases h
  | .refuse _, b', h, h' => by cases h

/-- An entry of the table of loops holds. -/
def LoopOk (P : Program) (e : FuncId × Nat × LoopG) : Prop := ∀ fn c b, P.funcs[e.1]? = some fn → fn.body = some c → b ∈ loopsIn c → firstReg b = e.2.1 → ∀ m s q t t1 t2, e.2.2 m s = some (q, t, t1, t2) → q → LoopSound P m b s (sel t t1 t2).1 (sel t t1 t2).2
theorem findL_mem : ∀ {l : List (FuncId × Nat × LoopG)} {f i : Nat} {g : LoopG}, findL l f i = some g → (f, i, g) ∈ l
  | [], f, i, g, h => by cases h
  | (f0, i0, g0) :: r, f, i, g, h => by
    simp only [findL] at h
    split at h
    · rename_i h1 h2
      cases h
      rw [Nat.eq_of_beq_eq_true h1, Nat.eq_of_beq_eq_true h2]
      exact List.mem_cons_self
    · exact List.mem_cons_of_mem _ (findL_mem h)
section
variable {P : Program} {cs : List Ctr} {inl : List FuncId} {loops : List (FuncId × Nat × LoopG)} {own : List (Nat × Nat)}
theorem mkLoops_ok (h : ∀ e ∈ loops, LoopOk P e) : ∀ f fn c, P.funcs[f]? = some fn → fn.body = some c → LoopsOk P (mkCfg P cs inl loops own) f c :=
  fun f fn c hf hb b hm g hg m s q t t1 t2 hgs hq => h _ (findL_mem hg) fn c b hf hb hm rfl m s q t t1 t2 hgs hq
theorem mkInl_okL (h : ∀ e ∈ loops, LoopOk P e) : InlOk P (mkCfg P cs inl loops own) := mkInl_ok (mkLoops_ok h)
/-- A loop's entry, out of what one round does. -/
theorem lp_ok (F : Lp) (hmix : P.follows .mixedOrders = true) (cs : List Ctr) (inl : List FuncId) (own : List (Nat × Nat)) (hcs : ∀ c ∈ cs, CtrOk P c) {f : FuncId} {i fuel d : Nat} (h1 : loopOne P f i = true)
    (round : ∀ k, k < F.N → ∃ loops : List (FuncId × Nat × LoopG), (∀ e ∈ loops, LoopOk P e) ∧ codeE P (callN P (mkCfg P cs inl loops own) fuel d) (mkCfg P cs inl loops own) f fuel F.m (loopB P f i) (F.I k) (F.nxt k)) : LoopOk P (f, i, F.go) := by
  intro fn c b hf hb hm hi m s q t t1 t2 hgs hq
  have hbb := loopB_of h1 hf hb hm hi
  rw [← hbb] at round
  have hmm : m = F.m := by
    simp only [Lp.go] at hgs
    split at hgs
    · rename_i he; exact Nat.eq_of_beq_eq_true he
    · cases hgs
  subst hmm
  refine loop_of (fid := f) (fuel := fuel) hmix F (fun k hk => ?_) hgs hq
  obtain ⟨loops, hls, hr⟩ := round k hk
  have hc := mkCfg_ok (P := P) (cs := cs) (inl := inl) (loops := loops) (own := own) hcs
  exact ⟨_, _, hc, callN_sound hc (mkInl_okL hls) hmix d, callN_mono d, callN_det d, fun b' hb' => mkLoops_ok hls f fn c hf hb b' (loopsIn_trans hm hb'), hr⟩
/-- A contract, out of what the kernel reckons at arguments that read alike. -/
theorem ctr_of'' (hmix : P.follows .mixedOrders = true) (cs : List Ctr) (inl : List FuncId) (own : List (Nat × Nat)) (hcs : ∀ c ∈ cs, CtrOk P c) {fuel d : Nat} {f : FuncId} {g : List AV → Option (Prop × AV)} (he : Entry P f)
    (h : ∀ args p v, g args = some (p, v) → p → ∃ args', AVEqs args args' ∧ ∃ loops : List (FuncId × Nat × LoopG), (∀ e ∈ loops, LoopOk P e) ∧ callN P (mkCfg P cs inl loops own) fuel d f args' [] 0 (Reads v)) : CtrOk P ⟨f, g⟩ :=
  ⟨he, fun args p v hv hp => by
    obtain ⟨args', h1, loops, hls, h2⟩ := h args p v hv hp
    exact fun w O xs hO ha => (pure_of' (mkCfg_ok hcs) (mkInl_okL hls) hmix h2).2 w O xs hO (h1.rel ha)⟩
end
end Go.Ev
