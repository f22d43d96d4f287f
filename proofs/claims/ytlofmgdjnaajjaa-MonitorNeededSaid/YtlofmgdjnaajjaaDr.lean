/- Own text: the bounds of drifts. -/
import Derived.Test.YtlofmgdjnaajjaaBs
namespace Go.Proofs.Ytlofmgdjnaajjaa
open Go Go.Ev Go.Proofs
set_option linter.unusedVariables false
set_option linter.unusedSimpArgs false
attribute [local irreducible] Go.Ev.callN Go.Ev.codeE
/-- An interval. -/
structure Itv where
  lo : Int
  hi : Int
/-- A drift. -/
structure Dr where
  lo : Int
  hi : Int
  step : Int
  err : Int
namespace Dr
structure ok (d : Dr) : Prop where
  h1 : 1 ≤ d.lo
  h2 : d.lo ≤ d.hi
  h3 : d.hi ≤ 1000000
  h4 : 0 ≤ d.step
  h5 : d.step ≤ 1000000
  h6 : 0 ≤ d.err
  h7 : d.err ≤ 1000000
def clamp (r : Int) : Int := min (max r (-2000000000)) 2000000000
theorem clamp_in (r : Int) : -2000000000 ≤ clamp r ∧ clamp r ≤ 2000000000 := by unfold clamp; omega
/-- The interval behind the first readings. -/
def sp (d : Dr) (g : Nat → Int) : Nat → Itv
  | 0 => ⟨d.lo, d.hi⟩
  | k + 1 => ⟨max (max ((sp d g k).lo - d.step) (clamp (g k) - d.err)) 1, min (min ((sp d g k).hi + d.step) (clamp (g k) + d.err)) (2000000000 - d.err - 1)⟩
theorem sp_in (d : Dr) (h : d.ok) (g : Nat → Int) : ∀ k, 1 ≤ (d.sp g k).lo ∧ (d.sp g k).lo ≤ 2000000000 ∧ -2000000000 ≤ (d.sp g k).hi ∧ (d.sp g k).hi ≤ 2000000000
  | 0 => by obtain ⟨h1, h2, h3, h4, h5, h6, h7⟩ := h; simp only [sp]; omega
  | k + 1 => by
    have h0 := sp_in d h g k
    have hc := clamp_in (g k)
    obtain ⟨h1, h2, h3, h4, h5, h6, h7⟩ := h
    simp only [sp]; omega
def okAt (d : Dr) (g : Nat → Int) (k : Nat) : Bool := decide ((d.sp g (k + 1)).lo ≤ (d.sp g (k + 1)).hi)
/-- How many readings do not contradict the drift. -/
def got (d : Dr) (g : Nat → Int) (n : Nat) : Nat := lead (d.okAt g) n
theorem got_le (d : Dr) (g : Nat → Int) (n : Nat) : d.got g n ≤ n := lead_le _ _
end Dr
def F_pass (d : Dr) (R : IL) : Lp where
  m := 4
  I := fun k => { env := [(2, .fn (.func 44) [] [.ptr 3 0]), (3, .ptr 4 0), (6, .v (.int .i64 0)), (7, .ptr 5 0), (15, R.av), (16, .v (.int .i64 (R.n : Int))), (17, .v (.int .i64 (k : Int)))]
                  heap := [(0, some (.cells [.any, .any, .any, .any])), (1, some (.cells [.v (.int .i64 d.lo), .v (.int .i64 d.hi), .v (.int .i64 d.step), .v (.int .i64 d.err)])), (2, some (.cells [.v (.int .i64 d.lo), .v (.int .i64 d.hi), .v (.int .i64 d.step), .v (.int .i64 d.err)])),
                    (3, some (.cells [.sl 2 6 0 (k + 1)])), (4, some (.cells [.v (.int .i64 d.lo), .v (.int .i64 d.hi), .v (.int .i64 d.step), .v (.int .i64 d.err)])), (5, some (.cells [.v (.int .i64 (d.sp R.g k).lo), .v (.int .i64 (d.sp R.g k).hi)])),
                    (6, some (.arr 2 (k + 1) (fun i => [.v (.int .i64 (d.sp R.g i).lo), .v (.int .i64 (d.sp R.g i).hi)])))]
                  next := 7 }
  N := d.got R.g R.n + 1
  r := fun s => fun
    | 6 => bk s 0 (atC s 3 0)
    | n => n
  b := decide (d.got R.g R.n = R.n)
  e1 := .exit 0
  s1 := { env := []
          heap := [(0, some (.cells [.any, .any, .any, .any])), (1, some (.cells [.v (.int .i64 d.lo), .v (.int .i64 d.hi), .v (.int .i64 d.step), .v (.int .i64 d.err)])), (2, some (.cells [.v (.int .i64 d.lo), .v (.int .i64 d.hi), .v (.int .i64 d.step), .v (.int .i64 d.err)])),
                    (3, some (.cells [.sl 2 6 0 (d.got R.g R.n + 1)])), (6, some (.arr 2 (d.got R.g R.n + 1) (fun i => [.v (.int .i64 (d.sp R.g i).lo), .v (.int .i64 (d.sp R.g i).hi)])))]
          next := 7 }
  e2 := .ret
  s2 := { env := [(6, .v (.int .i64 440))]
          heap := [(0, some (.cells [.any, .any, .any, .any])), (1, some (.cells [.v (.int .i64 d.lo), .v (.int .i64 d.hi), .v (.int .i64 d.step), .v (.int .i64 d.err)])), (2, some (.cells [.v (.int .i64 d.lo), .v (.int .i64 d.hi), .v (.int .i64 d.step), .v (.int .i64 d.err)])),
                    (3, some (.cells [.sl 2 6 0 (d.got R.g R.n + 1)])), (6, some (.arr 2 (d.got R.g R.n + 1) (fun i => [.v (.int .i64 (d.sp R.g i).lo), .v (.int .i64 (d.sp R.g i).hi)])))]
          next := 7 }
set_option maxRecDepth 100000 in
theorem vl_pass (d : Dr) (R : IL) (k : Nat) : (codeE Try.prog (callN Try.prog (mkCfg Try.prog [] [44, 38, 46] [] []) 10 6) (mkCfg Try.prog [] [44, 38, 46] [] []) 43 10 (F_pass d R).m (loopB Try.prog 43 4) ((F_pass d R).I k) ((F_pass d R).nxt k)) =
    ((Br (Decidable.decide ((↑k : Int) < (↑R.n : Int))) (((0 : Int) ≤ (↑k : Int)) ∧ (((↑k : Int) < (↑R.n : Int)) ∧ (((0 : Int) ≤ (0 : Int)) ∧ (((0 : Int) < (↑(2 : Nat) : Int)) ∧ (((0 : Int) ≤ (1 : Int)) ∧ (((1 : Int) < (↑(2 : Nat) : Int)) ∧ (((0 : Int) ≤ (0 : Int)) ∧ (((0 : Int) < (↑(2 : Nat) : Int)) ∧ (((0 : Int) ≤ (1 : Int)) ∧ (((1 : Int) < (↑(2 : Nat) : Int)) ∧ (((0 : Int) ≤ (0 : Int)) ∧ (((0 : Int) < (↑(2 : Nat) : Int)) ∧ (((0 : Int) ≤ (0 : Int)) ∧ (((0 : Int) < (↑(2 : Nat) : Int)) ∧ (((0 : Int) ≤ (1 : Int)) ∧ (((1 : Int) < (↑(2 : Nat) : Int)) ∧ (((0 : Int) ≤ (1 : Int)) ∧ (((1 : Int) < (↑(2 : Nat) : Int)) ∧ (((0 : Int) ≤ (0 : Int)) ∧ (((0 : Int) < (↑(2 : Nat) : Int)) ∧ (((0 : Int) ≤ (0 : Int)) ∧ (((0 : Int) < (↑(2 : Nat) : Int)) ∧ (((0 : Int) ≤ (1 : Int)) ∧ (((1 : Int) < (↑(2 : Nat) : Int)) ∧ (((0 : Int) ≤ (1 : Int)) ∧ (((1 : Int) < (↑(2 : Nat) : Int)) ∧ (((0 : Int) ≤ (0 : Int)) ∧ (((0 : Int) < (↑(2 : Nat) : Int)) ∧ (((0 : Int) ≤ (1 : Int)) ∧ (((1 : Int) < (↑(2 : Nat) : Int)) ∧ (Br (Decidable.decide (Max.max (Max.max (Go.IntKind.i64.wrap ((d.sp R.g k).lo - d.step)) (Go.IntKind.i64.wrap (Min.min (Max.max (R.g (↑k : Int).toNat) (-2000000000 : Int)) (2000000000 : Int) - d.err))) (1 : Int) > Min.min (Min.min (Go.IntKind.i64.wrap ((d.sp R.g k).hi + d.step)) (Go.IntKind.i64.wrap (Min.min (Max.max (R.g (↑k : Int).toNat) (-2000000000 : Int)) (2000000000 : Int) + d.err))) (Go.IntKind.i64.wrap (Go.IntKind.i64.wrap ((2000000000 : Int) - d.err) - (1 : Int))))) ((((440 : Int)) = ((440 : Int))) ∧ (((d.lo) = (d.lo)) ∧ (((d.hi) = (d.hi)) ∧ (((d.step) = (d.step)) ∧ (((d.err) = (d.err)) ∧ (((d.lo) = (d.lo)) ∧ (((d.hi) = (d.hi)) ∧ (((d.step) = (d.step)) ∧ (((d.err) = (d.err)) ∧ ((((0 : Nat)) = ((0 : Nat))) ∧ (((k + (1 : Nat)) = (d.got R.g R.n + (1 : Nat))) ∧ (((k + (1 : Nat)) = (d.got R.g R.n + (1 : Nat))) ∧ ((∀ i : Nat, ((i < k + (1 : Nat)) → (AVEqs [(.v (.int Go.IntKind.i64 ((d.sp R.g i).lo))), (.v (.int Go.IntKind.i64 ((d.sp R.g i).hi)))] [(.v (.int Go.IntKind.i64 ((d.sp R.g i).lo))), (.v (.int Go.IntKind.i64 ((d.sp R.g i).hi)))]))) ∧ (The ((F_pass d R).b = Bool.false))))))))))))))) (((k + (1 : Nat)) = (k + (1 : Nat))) ∧ (((k + (1 : Nat) + (1 : Nat)) * (16 : Nat) ≤ (140737488355328 : Nat)) ∧ ((k + (1 : Nat) + (1 : Nat) ≤ Go.maxLen) ∧ (((Go.Fn.func (44 : Go.FuncId)) = (Go.Fn.func (44 : Go.FuncId))) ∧ ((((0 : Nat)) = ((0 : Nat))) ∧ ((((0 : Nat)) = ((0 : Nat))) ∧ ((((0 : Int)) = ((0 : Int))) ∧ ((((0 : Nat)) = ((0 : Nat))) ∧ (((R.n) = (R.n)) ∧ ((∀ i : Nat, ((i < R.n) → (AVEqs [(.v (.int Go.IntKind.i64 (R.g i)))] [(.v (.int Go.IntKind.i64 (R.g i)))]))) ∧ ((((↑R.n : Int)) = ((↑R.n : Int))) ∧ (((Go.IntKind.i64.wrap ((↑k : Int) + (1 : Int))) = ((↑(k + (1 : Nat)) : Int))) ∧ (((d.lo) = (d.lo)) ∧ (((d.hi) = (d.hi)) ∧ (((d.step) = (d.step)) ∧ (((d.err) = (d.err)) ∧ (((d.lo) = (d.lo)) ∧ (((d.hi) = (d.hi)) ∧ (((d.step) = (d.step)) ∧ (((d.err) = (d.err)) ∧ ((((0 : Nat)) = ((0 : Nat))) ∧ (((k + (1 : Nat) + (1 : Nat)) = (k + (1 : Nat) + (1 : Nat))) ∧ (((d.lo) = (d.lo)) ∧ (((d.hi) = (d.hi)) ∧ (((d.step) = (d.step)) ∧ (((d.err) = (d.err)) ∧ (((Max.max (Max.max (Go.IntKind.i64.wrap ((d.sp R.g k).lo - d.step)) (Go.IntKind.i64.wrap (Min.min (Max.max (R.g (↑k : Int).toNat) (-2000000000 : Int)) (2000000000 : Int) - d.err))) (1 : Int)) = ((d.sp R.g (k + (1 : Nat))).lo)) ∧ (((Min.min (Min.min (Go.IntKind.i64.wrap ((d.sp R.g k).hi + d.step)) (Go.IntKind.i64.wrap (Min.min (Max.max (R.g (↑k : Int).toNat) (-2000000000 : Int)) (2000000000 : Int) + d.err))) (Go.IntKind.i64.wrap (Go.IntKind.i64.wrap ((2000000000 : Int) - d.err) - (1 : Int)))) = ((d.sp R.g (k + (1 : Nat))).hi)) ∧ (((k + (1 : Nat) + (1 : Nat)) = (k + (1 : Nat) + (1 : Nat))) ∧ ((∀ i : Nat, ((i < k + (1 : Nat) + (1 : Nat)) → (AVEqs (if i < k + (1 : Nat) then [AV.v (Go.Value.int Go.IntKind.i64 (d.sp R.g i).lo), AV.v (Go.Value.int Go.IntKind.i64 (d.sp R.g i).hi)] else [(AV.agg [AV.v (Go.Value.int Go.IntKind.i64 (Max.max (Max.max (Go.IntKind.i64.wrap ((d.sp R.g k).lo - d.step)) (Go.IntKind.i64.wrap (Min.min (Max.max (R.g (↑k : Int).toNat) (-2000000000 : Int)) (2000000000 : Int) - d.err))) (1 : Int))), AV.v (Go.Value.int Go.IntKind.i64 (Min.min (Min.min (Go.IntKind.i64.wrap ((d.sp R.g k).hi + d.step)) (Go.IntKind.i64.wrap (Min.min (Max.max (R.g (↑k : Int).toNat) (-2000000000 : Int)) (2000000000 : Int) + d.err))) (Go.IntKind.i64.wrap (Go.IntKind.i64.wrap ((2000000000 : Int) - d.err) - (1 : Int)))))]).cells].getD (i - (k + (1 : Nat))) []) [(.v (.int Go.IntKind.i64 ((d.sp R.g i).lo))), (.v (.int Go.IntKind.i64 ((d.sp R.g i).hi)))]))) ∧ (The (k + (1 : Nat) < (F_pass d R).N))))))))))))))))))))))))))))))))))))))))))))))))))))))))))))))) (((d.lo) = (d.lo)) ∧ (((d.hi) = (d.hi)) ∧ (((d.step) = (d.step)) ∧ (((d.err) = (d.err)) ∧ (((d.lo) = (d.lo)) ∧ (((d.hi) = (d.hi)) ∧ (((d.step) = (d.step)) ∧ (((d.err) = (d.err)) ∧ ((((0 : Nat)) = ((0 : Nat))) ∧ (((k + (1 : Nat)) = (d.got R.g R.n + (1 : Nat))) ∧ (((k + (1 : Nat)) = (d.got R.g R.n + (1 : Nat))) ∧ ((∀ i : Nat, ((i < k + (1 : Nat)) → (AVEqs [(.v (.int Go.IntKind.i64 ((d.sp R.g i).lo))), (.v (.int Go.IntKind.i64 ((d.sp R.g i).hi)))] [(.v (.int Go.IntKind.i64 ((d.sp R.g i).lo))), (.v (.int Go.IntKind.i64 ((d.sp R.g i).hi)))]))) ∧ (The ((F_pass d R).b = Bool.true)))))))))))))))) := by kernel_rfl

theorem lok_pass (d : Dr) (R : IL) (hyp : d.ok ∧ R.n ≤ 1000) : LoopOk Try.prog (43, 4, (F_pass d R).go) := by
  refine lp_ok (F_pass d R) mix [] [44, 38, 46] [] (fun c hc => by cases hc) (fuel := 10) (d := 6) (by kernel_rfl) fun k hk => ⟨[], (fun c hc => by cases hc), ?_⟩
  refine (vl_pass d R k).mpr ?_
  obtain ⟨hd, hn⟩ := hyp
  have hk : k < d.got R.g R.n + 1 := hk
  have hg := d.got_le R.g R.n
  have hsp := d.sp_in hd R.g k
  have hcl := Dr.clamp_in (R.g k)
  have hM := maxLen_eq
  obtain ⟨h1, h2, h3, h4, h5, h6, h7⟩ := hd
  have i1 : ((k : Int)).toNat = k := by omega
  have hcd : min (max (R.g k) (-2000000000)) 2000000000 = Dr.clamp (R.g k) := rfl
  simp only [i1, hcd]
  simp (disch := omega) only [w64_in]
  have e1 : max (max ((d.sp R.g k).lo - d.step) (Dr.clamp (R.g k) - d.err)) 1 = (d.sp R.g (k + 1)).lo := rfl
  have e2 : min (min ((d.sp R.g k).hi + d.step) (Dr.clamp (R.g k) + d.err)) (2000000000 - d.err - 1) = (d.sp R.g (k + 1)).hi := rfl
  simp only [e1, e2]
  refine Br.intro (fun h => ?_) (fun h => ?_)
  · have hkn : k < R.n := by have := dec_t h; omega
    have hst := lead_step (c := d.okAt R.g) (n := R.n) (k := k) (by show k ≤ d.got R.g R.n; omega) hkn
    repeat' (first | exact trivial | refine Br.intro (fun h' => ?_) (fun h' => ?_) | refine And.intro ?_ ?_)
    all_goals try omega
    all_goals try (first | rfl | exact fun _ _ => .refl _ | exact rows_snoc (fun _ _ => rfl) rfl)
    · have := hst.2 (by have := dec_t h'; unfold Dr.okAt; simp; omega)
      show k + 1 = d.got R.g R.n + 1
      unfold Dr.got; omega
    · have := hst.2 (by have := dec_t h'; unfold Dr.okAt; simp; omega)
      show k + 1 = d.got R.g R.n + 1
      unfold Dr.got; omega
    · have := hst.2 (by have := dec_t h'; unfold Dr.okAt; simp; omega)
      exact ⟨by show decide (d.got R.g R.n = R.n) = false; simp; unfold Dr.got; omega⟩
    · have := hst.1 (by have := dec_f h'; unfold Dr.okAt; simp; omega)
      exact ⟨by show k + 1 < d.got R.g R.n + 1; unfold Dr.got; omega⟩
  · have hkn : k = R.n := by have := dec_f h; omega
    have : d.got R.g R.n = R.n := by omega
    repeat' (refine And.intro ?_ ?_)
    all_goals first | exact trivial | omega | rfl | exact fun _ _ => .refl _ | exact ⟨by show decide (d.got R.g R.n = R.n) = true; simp [this]⟩
abbrev rows2 (n : Nat) (f : Nat → Itv) : AV := .rs 2 n none (fun i => [.v (.int .i64 (f i).lo), .v (.int .i64 (f i).hi)])
def g_spans : List AV → Option (Prop × AV)
  | [.v (.int .i64 lo), .v (.int .i64 hi), .v (.int .i64 step), .v (.int .i64 err), .rs 1 R_0 R_1 R_2] => some ((∀ i, i < R_0 → R_2 i = [.v (.int .i64 (intAt (R_2 i)))]) ∧ ((Dr.mk lo hi step err).ok ∧ (⟨R_0, fun i => intAt (R_2 i)⟩ : IL).n ≤ 1000), .tup [.agg [.v (.int .i64 lo), .v (.int .i64 hi), .v (.int .i64 step), .v (.int .i64 err)], rows2 ((Dr.mk lo hi step err).got (⟨R_0, fun i => intAt (R_2 i)⟩ : IL).g (⟨R_0, fun i => intAt (R_2 i)⟩ : IL).n + 1) ((Dr.mk lo hi step err).sp (⟨R_0, fun i => intAt (R_2 i)⟩ : IL).g), .v (.int .i64 (if (Dr.mk lo hi step err).got (⟨R_0, fun i => intAt (R_2 i)⟩ : IL).g (⟨R_0, fun i => intAt (R_2 i)⟩ : IL).n = (⟨R_0, fun i => intAt (R_2 i)⟩ : IL).n then 0 else 440))])
  | _ => none
theorem g_spans_of {args : List AV} {p : Prop} {v : AV} (h : g_spans  args = some (p, v)) : ∃ lo hi step err R_0 R_1 R_2, args = [.v (.int .i64 lo), .v (.int .i64 hi), .v (.int .i64 step), .v (.int .i64 err), .rs 1 R_0 R_1 R_2] ∧ p = ((∀ i, i < R_0 → R_2 i = [.v (.int .i64 (intAt (R_2 i)))]) ∧ ((Dr.mk lo hi step err).ok ∧ (⟨R_0, fun i => intAt (R_2 i)⟩ : IL).n ≤ 1000)) ∧ v = .tup [.agg [.v (.int .i64 lo), .v (.int .i64 hi), .v (.int .i64 step), .v (.int .i64 err)], rows2 ((Dr.mk lo hi step err).got (⟨R_0, fun i => intAt (R_2 i)⟩ : IL).g (⟨R_0, fun i => intAt (R_2 i)⟩ : IL).n + 1) ((Dr.mk lo hi step err).sp (⟨R_0, fun i => intAt (R_2 i)⟩ : IL).g), .v (.int .i64 (if (Dr.mk lo hi step err).got (⟨R_0, fun i => intAt (R_2 i)⟩ : IL).g (⟨R_0, fun i => intAt (R_2 i)⟩ : IL).n = (⟨R_0, fun i => intAt (R_2 i)⟩ : IL).n then 0 else 440))] := by
  unfold g_spans at h
  split at h
  · cases h; exact ⟨_, _, _, _, _, _, _, rfl, rfl, rfl⟩
  · cases h
set_option maxRecDepth 100000 in
theorem vc_spans (lo : Int) (hi : Int) (step : Int) (err : Int) (R : IL) : (callN Try.prog (mkCfg Try.prog [] [39, 36, 43, 44, 38, 46] [(43, 4, (F_pass (Dr.mk lo hi step err) R).go)] []) 10 6 39 [.v (.int .i64 lo), .v (.int .i64 hi), .v (.int .i64 step), .v (.int .i64 err), R.av] [] 0 (Reads (.tup [.agg [.v (.int .i64 lo), .v (.int .i64 hi), .v (.int .i64 step), .v (.int .i64 err)], rows2 ((Dr.mk lo hi step err).got R.g R.n + 1) ((Dr.mk lo hi step err).sp R.g), .v (.int .i64 (if (Dr.mk lo hi step err).got R.g R.n = R.n then 0 else 440))]))) =
    ((Br (Decidable.decide (lo < (1 : Int))) ((((0 : Int)) = (lo)) ∧ ((((0 : Int)) = (hi)) ∧ ((((0 : Int)) = (step)) ∧ ((((0 : Int)) = (err)) ∧ ((((Dr.mk lo hi step err).got R.g R.n + (1 : Nat)) = ((0 : Nat))) ∧ ((((1 : Int)) = (if (Dr.mk lo hi step err).got R.g R.n = R.n then (0 : Int) else (440 : Int))) ∧ True)))))) (Br (Decidable.decide (hi < lo)) ((((0 : Int)) = (lo)) ∧ ((((0 : Int)) = (hi)) ∧ ((((0 : Int)) = (step)) ∧ ((((0 : Int)) = (err)) ∧ ((((Dr.mk lo hi step err).got R.g R.n + (1 : Nat)) = ((0 : Nat))) ∧ ((((1 : Int)) = (if (Dr.mk lo hi step err).got R.g R.n = R.n then (0 : Int) else (440 : Int))) ∧ True)))))) (Br (Decidable.decide (hi > (1000000 : Int))) ((((0 : Int)) = (lo)) ∧ ((((0 : Int)) = (hi)) ∧ ((((0 : Int)) = (step)) ∧ ((((0 : Int)) = (err)) ∧ ((((Dr.mk lo hi step err).got R.g R.n + (1 : Nat)) = ((0 : Nat))) ∧ ((((1 : Int)) = (if (Dr.mk lo hi step err).got R.g R.n = R.n then (0 : Int) else (440 : Int))) ∧ True)))))) (Br (Decidable.decide (Min.min step err < (0 : Int))) ((((0 : Int)) = (lo)) ∧ ((((0 : Int)) = (hi)) ∧ ((((0 : Int)) = (step)) ∧ ((((0 : Int)) = (err)) ∧ ((((Dr.mk lo hi step err).got R.g R.n + (1 : Nat)) = ((0 : Nat))) ∧ ((((1 : Int)) = (if (Dr.mk lo hi step err).got R.g R.n = R.n then (0 : Int) else (440 : Int))) ∧ True)))))) (Br (Decidable.decide (Max.max step err > (1000000 : Int))) ((((0 : Int)) = (lo)) ∧ ((((0 : Int)) = (hi)) ∧ ((((0 : Int)) = (step)) ∧ ((((0 : Int)) = (err)) ∧ ((((Dr.mk lo hi step err).got R.g R.n + (1 : Nat)) = ((0 : Nat))) ∧ ((((1 : Int)) = (if (Dr.mk lo hi step err).got R.g R.n = R.n then (0 : Int) else (440 : Int))) ∧ True)))))) (Br (Decidable.decide ((↑R.n : Int) > (1000 : Int))) ((((0 : Int)) = (lo)) ∧ ((((0 : Int)) = (hi)) ∧ ((((0 : Int)) = (step)) ∧ ((((0 : Int)) = (err)) ∧ ((((Dr.mk lo hi step err).got R.g R.n + (1 : Nat)) = ((0 : Nat))) ∧ ((((1 : Int)) = (if (Dr.mk lo hi step err).got R.g R.n = R.n then (0 : Int) else (440 : Int))) ∧ True)))))) (((1 : Nat) * (16 : Nat) ≤ (140737488355328 : Nat)) ∧ (((1 : Nat) ≤ Go.maxLen) ∧ ((((Go.Fn.func (44 : Nat)) = (Go.Fn.func (44 : Go.FuncId))) ∧ ((((0 : Nat)) = ((0 : Nat))) ∧ ((((0 : Nat)) = ((0 : Nat))) ∧ ((((0 : Int)) = ((0 : Int))) ∧ ((((0 : Nat)) = ((0 : Nat))) ∧ (((R.n) = (R.n)) ∧ ((∀ i : Nat, ((i < R.n) → (AVEqs [(.v (.int Go.IntKind.i64 (R.g i)))] [(.v (.int Go.IntKind.i64 (R.g i)))]))) ∧ ((((↑R.n : Int)) = ((↑R.n : Int))) ∧ ((((0 : Int)) = ((↑(0 : Nat) : Int))) ∧ (((lo) = ((Dr.mk lo hi step err).lo)) ∧ (((hi) = ((Dr.mk lo hi step err).hi)) ∧ (((step) = ((Dr.mk lo hi step err).step)) ∧ (((err) = ((Dr.mk lo hi step err).err)) ∧ (((lo) = ((Dr.mk lo hi step err).lo)) ∧ (((hi) = ((Dr.mk lo hi step err).hi)) ∧ (((step) = ((Dr.mk lo hi step err).step)) ∧ (((err) = ((Dr.mk lo hi step err).err)) ∧ ((((0 : Nat)) = ((0 : Nat))) ∧ ((((1 : Nat)) = ((0 : Nat) + (1 : Nat))) ∧ (((lo) = ((Dr.mk lo hi step err).lo)) ∧ (((hi) = ((Dr.mk lo hi step err).hi)) ∧ (((step) = ((Dr.mk lo hi step err).step)) ∧ (((err) = ((Dr.mk lo hi step err).err)) ∧ (((lo) = (((Dr.mk lo hi step err).sp R.g (0 : Nat)).lo)) ∧ (((hi) = (((Dr.mk lo hi step err).sp R.g (0 : Nat)).hi)) ∧ ((((1 : Nat)) = ((0 : Nat) + (1 : Nat))) ∧ ((∀ i : Nat, ((i < (1 : Nat)) → (AVEqs ([(AV.agg [AV.v (Go.Value.int Go.IntKind.i64 lo), AV.v (Go.Value.int Go.IntKind.i64 hi)]).cells].getD i []) [(.v (.int Go.IntKind.i64 (((Dr.mk lo hi step err).sp R.g i).lo))), (.v (.int Go.IntKind.i64 (((Dr.mk lo hi step err).sp R.g i).hi)))]))) ∧ (The ((0 : Nat) < (F_pass (Dr.mk lo hi step err) R).N))))))))))))))))))))))))))))) ∧ (Br ((F_pass (Dr.mk lo hi step err) R).b) (((Dr.mk lo hi step err).got R.g R.n + (1 : Nat) ≤ (Dr.mk lo hi step err).got R.g R.n + (1 : Nat)) ∧ ((((Dr.mk lo hi step err).lo) = (lo)) ∧ ((((Dr.mk lo hi step err).hi) = (hi)) ∧ ((((Dr.mk lo hi step err).step) = (step)) ∧ ((((Dr.mk lo hi step err).err) = (err)) ∧ ((((Dr.mk lo hi step err).got R.g R.n + (1 : Nat)) = ((Dr.mk lo hi step err).got R.g R.n + (1 : Nat))) ∧ ((∀ i : Nat, ((i < (Dr.mk lo hi step err).got R.g R.n + (1 : Nat)) → (AVEqs [(.v (.int Go.IntKind.i64 (((Dr.mk lo hi step err).sp R.g i).lo))), (.v (.int Go.IntKind.i64 (((Dr.mk lo hi step err).sp R.g i).hi)))] [(.v (.int Go.IntKind.i64 (((Dr.mk lo hi step err).sp R.g i).lo))), (.v (.int Go.IntKind.i64 (((Dr.mk lo hi step err).sp R.g i).hi)))]))) ∧ ((((0 : Int)) = (if (Dr.mk lo hi step err).got R.g R.n = R.n then (0 : Int) else (440 : Int))) ∧ True)))))))) (((Dr.mk lo hi step err).got R.g R.n + (1 : Nat) ≤ (Dr.mk lo hi step err).got R.g R.n + (1 : Nat)) ∧ ((((Dr.mk lo hi step err).lo) = (lo)) ∧ ((((Dr.mk lo hi step err).hi) = (hi)) ∧ ((((Dr.mk lo hi step err).step) = (step)) ∧ ((((Dr.mk lo hi step err).err) = (err)) ∧ ((((Dr.mk lo hi step err).got R.g R.n + (1 : Nat)) = ((Dr.mk lo hi step err).got R.g R.n + (1 : Nat))) ∧ ((∀ i : Nat, ((i < (Dr.mk lo hi step err).got R.g R.n + (1 : Nat)) → (AVEqs [(.v (.int Go.IntKind.i64 (((Dr.mk lo hi step err).sp R.g i).lo))), (.v (.int Go.IntKind.i64 (((Dr.mk lo hi step err).sp R.g i).hi)))] [(.v (.int Go.IntKind.i64 (((Dr.mk lo hi step err).sp R.g i).lo))), (.v (.int Go.IntKind.i64 (((Dr.mk lo hi step err).sp R.g i).hi)))]))) ∧ ((((440 : Int)) = (if (Dr.mk lo hi step err).got R.g R.n = R.n then (0 : Int) else (440 : Int))) ∧ True))))))))))))))))))) := by kernel_rfl

def c_spans : Ctr := ⟨39, g_spans ⟩
theorem ok_spans : CtrOk Try.prog (c_spans ) := by
  refine ctr_of'' mix [] [39, 36, 43, 44, 38, 46] [] (fun c hc => by cases hc) (fuel := 10) (d := 6) ⟨_, Try.func39, by kernel_rfl, by kernel_rfl⟩ fun args p v h hp => ?_
  obtain ⟨lo, hi, step, err, R_0, R_1, R_2, rfl, rfl, rfl⟩ := g_spans_of  h
  obtain ⟨e_0, hp⟩ := hp
  refine ⟨[.v (.int .i64 lo), .v (.int .i64 hi), .v (.int .i64 step), .v (.int .i64 err), (⟨R_0, fun i => intAt (R_2 i)⟩ : IL).av], (.cons _ _ _ _ (.refl _) (.cons _ _ _ _ (.refl _) (.cons _ _ _ _ (.refl _) (.cons _ _ _ _ (.refl _) (.cons _ _ _ _ (IL.eqv e_0) .nil))))), ?_⟩
  generalize hx_R : (⟨R_0, fun i => intAt (R_2 i)⟩ : IL) = R at *
  clear h
  clear hx_R
  refine ⟨[(43, 4, (F_pass (Dr.mk lo hi step err) R).go)], (by
    intro c hc
    simp only [List.mem_cons, List.not_mem_nil, or_false] at hc
    rcases hc with rfl
    · exact lok_pass _ R hp
    ), ?_⟩
  refine (vc_spans  lo hi step err R).mpr ?_
  obtain ⟨hd, hn⟩ := hp
  have hM := maxLen_eq
  obtain ⟨h1, h2, h3, h4, h5, h6, h7⟩ := hd
  dsimp only at h1 h2 h3 h4 h5 h6 h7
  refine Br.intro (fun h => absurd (dec_t h) (by omega)) (fun _ => ?_)
  refine Br.intro (fun h => absurd (dec_t h) (by omega)) (fun _ => ?_)
  refine Br.intro (fun h => absurd (dec_t h) (by omega)) (fun _ => ?_)
  refine Br.intro (fun h => absurd (dec_t h) (by omega)) (fun _ => ?_)
  refine Br.intro (fun h => absurd (dec_t h) (by omega)) (fun _ => ?_)
  refine Br.intro (fun h => absurd (dec_t h) (by omega)) (fun _ => ?_)
  repeat' (first | exact trivial | refine Br.intro (fun h' => ?_) (fun h' => ?_) | refine And.intro ?_ ?_)
  all_goals first | omega | rfl | exact fun _ _ => .refl _ | exact rows_one rfl | exact ⟨by show 0 < Dr.got _ _ _ + 1; omega⟩ | (rw [if_pos (dec_t h')]; done) | (rw [if_neg (dec_f h')]; done) | exact Nat.le_refl _ | skip
def g_Bounds : List AV → Option (Prop × AV)
  | [.v (.int .i64 lo), .v (.int .i64 hi), .v (.int .i64 step), .v (.int .i64 err), .rs 1 R_0 R_1 R_2] => some ((∀ i, i < R_0 → R_2 i = [.v (.int .i64 (intAt (R_2 i)))]) ∧ ((Dr.mk lo hi step err).ok ∧ (⟨R_0, fun i => intAt (R_2 i)⟩ : IL).n ≤ 1000), .tup [.v (.int .i64 (if (Dr.mk lo hi step err).got (⟨R_0, fun i => intAt (R_2 i)⟩ : IL).g (⟨R_0, fun i => intAt (R_2 i)⟩ : IL).n = (⟨R_0, fun i => intAt (R_2 i)⟩ : IL).n then ((Dr.mk lo hi step err).sp (⟨R_0, fun i => intAt (R_2 i)⟩ : IL).g (⟨R_0, fun i => intAt (R_2 i)⟩ : IL).n).lo else 0)), .v (.int .i64 (if (Dr.mk lo hi step err).got (⟨R_0, fun i => intAt (R_2 i)⟩ : IL).g (⟨R_0, fun i => intAt (R_2 i)⟩ : IL).n = (⟨R_0, fun i => intAt (R_2 i)⟩ : IL).n then ((Dr.mk lo hi step err).sp (⟨R_0, fun i => intAt (R_2 i)⟩ : IL).g (⟨R_0, fun i => intAt (R_2 i)⟩ : IL).n).hi else 0)), .v (.int .i64 (if (Dr.mk lo hi step err).got (⟨R_0, fun i => intAt (R_2 i)⟩ : IL).g (⟨R_0, fun i => intAt (R_2 i)⟩ : IL).n = (⟨R_0, fun i => intAt (R_2 i)⟩ : IL).n then 0 else 440))])
  | _ => none
theorem g_Bounds_of {args : List AV} {p : Prop} {v : AV} (h : g_Bounds  args = some (p, v)) : ∃ lo hi step err R_0 R_1 R_2, args = [.v (.int .i64 lo), .v (.int .i64 hi), .v (.int .i64 step), .v (.int .i64 err), .rs 1 R_0 R_1 R_2] ∧ p = ((∀ i, i < R_0 → R_2 i = [.v (.int .i64 (intAt (R_2 i)))]) ∧ ((Dr.mk lo hi step err).ok ∧ (⟨R_0, fun i => intAt (R_2 i)⟩ : IL).n ≤ 1000)) ∧ v = .tup [.v (.int .i64 (if (Dr.mk lo hi step err).got (⟨R_0, fun i => intAt (R_2 i)⟩ : IL).g (⟨R_0, fun i => intAt (R_2 i)⟩ : IL).n = (⟨R_0, fun i => intAt (R_2 i)⟩ : IL).n then ((Dr.mk lo hi step err).sp (⟨R_0, fun i => intAt (R_2 i)⟩ : IL).g (⟨R_0, fun i => intAt (R_2 i)⟩ : IL).n).lo else 0)), .v (.int .i64 (if (Dr.mk lo hi step err).got (⟨R_0, fun i => intAt (R_2 i)⟩ : IL).g (⟨R_0, fun i => intAt (R_2 i)⟩ : IL).n = (⟨R_0, fun i => intAt (R_2 i)⟩ : IL).n then ((Dr.mk lo hi step err).sp (⟨R_0, fun i => intAt (R_2 i)⟩ : IL).g (⟨R_0, fun i => intAt (R_2 i)⟩ : IL).n).hi else 0)), .v (.int .i64 (if (Dr.mk lo hi step err).got (⟨R_0, fun i => intAt (R_2 i)⟩ : IL).g (⟨R_0, fun i => intAt (R_2 i)⟩ : IL).n = (⟨R_0, fun i => intAt (R_2 i)⟩ : IL).n then 0 else 440))] := by
  unfold g_Bounds at h
  split at h
  · cases h; exact ⟨_, _, _, _, _, _, _, rfl, rfl, rfl⟩
  · cases h
set_option maxRecDepth 100000 in
theorem vc_Bounds (lo : Int) (hi : Int) (step : Int) (err : Int) (R : IL) : (callN Try.prog (mkCfg Try.prog [c_spans] [25] [] []) 10 6 25 [.v (.int .i64 lo), .v (.int .i64 hi), .v (.int .i64 step), .v (.int .i64 err), R.av] [] 0 (Reads (.tup [.v (.int .i64 (if (Dr.mk lo hi step err).got R.g R.n = R.n then ((Dr.mk lo hi step err).sp R.g R.n).lo else 0)), .v (.int .i64 (if (Dr.mk lo hi step err).got R.g R.n = R.n then ((Dr.mk lo hi step err).sp R.g R.n).hi else 0)), .v (.int .i64 (if (Dr.mk lo hi step err).got R.g R.n = R.n then 0 else 440))]))) =
    ((((∀ i : Nat, ((i < R.n) → (([(.v (.int Go.IntKind.i64 (R.g i)))] : List AV) = [(.v (.int Go.IntKind.i64 (R.g i)))]))) ∧ (((Dr.mk lo hi step err).ok) ∧ (R.n ≤ (1000 : Nat)))) ∧ (Br ((if (Dr.mk lo hi step err).got R.g R.n = R.n then (0 : Int) else (440 : Int)) != (0 : Int)) ((((0 : Int)) = (if (Dr.mk lo hi step err).got R.g R.n = R.n then ((Dr.mk lo hi step err).sp R.g R.n).lo else (0 : Int))) ∧ ((((0 : Int)) = (if (Dr.mk lo hi step err).got R.g R.n = R.n then ((Dr.mk lo hi step err).sp R.g R.n).hi else (0 : Int))) ∧ (((if (Dr.mk lo hi step err).got R.g R.n = R.n then (0 : Int) else (440 : Int)) = (if (Dr.mk lo hi step err).got R.g R.n = R.n then (0 : Int) else (440 : Int))) ∧ True))) (((0 : Int) ≤ Go.IntKind.i64.wrap ((↑((Dr.mk lo hi step err).got R.g R.n + (1 : Nat)) : Int) - (1 : Int))) ∧ ((Go.IntKind.i64.wrap ((↑((Dr.mk lo hi step err).got R.g R.n + (1 : Nat)) : Int) - (1 : Int)) < (↑((Dr.mk lo hi step err).got R.g R.n + (1 : Nat)) : Int)) ∧ (((0 : Int) ≤ (0 : Int)) ∧ (((0 : Int) < (↑(2 : Nat) : Int)) ∧ (((0 : Int) ≤ (1 : Int)) ∧ (((1 : Int) < (↑(2 : Nat) : Int)) ∧ (((((Dr.mk lo hi step err).sp R.g (Go.IntKind.i64.wrap ((↑((Dr.mk lo hi step err).got R.g R.n + (1 : Nat)) : Int) - (1 : Int))).toNat).lo) = (if (Dr.mk lo hi step err).got R.g R.n = R.n then ((Dr.mk lo hi step err).sp R.g R.n).lo else (0 : Int))) ∧ (((((Dr.mk lo hi step err).sp R.g (Go.IntKind.i64.wrap ((↑((Dr.mk lo hi step err).got R.g R.n + (1 : Nat)) : Int) - (1 : Int))).toNat).hi) = (if (Dr.mk lo hi step err).got R.g R.n = R.n then ((Dr.mk lo hi step err).sp R.g R.n).hi else (0 : Int))) ∧ ((((0 : Int)) = (if (Dr.mk lo hi step err).got R.g R.n = R.n then (0 : Int) else (440 : Int))) ∧ True)))))))))))) := by kernel_rfl

def c_Bounds : Ctr := ⟨25, g_Bounds ⟩
theorem ok_Bounds : CtrOk Try.prog (c_Bounds ) := by
  refine ctr_of'' mix [c_spans] [25] [] (by
    intro c hc
    simp only [List.mem_cons, List.not_mem_nil, or_false] at hc
    rcases hc with rfl
    · exact ok_spans
    ) (fuel := 10) (d := 6) ⟨_, Try.func25, by kernel_rfl, by kernel_rfl⟩ fun args p v h hp => ?_
  obtain ⟨lo, hi, step, err, R_0, R_1, R_2, rfl, rfl, rfl⟩ := g_Bounds_of  h
  obtain ⟨e_0, hp⟩ := hp
  refine ⟨[.v (.int .i64 lo), .v (.int .i64 hi), .v (.int .i64 step), .v (.int .i64 err), (⟨R_0, fun i => intAt (R_2 i)⟩ : IL).av], (.cons _ _ _ _ (.refl _) (.cons _ _ _ _ (.refl _) (.cons _ _ _ _ (.refl _) (.cons _ _ _ _ (.refl _) (.cons _ _ _ _ (IL.eqv e_0) .nil))))), ?_⟩
  generalize hx_R : (⟨R_0, fun i => intAt (R_2 i)⟩ : IL) = R at *
  clear h
  clear hx_R
  refine ⟨[], (fun c hc => by cases hc), ?_⟩
  refine (vc_Bounds  lo hi step err R).mpr ?_
  obtain ⟨hd, hn⟩ := hp
  have hg := (Dr.mk lo hi step err).got_le R.g R.n
  refine ⟨⟨fun _ _ => rfl, hd, hn⟩, ?_⟩
  have hw : IntKind.i64.wrap ((((Dr.mk lo hi step err).got R.g R.n + 1 : Nat) : Int) - 1) = ((Dr.mk lo hi step err).got R.g R.n : Int) := by
    rw [w64_in _ (by omega)]; omega
  rw [hw]
  by_cases e : (Dr.mk lo hi step err).got R.g R.n = R.n
  · simp only [if_pos e]
    refine Br.intro (fun h => by simp at h) (fun _ => ?_)
    have i1 : (((Dr.mk lo hi step err).got R.g R.n : Int)).toNat = R.n := by omega
    rw [i1]
    repeat' (refine And.intro ?_ ?_)
    all_goals first | exact trivial | omega | rfl
  · simp only [if_neg e]
    refine Br.intro (fun h => ?_) (fun h => by simp at h)
    repeat' (refine And.intro ?_ ?_)
    all_goals first | exact trivial | rfl
/-- What is asked of a path at an index. -/
def chkP (d : Dr) (R P : Nat → Int) : Nat → Bool
  | 0 => decide (d.lo ≤ P 0) && decide (P 0 ≤ d.hi)
  | i + 1 => decide (1 ≤ P (i + 1)) && (decide (P i - d.step ≤ P (i + 1)) && decide (P (i + 1) ≤ P i + d.step)) && (decide (P (i + 1) - d.err ≤ R i) && decide (R i ≤ P (i + 1) + d.err))
def possB (d : Dr) (R P : IL) : Bool := decide (P.n = R.n + 1) && decide (lead (chkP d R.g P.g) P.n = P.n)
def F_poss (d : Dr) (R P : IL) : Lp where
  m := 0
  I := fun k => { env := [(4, R.av), (5, P.av), (12, .v (.bool false)), (13, .ptr 1 0), (15, .fn (.func 37) [] []), (37, P.av), (38, .v (.int .i64 (P.n : Int))), (39, .v (.int .i64 (k : Int)))]
                  heap := [(1, some (.cells [.v (.int .i64 d.lo), .v (.int .i64 d.hi), .v (.int .i64 d.step), .v (.int .i64 d.err)]))]
                  next := 2 }
  N := if P.n = R.n + 1 then lead (chkP d R.g P.g) P.n + 1 else 0
  r := fun s n => n
  b := decide (lead (chkP d R.g P.g) P.n = P.n)
  e1 := .exit 0
  s1 := { env := [], heap := [], next := 2 }
  e2 := .ret
  s2 := { env := [(12, .v (.bool false))], heap := [], next := 2 }
set_option maxRecDepth 100000 in
theorem vl_poss (d : Dr) (R P : IL) (k : Nat) : (codeE Try.prog (callN Try.prog (mkCfg Try.prog [] [37, 38] [] []) 10 6) (mkCfg Try.prog [] [37, 38] [] []) 24 10 (F_poss d R P).m (loopB Try.prog 24 6) ((F_poss d R P).I k) ((F_poss d R P).nxt k)) =
    ((Br (Decidable.decide ((↑k : Int) < (↑P.n : Int))) (((0 : Int) ≤ (↑k : Int)) ∧ (((↑k : Int) < (↑P.n : Int)) ∧ (Br ((↑k : Int) == (0 : Int)) (((0 : Int) ≤ (0 : Int)) ∧ (((0 : Int) < (↑(2 : Nat) : Int)) ∧ (Br (Decidable.decide (P.g (↑k : Int).toNat ≥ d.lo)) (((0 : Int) ≤ (1 : Int)) ∧ (((1 : Int) < (↑(2 : Nat) : Int)) ∧ (Br (!Decidable.decide (P.g (↑k : Int).toNat ≤ d.hi)) (((Bool.false) = (Bool.false)) ∧ (The ((F_poss d R P).b = Bool.false))) (Br (Decidable.decide ((↑k : Int) > (0 : Int))) (Br (Decidable.decide (P.g (↑k : Int).toNat < (1 : Int))) (((Bool.false) = (Bool.false)) ∧ (The ((F_poss d R P).b = Bool.false))) (((0 : Int) ≤ Go.IntKind.i64.wrap ((↑k : Int) - (1 : Int))) ∧ ((Go.IntKind.i64.wrap ((↑k : Int) - (1 : Int)) < (↑P.n : Int)) ∧ (((0 : Int) ≤ Go.IntKind.i64.wrap ((↑k : Int) - (1 : Int))) ∧ ((Go.IntKind.i64.wrap ((↑k : Int) - (1 : Int)) < (↑P.n : Int)) ∧ (((0 : Int) ≤ (0 : Int)) ∧ (((0 : Int) < (↑(2 : Nat) : Int)) ∧ (((0 : Int) ≤ (1 : Int)) ∧ (((1 : Int) < (↑(2 : Nat) : Int)) ∧ (((0 : Int) ≤ (0 : Int)) ∧ (((0 : Int) < (↑(2 : Nat) : Int)) ∧ (Br (Decidable.decide (P.g (↑k : Int).toNat ≥ Go.IntKind.i64.wrap (P.g (Go.IntKind.i64.wrap ((↑k : Int) - (1 : Int))).toNat - d.step))) (((0 : Int) ≤ (1 : Int)) ∧ (((1 : Int) < (↑(2 : Nat) : Int)) ∧ (Br (!Decidable.decide (P.g (↑k : Int).toNat ≤ Go.IntKind.i64.wrap (P.g (Go.IntKind.i64.wrap ((↑k : Int) - (1 : Int))).toNat + d.step))) (((Bool.false) = (Bool.false)) ∧ (The ((F_poss d R P).b = Bool.false))) (((0 : Int) ≤ Go.IntKind.i64.wrap ((↑k : Int) - (1 : Int))) ∧ ((Go.IntKind.i64.wrap ((↑k : Int) - (1 : Int)) < (↑R.n : Int)) ∧ (((0 : Int) ≤ (0 : Int)) ∧ (((0 : Int) < (↑(2 : Nat) : Int)) ∧ (((0 : Int) ≤ (1 : Int)) ∧ (((1 : Int) < (↑(2 : Nat) : Int)) ∧ (((0 : Int) ≤ (0 : Int)) ∧ (((0 : Int) < (↑(2 : Nat) : Int)) ∧ (Br (Decidable.decide (R.g (Go.IntKind.i64.wrap ((↑k : Int) - (1 : Int))).toNat ≥ Go.IntKind.i64.wrap (P.g (↑k : Int).toNat - d.err))) (((0 : Int) ≤ (1 : Int)) ∧ (((1 : Int) < (↑(2 : Nat) : Int)) ∧ (Br (!Decidable.decide (R.g (Go.IntKind.i64.wrap ((↑k : Int) - (1 : Int))).toNat ≤ Go.IntKind.i64.wrap (P.g (↑k : Int).toNat + d.err))) (((Bool.false) = (Bool.false)) ∧ (The ((F_poss d R P).b = Bool.false))) (((R.n) = (R.n)) ∧ ((∀ i : Nat, ((i < R.n) → (AVEqs [(.v (.int Go.IntKind.i64 (R.g i)))] [(.v (.int Go.IntKind.i64 (R.g i)))]))) ∧ (((P.n) = (P.n)) ∧ ((∀ i : Nat, ((i < P.n) → (AVEqs [(.v (.int Go.IntKind.i64 (P.g i)))] [(.v (.int Go.IntKind.i64 (P.g i)))]))) ∧ (((Bool.false) = (Bool.false)) ∧ ((((0 : Nat)) = ((0 : Nat))) ∧ (((Go.Fn.func (37 : Go.FuncId)) = (Go.Fn.func (37 : Go.FuncId))) ∧ (((P.n) = (P.n)) ∧ ((∀ i : Nat, ((i < P.n) → (AVEqs [(.v (.int Go.IntKind.i64 (P.g i)))] [(.v (.int Go.IntKind.i64 (P.g i)))]))) ∧ ((((↑P.n : Int)) = ((↑P.n : Int))) ∧ (((Go.IntKind.i64.wrap ((↑k : Int) + (1 : Int))) = ((↑(k + (1 : Nat)) : Int))) ∧ (((d.lo) = (d.lo)) ∧ (((d.hi) = (d.hi)) ∧ (((d.step) = (d.step)) ∧ (((d.err) = (d.err)) ∧ (The (k + (1 : Nat) < (F_poss d R P).N)))))))))))))))))))) (((Bool.false) = (Bool.false)) ∧ (The ((F_poss d R P).b = Bool.false))))))))))))))) (((Bool.false) = (Bool.false)) ∧ (The ((F_poss d R P).b = Bool.false))))))))))))))) (((R.n) = (R.n)) ∧ ((∀ i : Nat, ((i < R.n) → (AVEqs [(.v (.int Go.IntKind.i64 (R.g i)))] [(.v (.int Go.IntKind.i64 (R.g i)))]))) ∧ (((P.n) = (P.n)) ∧ ((∀ i : Nat, ((i < P.n) → (AVEqs [(.v (.int Go.IntKind.i64 (P.g i)))] [(.v (.int Go.IntKind.i64 (P.g i)))]))) ∧ (((Bool.false) = (Bool.false)) ∧ ((((0 : Nat)) = ((0 : Nat))) ∧ (((Go.Fn.func (37 : Go.FuncId)) = (Go.Fn.func (37 : Go.FuncId))) ∧ (((P.n) = (P.n)) ∧ ((∀ i : Nat, ((i < P.n) → (AVEqs [(.v (.int Go.IntKind.i64 (P.g i)))] [(.v (.int Go.IntKind.i64 (P.g i)))]))) ∧ ((((↑P.n : Int)) = ((↑P.n : Int))) ∧ (((Go.IntKind.i64.wrap ((↑k : Int) + (1 : Int))) = ((↑(k + (1 : Nat)) : Int))) ∧ (((d.lo) = (d.lo)) ∧ (((d.hi) = (d.hi)) ∧ (((d.step) = (d.step)) ∧ (((d.err) = (d.err)) ∧ (The (k + (1 : Nat) < (F_poss d R P).N))))))))))))))))))))) (((Bool.false) = (Bool.false)) ∧ (The ((F_poss d R P).b = Bool.false)))))) (Br (Decidable.decide ((↑k : Int) > (0 : Int))) (Br (Decidable.decide (P.g (↑k : Int).toNat < (1 : Int))) (((Bool.false) = (Bool.false)) ∧ (The ((F_poss d R P).b = Bool.false))) (((0 : Int) ≤ Go.IntKind.i64.wrap ((↑k : Int) - (1 : Int))) ∧ ((Go.IntKind.i64.wrap ((↑k : Int) - (1 : Int)) < (↑P.n : Int)) ∧ (((0 : Int) ≤ Go.IntKind.i64.wrap ((↑k : Int) - (1 : Int))) ∧ ((Go.IntKind.i64.wrap ((↑k : Int) - (1 : Int)) < (↑P.n : Int)) ∧ (((0 : Int) ≤ (0 : Int)) ∧ (((0 : Int) < (↑(2 : Nat) : Int)) ∧ (((0 : Int) ≤ (1 : Int)) ∧ (((1 : Int) < (↑(2 : Nat) : Int)) ∧ (((0 : Int) ≤ (0 : Int)) ∧ (((0 : Int) < (↑(2 : Nat) : Int)) ∧ (Br (Decidable.decide (P.g (↑k : Int).toNat ≥ Go.IntKind.i64.wrap (P.g (Go.IntKind.i64.wrap ((↑k : Int) - (1 : Int))).toNat - d.step))) (((0 : Int) ≤ (1 : Int)) ∧ (((1 : Int) < (↑(2 : Nat) : Int)) ∧ (Br (!Decidable.decide (P.g (↑k : Int).toNat ≤ Go.IntKind.i64.wrap (P.g (Go.IntKind.i64.wrap ((↑k : Int) - (1 : Int))).toNat + d.step))) (((Bool.false) = (Bool.false)) ∧ (The ((F_poss d R P).b = Bool.false))) (((0 : Int) ≤ Go.IntKind.i64.wrap ((↑k : Int) - (1 : Int))) ∧ ((Go.IntKind.i64.wrap ((↑k : Int) - (1 : Int)) < (↑R.n : Int)) ∧ (((0 : Int) ≤ (0 : Int)) ∧ (((0 : Int) < (↑(2 : Nat) : Int)) ∧ (((0 : Int) ≤ (1 : Int)) ∧ (((1 : Int) < (↑(2 : Nat) : Int)) ∧ (((0 : Int) ≤ (0 : Int)) ∧ (((0 : Int) < (↑(2 : Nat) : Int)) ∧ (Br (Decidable.decide (R.g (Go.IntKind.i64.wrap ((↑k : Int) - (1 : Int))).toNat ≥ Go.IntKind.i64.wrap (P.g (↑k : Int).toNat - d.err))) (((0 : Int) ≤ (1 : Int)) ∧ (((1 : Int) < (↑(2 : Nat) : Int)) ∧ (Br (!Decidable.decide (R.g (Go.IntKind.i64.wrap ((↑k : Int) - (1 : Int))).toNat ≤ Go.IntKind.i64.wrap (P.g (↑k : Int).toNat + d.err))) (((Bool.false) = (Bool.false)) ∧ (The ((F_poss d R P).b = Bool.false))) (((R.n) = (R.n)) ∧ ((∀ i : Nat, ((i < R.n) → (AVEqs [(.v (.int Go.IntKind.i64 (R.g i)))] [(.v (.int Go.IntKind.i64 (R.g i)))]))) ∧ (((P.n) = (P.n)) ∧ ((∀ i : Nat, ((i < P.n) → (AVEqs [(.v (.int Go.IntKind.i64 (P.g i)))] [(.v (.int Go.IntKind.i64 (P.g i)))]))) ∧ (((Bool.false) = (Bool.false)) ∧ ((((0 : Nat)) = ((0 : Nat))) ∧ (((Go.Fn.func (37 : Go.FuncId)) = (Go.Fn.func (37 : Go.FuncId))) ∧ (((P.n) = (P.n)) ∧ ((∀ i : Nat, ((i < P.n) → (AVEqs [(.v (.int Go.IntKind.i64 (P.g i)))] [(.v (.int Go.IntKind.i64 (P.g i)))]))) ∧ ((((↑P.n : Int)) = ((↑P.n : Int))) ∧ (((Go.IntKind.i64.wrap ((↑k : Int) + (1 : Int))) = ((↑(k + (1 : Nat)) : Int))) ∧ (((d.lo) = (d.lo)) ∧ (((d.hi) = (d.hi)) ∧ (((d.step) = (d.step)) ∧ (((d.err) = (d.err)) ∧ (The (k + (1 : Nat) < (F_poss d R P).N)))))))))))))))))))) (((Bool.false) = (Bool.false)) ∧ (The ((F_poss d R P).b = Bool.false))))))))))))))) (((Bool.false) = (Bool.false)) ∧ (The ((F_poss d R P).b = Bool.false))))))))))))))) (((R.n) = (R.n)) ∧ ((∀ i : Nat, ((i < R.n) → (AVEqs [(.v (.int Go.IntKind.i64 (R.g i)))] [(.v (.int Go.IntKind.i64 (R.g i)))]))) ∧ (((P.n) = (P.n)) ∧ ((∀ i : Nat, ((i < P.n) → (AVEqs [(.v (.int Go.IntKind.i64 (P.g i)))] [(.v (.int Go.IntKind.i64 (P.g i)))]))) ∧ (((Bool.false) = (Bool.false)) ∧ ((((0 : Nat)) = ((0 : Nat))) ∧ (((Go.Fn.func (37 : Go.FuncId)) = (Go.Fn.func (37 : Go.FuncId))) ∧ (((P.n) = (P.n)) ∧ ((∀ i : Nat, ((i < P.n) → (AVEqs [(.v (.int Go.IntKind.i64 (P.g i)))] [(.v (.int Go.IntKind.i64 (P.g i)))]))) ∧ ((((↑P.n : Int)) = ((↑P.n : Int))) ∧ (((Go.IntKind.i64.wrap ((↑k : Int) + (1 : Int))) = ((↑(k + (1 : Nat)) : Int))) ∧ (((d.lo) = (d.lo)) ∧ (((d.hi) = (d.hi)) ∧ (((d.step) = (d.step)) ∧ (((d.err) = (d.err)) ∧ (The (k + (1 : Nat) < (F_poss d R P).N))))))))))))))))))))) (The ((F_poss d R P).b = Bool.true)))) := by kernel_rfl

theorem lok_poss (d : Dr) (R P : IL) (hyp : d.ok ∧ R.n ≤ 1000 ∧ ∀ i, i < P.n → -1000000000000 ≤ P.g i ∧ P.g i ≤ 1000000000000) : LoopOk Try.prog (24, 6, (F_poss d R P).go) := by
  refine lp_ok (F_poss d R P) mix [] [37, 38] [] (fun c hc => by cases hc) (fuel := 10) (d := 6) (by kernel_rfl) fun k hk => ⟨[], (fun c hc => by cases hc), ?_⟩
  refine (vl_poss d R P k).mpr ?_
  obtain ⟨hd, hn, hs⟩ := hyp
  have hk : k < if P.n = R.n + 1 then lead (chkP d R.g P.g) P.n + 1 else 0 := hk
  have hP : P.n = R.n + 1 := by
    by_cases e : P.n = R.n + 1
    · exact e
    · rw [if_neg e] at hk; omega
  have hN : (F_poss d R P).N = lead (chkP d R.g P.g) P.n + 1 := if_pos hP
  rw [if_pos hP] at hk
  have hg := lead_le (chkP d R.g P.g) P.n
  obtain ⟨h1, h2, h3, h4, h5, h6, h7⟩ := hd
  have i1 : ((k : Int)).toNat = k := by omega
  simp only [i1]
  refine Br.intro (fun h => ?_) (fun h => ?_)
  · have hkn : k < P.n := by have := dec_t h; omega
    have hst := lead_step (c := chkP d R.g P.g) (n := P.n) (k := k) (by omega) hkn
    have hfail : chkP d R.g P.g k = false → (F_poss d R P).b = false := fun hh => by
      have := hst.2 hh
      show decide (lead (chkP d R.g P.g) P.n = P.n) = false
      simp; omega
    have hpass : chkP d R.g P.g k = true → k + 1 < (F_poss d R P).N := fun hh => by
      have := hst.1 hh
      rw [hN]
      omega
    have hsk := hs k hkn
    clear h hst
    rcases k with _ | j
    · simp (disch := omega) only [w64_in]
      repeat' (first | exact trivial | refine Br.intro (fun _ => ?_) (fun _ => ?_) | refine And.intro ?_ ?_)
      all_goals try simp only [decide_eq_true_eq, decide_eq_false_iff_not, Bool.not_eq_true', Bool.not_eq_false', beq_iff_eq, beq_eq_false_iff_ne] at *
      all_goals first | omega | rfl | exact fun _ _ => .refl _ | exact ⟨hfail (by simp [chkP]; omega)⟩ | exact ⟨hpass (by simp [chkP]; omega)⟩
    · have hsj := hs j (by omega)
      have i2 : (((j + 1 : Nat) : Int) - 1) = (j : Int) := by omega
      have i3 : ((j : Int)).toNat = j := by omega
      simp (disch := omega) only [w64_in, i2, i3]
      repeat' (first | exact trivial | refine Br.intro (fun _ => ?_) (fun _ => ?_) | refine And.intro ?_ ?_)
      all_goals try simp only [decide_eq_true_eq, decide_eq_false_iff_not, Bool.not_eq_true', Bool.not_eq_false', beq_iff_eq, beq_eq_false_iff_ne] at *
      all_goals first | omega | rfl | exact fun _ _ => .refl _ | exact ⟨hfail (by simp [chkP]; omega)⟩ | exact ⟨hpass (by simp [chkP]; omega)⟩
  · have hkn : k = P.n := by have := dec_f h; omega
    exact ⟨by show decide (lead (chkP d R.g P.g) P.n = P.n) = true; simp; omega⟩
def g_Possible : List AV → Option (Prop × AV)
  | [.v (.int .i64 lo), .v (.int .i64 hi), .v (.int .i64 step), .v (.int .i64 err), .rs 1 R_0 R_1 R_2, .rs 1 P_0 P_1 P_2] => some ((∀ i, i < R_0 → R_2 i = [.v (.int .i64 (intAt (R_2 i)))]) ∧ (∀ i, i < P_0 → P_2 i = [.v (.int .i64 (intAt (P_2 i)))]) ∧ ((Dr.mk lo hi step err).ok ∧ (⟨R_0, fun i => intAt (R_2 i)⟩ : IL).n ≤ 1000 ∧ ∀ i, i < (⟨P_0, fun i => intAt (P_2 i)⟩ : IL).n → -1000000000000 ≤ (⟨P_0, fun i => intAt (P_2 i)⟩ : IL).g i ∧ (⟨P_0, fun i => intAt (P_2 i)⟩ : IL).g i ≤ 1000000000000), .v (.bool (possB (Dr.mk lo hi step err) (⟨R_0, fun i => intAt (R_2 i)⟩ : IL) (⟨P_0, fun i => intAt (P_2 i)⟩ : IL))))
  | _ => none
theorem g_Possible_of {args : List AV} {p : Prop} {v : AV} (h : g_Possible  args = some (p, v)) : ∃ lo hi step err R_0 R_1 R_2 P_0 P_1 P_2, args = [.v (.int .i64 lo), .v (.int .i64 hi), .v (.int .i64 step), .v (.int .i64 err), .rs 1 R_0 R_1 R_2, .rs 1 P_0 P_1 P_2] ∧ p = ((∀ i, i < R_0 → R_2 i = [.v (.int .i64 (intAt (R_2 i)))]) ∧ (∀ i, i < P_0 → P_2 i = [.v (.int .i64 (intAt (P_2 i)))]) ∧ ((Dr.mk lo hi step err).ok ∧ (⟨R_0, fun i => intAt (R_2 i)⟩ : IL).n ≤ 1000 ∧ ∀ i, i < (⟨P_0, fun i => intAt (P_2 i)⟩ : IL).n → -1000000000000 ≤ (⟨P_0, fun i => intAt (P_2 i)⟩ : IL).g i ∧ (⟨P_0, fun i => intAt (P_2 i)⟩ : IL).g i ≤ 1000000000000)) ∧ v = .v (.bool (possB (Dr.mk lo hi step err) (⟨R_0, fun i => intAt (R_2 i)⟩ : IL) (⟨P_0, fun i => intAt (P_2 i)⟩ : IL))) := by
  unfold g_Possible at h
  split at h
  · cases h; exact ⟨_, _, _, _, _, _, _, _, _, _, rfl, rfl, rfl⟩
  · cases h
set_option maxRecDepth 100000 in
theorem vc_Possible (lo : Int) (hi : Int) (step : Int) (err : Int) (R : IL) (P : IL) : (callN Try.prog (mkCfg Try.prog [] [24, 36, 37, 38] [(24, 6, (F_poss (Dr.mk lo hi step err) R P).go)] []) 10 6 24 [.v (.int .i64 lo), .v (.int .i64 hi), .v (.int .i64 step), .v (.int .i64 err), R.av, P.av] [] 0 (Reads (.v (.bool (possB (Dr.mk lo hi step err) R P))))) =
    ((Br (Decidable.decide (lo < (1 : Int))) (((Bool.false) = (possB (Dr.mk lo hi step err) R P)) ∧ True) (Br (Decidable.decide (hi < lo)) (((Bool.false) = (possB (Dr.mk lo hi step err) R P)) ∧ True) (Br (Decidable.decide (hi > (1000000 : Int))) (((Bool.false) = (possB (Dr.mk lo hi step err) R P)) ∧ True) (Br (Decidable.decide (Min.min step err < (0 : Int))) (((Bool.false) = (possB (Dr.mk lo hi step err) R P)) ∧ True) (Br (Decidable.decide (Max.max step err > (1000000 : Int))) (((Bool.false) = (possB (Dr.mk lo hi step err) R P)) ∧ True) (Br (Decidable.decide ((↑R.n : Int) > (1000 : Int))) (((Bool.false) = (possB (Dr.mk lo hi step err) R P)) ∧ True) (Br ((↑P.n : Int) != Go.IntKind.i64.wrap ((↑R.n : Int) + (1 : Int))) (((Bool.false) = (possB (Dr.mk lo hi step err) R P)) ∧ True) ((((R.n) = (R.n)) ∧ ((∀ i : Nat, ((i < R.n) → (AVEqs [(.v (.int Go.IntKind.i64 (R.g i)))] [(.v (.int Go.IntKind.i64 (R.g i)))]))) ∧ (((P.n) = (P.n)) ∧ ((∀ i : Nat, ((i < P.n) → (AVEqs [(.v (.int Go.IntKind.i64 (P.g i)))] [(.v (.int Go.IntKind.i64 (P.g i)))]))) ∧ (((Bool.false) = (Bool.false)) ∧ ((((0 : Nat)) = ((0 : Nat))) ∧ (((Go.Fn.func (37 : Nat)) = (Go.Fn.func (37 : Go.FuncId))) ∧ (((P.n) = (P.n)) ∧ ((∀ i : Nat, ((i < P.n) → (AVEqs [(.v (.int Go.IntKind.i64 (P.g i)))] [(.v (.int Go.IntKind.i64 (P.g i)))]))) ∧ ((((↑P.n : Int)) = ((↑P.n : Int))) ∧ ((((0 : Int)) = ((↑(0 : Nat) : Int))) ∧ (((lo) = ((Dr.mk lo hi step err).lo)) ∧ (((hi) = ((Dr.mk lo hi step err).hi)) ∧ (((step) = ((Dr.mk lo hi step err).step)) ∧ (((err) = ((Dr.mk lo hi step err).err)) ∧ (The ((0 : Nat) < (F_poss (Dr.mk lo hi step err) R P).N))))))))))))))))) ∧ (Br ((F_poss (Dr.mk lo hi step err) R P).b) (((Bool.true) = (possB (Dr.mk lo hi step err) R P)) ∧ True) (((Bool.false) = (possB (Dr.mk lo hi step err) R P)) ∧ True))))))))))) := by kernel_rfl

def c_Possible : Ctr := ⟨24, g_Possible ⟩
theorem ok_Possible : CtrOk Try.prog (c_Possible ) := by
  refine ctr_of'' mix [] [24, 36, 37, 38] [] (fun c hc => by cases hc) (fuel := 10) (d := 6) ⟨_, Try.func24, by kernel_rfl, by kernel_rfl⟩ fun args p v h hp => ?_
  obtain ⟨lo, hi, step, err, R_0, R_1, R_2, P_0, P_1, P_2, rfl, rfl, rfl⟩ := g_Possible_of  h
  obtain ⟨e_0, e_1, hp⟩ := hp
  refine ⟨[.v (.int .i64 lo), .v (.int .i64 hi), .v (.int .i64 step), .v (.int .i64 err), (⟨R_0, fun i => intAt (R_2 i)⟩ : IL).av, (⟨P_0, fun i => intAt (P_2 i)⟩ : IL).av], (.cons _ _ _ _ (.refl _) (.cons _ _ _ _ (.refl _) (.cons _ _ _ _ (.refl _) (.cons _ _ _ _ (.refl _) (.cons _ _ _ _ (IL.eqv e_0) (.cons _ _ _ _ (IL.eqv e_1) .nil)))))), ?_⟩
  generalize hx_R : (⟨R_0, fun i => intAt (R_2 i)⟩ : IL) = R at *
  generalize hx_P : (⟨P_0, fun i => intAt (P_2 i)⟩ : IL) = P at *
  clear h
  clear hx_R hx_P
  refine ⟨[(24, 6, (F_poss (Dr.mk lo hi step err) R P).go)], (by
    intro c hc
    simp only [List.mem_cons, List.not_mem_nil, or_false] at hc
    rcases hc with rfl
    · exact lok_poss _ R P hp
    ), ?_⟩
  refine (vc_Possible  lo hi step err R P).mpr ?_
  obtain ⟨hd, hn, hs⟩ := hp
  obtain ⟨h1, h2, h3, h4, h5, h6, h7⟩ := hd
  dsimp only at h1 h2 h3 h4 h5 h6 h7
  rw [w64_in _ (by omega)]
  refine Br.intro (fun h => absurd (dec_t h) (by omega)) (fun _ => ?_)
  refine Br.intro (fun h => absurd (dec_t h) (by omega)) (fun _ => ?_)
  refine Br.intro (fun h => absurd (dec_t h) (by omega)) (fun _ => ?_)
  refine Br.intro (fun h => absurd (dec_t h) (by omega)) (fun _ => ?_)
  refine Br.intro (fun h => absurd (dec_t h) (by omega)) (fun _ => ?_)
  refine Br.intro (fun h => absurd (dec_t h) (by omega)) (fun _ => ?_)
  refine Br.intro (fun h => ?_) (fun h => ?_)
  · have hne : ¬ P.n = R.n + 1 := by simp at h; omega
    exact ⟨by simp [possB, hne], trivial⟩
  · have hP : P.n = R.n + 1 := by simp at h; omega
    refine ⟨?_, ?_⟩
    · repeat' (refine And.intro ?_ ?_)
      all_goals first | exact trivial | rfl | exact fun _ _ => .refl _ | exact ⟨by show 0 < if P.n = R.n + 1 then _ else _; rw [if_pos hP]; omega⟩
    · refine Br.intro (fun h => ⟨?_, trivial⟩) (fun h => ⟨?_, trivial⟩)
      · have h : decide (lead (chkP (Dr.mk lo hi step err) R.g P.g) P.n = P.n) = true := h
        simp [possB, hP] at h ⊢; exact h
      · have h : decide (lead (chkP (Dr.mk lo hi step err) R.g P.g) P.n = P.n) = false := h
        simp [possB, hP] at h ⊢; exact h
end Go.Proofs.Ytlofmgdjnaajjaa
