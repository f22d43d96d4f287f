/- Own text: the monitor's functions. -/
import Derived.Test.YtlofmgdjnaajjaaBs
namespace Go.Proofs.Ytlofmgdjnaajjaa
open Go Go.Ev Go.Proofs
set_option linter.unusedVariables false
set_option linter.unusedSimpArgs false
attribute [local irreducible] Go.Ev.callN Go.Ev.codeE
/-- A monitor. -/
structure Mon where
  lo : Int
  hi : Int
  step : Int
  err : Int
  least : Int
  most : Int
  stopped : Bool
namespace Mon
abbrev av (m : Mon) : AV := .agg [.v (.int .i64 m.lo), .v (.int .i64 m.hi), .v (.int .i64 m.step), .v (.int .i64 m.err), .v (.int .i64 m.least), .v (.int .i64 m.most), .v (.bool m.stopped)]
structure ok (m : Mon) : Prop where
  h1 : 1 ≤ m.lo
  h2 : m.lo ≤ m.hi
  h3 : m.hi ≤ 1000000
  h4 : 0 ≤ m.step
  h5 : m.step ≤ 1000000
  h6 : 0 ≤ m.err
  h7 : m.err ≤ 1000000
  h8 : 1 ≤ m.least
  h9 : m.least ≤ m.most
  h10 : m.most ≤ 1000000
def oLo (m : Mon) : Int := max 1 (m.lo - m.step)
def oHi (m : Mon) : Int := m.hi + m.step
def inR (m : Mon) : Bool := decide (m.least ≤ m.oLo) && decide (m.oHi ≤ m.most)
def sLo (m : Mon) (r : Int) : Int := max m.oLo (r - m.err)
def sHi (m : Mon) (r : Int) : Int := min m.oHi (r + m.err)
def agrees (m : Mon) (r : Int) : Bool := decide (-4000000 ≤ r) && decide (r ≤ 4000000) && decide (m.sLo r ≤ m.sHi r)
def upd (m : Mon) (a b : Int) : Mon := { m with lo := a, hi := b, stopped := !inR { m with lo := a, hi := b } }
def see (m : Mon) (r : Int) : Mon := if m.stopped then m else if m.agrees r then m.upd (m.sLo r) (m.sHi r) else { m with stopped := true }
def miss (m : Mon) : Mon := if m.stopped then m else m.upd m.oLo m.oHi
def new (m : Mon) : Mon := { m with stopped := !m.inR }
end Mon
def g_Valid : List AV → Option (Prop × AV)
  | [.agg [.v (.int .i64 x_0), .v (.int .i64 x_1), .v (.int .i64 x_2), .v (.int .i64 x_3), .v (.int .i64 x_4), .v (.int .i64 x_5), .v (.bool x_6)]] => some (((⟨x_0, x_1, x_2, x_3, x_4, x_5, x_6⟩ : Mon).ok), .v (.bool ((⟨x_0, x_1, x_2, x_3, x_4, x_5, x_6⟩ : Mon).stopped || (⟨x_0, x_1, x_2, x_3, x_4, x_5, x_6⟩ : Mon).inR)))
  | _ => none
theorem g_Valid_of {args : List AV} {p : Prop} {v : AV} (h : g_Valid  args = some (p, v)) : ∃ x_0 x_1 x_2 x_3 x_4 x_5 x_6, args = [.agg [.v (.int .i64 x_0), .v (.int .i64 x_1), .v (.int .i64 x_2), .v (.int .i64 x_3), .v (.int .i64 x_4), .v (.int .i64 x_5), .v (.bool x_6)]] ∧ p = (((⟨x_0, x_1, x_2, x_3, x_4, x_5, x_6⟩ : Mon).ok)) ∧ v = .v (.bool ((⟨x_0, x_1, x_2, x_3, x_4, x_5, x_6⟩ : Mon).stopped || (⟨x_0, x_1, x_2, x_3, x_4, x_5, x_6⟩ : Mon).inR)) := by
  unfold g_Valid at h
  split at h
  · cases h; exact ⟨_, _, _, _, _, _, _, rfl, rfl, rfl⟩
  · cases h
set_option maxRecDepth 100000 in
theorem vc_Valid (x : Mon) : (callN Try.prog (mkCfg Try.prog [] [12, 29, 18] [] []) 10 6 12 [x.av] [] 0 (Reads (.v (.bool (x.stopped || x.inR))))) =
    ((Br (Decidable.decide (x.least < (1 : Int))) (((Bool.false) = (x.stopped || x.inR)) ∧ True) (Br (Decidable.decide (x.most < x.least)) (((Bool.false) = (x.stopped || x.inR)) ∧ True) (Br (Decidable.decide (x.most > (1000000 : Int))) (((Bool.false) = (x.stopped || x.inR)) ∧ True) (Br (Decidable.decide (x.lo < (1 : Int))) (((Bool.false) = (x.stopped || x.inR)) ∧ True) (Br (Decidable.decide (x.hi < x.lo)) (((Bool.false) = (x.stopped || x.inR)) ∧ True) (Br (Decidable.decide (x.hi > (1000000 : Int))) (((Bool.false) = (x.stopped || x.inR)) ∧ True) (Br (Decidable.decide (x.step < (0 : Int))) (((Bool.false) = (x.stopped || x.inR)) ∧ True) (Br (Decidable.decide (x.step > (1000000 : Int))) (((Bool.false) = (x.stopped || x.inR)) ∧ True) (Br (Decidable.decide (x.err < (0 : Int))) (((Bool.false) = (x.stopped || x.inR)) ∧ True) (Br (Decidable.decide (x.err > (1000000 : Int))) (((Bool.false) = (x.stopped || x.inR)) ∧ True) (Br (x.stopped) (((Bool.true) = (x.stopped || x.inR)) ∧ True) (Br (Decidable.decide (Max.max (1 : Int) (Go.IntKind.i64.wrap (x.lo - x.step)) ≥ x.least)) (((Decidable.decide (Go.IntKind.i64.wrap (x.hi + x.step) ≤ x.most)) = (x.stopped || x.inR)) ∧ True) (((Bool.false) = (x.stopped || x.inR)) ∧ True)))))))))))))) := by kernel_rfl

def c_Valid : Ctr := ⟨12, g_Valid ⟩
theorem ok_Valid : CtrOk Try.prog (c_Valid ) := by
  refine ctr_of'' mix [] [12, 29, 18] [] (fun c hc => by cases hc) (fuel := 10) (d := 6) ⟨_, Try.func12, by kernel_rfl, by kernel_rfl⟩ fun args p v h hp => ?_
  obtain ⟨x_0, x_1, x_2, x_3, x_4, x_5, x_6, rfl, rfl, rfl⟩ := g_Valid_of  h
  refine ⟨[(⟨x_0, x_1, x_2, x_3, x_4, x_5, x_6⟩ : Mon).av], (.cons _ _ _ _ (.refl _) .nil), ?_⟩
  generalize hx_x : (⟨x_0, x_1, x_2, x_3, x_4, x_5, x_6⟩ : Mon) = x at *
  clear h
  clear hx_x
  refine ⟨[], (fun c hc => by cases hc), ?_⟩
  refine (vc_Valid  x).mpr ?_
  obtain ⟨h1, h2, h3, h4, h5, h6, h7, h8, h9, h10⟩ := hp
  simp (disch := omega) only [w64_in]
  repeat' (first | exact trivial | refine Br.intro (fun _ => ?_) (fun _ => ?_) | refine And.intro ?_ ?_)
  all_goals grind [Mon.see, Mon.miss, Mon.upd, Mon.agrees, Mon.inR, Mon.oLo, Mon.oHi, Mon.sLo, Mon.sHi]
def g_outlook : List AV → Option (Prop × AV)
  | [.agg [.v (.int .i64 x_0), .v (.int .i64 x_1), .v (.int .i64 x_2), .v (.int .i64 x_3), .v (.int .i64 x_4), .v (.int .i64 x_5), .v (.bool x_6)]] => some (((⟨x_0, x_1, x_2, x_3, x_4, x_5, x_6⟩ : Mon).ok), .agg [.v (.int .i64 (⟨x_0, x_1, x_2, x_3, x_4, x_5, x_6⟩ : Mon).oLo), .v (.int .i64 (⟨x_0, x_1, x_2, x_3, x_4, x_5, x_6⟩ : Mon).oHi)])
  | _ => none
theorem g_outlook_of {args : List AV} {p : Prop} {v : AV} (h : g_outlook  args = some (p, v)) : ∃ x_0 x_1 x_2 x_3 x_4 x_5 x_6, args = [.agg [.v (.int .i64 x_0), .v (.int .i64 x_1), .v (.int .i64 x_2), .v (.int .i64 x_3), .v (.int .i64 x_4), .v (.int .i64 x_5), .v (.bool x_6)]] ∧ p = (((⟨x_0, x_1, x_2, x_3, x_4, x_5, x_6⟩ : Mon).ok)) ∧ v = .agg [.v (.int .i64 (⟨x_0, x_1, x_2, x_3, x_4, x_5, x_6⟩ : Mon).oLo), .v (.int .i64 (⟨x_0, x_1, x_2, x_3, x_4, x_5, x_6⟩ : Mon).oHi)] := by
  unfold g_outlook at h
  split at h
  · cases h; exact ⟨_, _, _, _, _, _, _, rfl, rfl, rfl⟩
  · cases h
set_option maxRecDepth 100000 in
theorem vc_outlook (x : Mon) : (callN Try.prog (mkCfg Try.prog [] [17, 32, 27] [] []) 10 6 17 [x.av] [] 0 (Reads (.agg [.v (.int .i64 x.oLo), .v (.int .i64 x.oHi)]))) =
    ((((Max.max (1 : Int) (Go.IntKind.i64.wrap (x.lo - x.step))) = (x.oLo)) ∧ (((Go.IntKind.i64.wrap (x.hi + x.step)) = (x.oHi)) ∧ True))) := by kernel_rfl

def c_outlook : Ctr := ⟨17, g_outlook ⟩
theorem ok_outlook : CtrOk Try.prog (c_outlook ) := by
  refine ctr_of'' mix [] [17, 32, 27] [] (fun c hc => by cases hc) (fuel := 10) (d := 6) ⟨_, Try.func17, by kernel_rfl, by kernel_rfl⟩ fun args p v h hp => ?_
  obtain ⟨x_0, x_1, x_2, x_3, x_4, x_5, x_6, rfl, rfl, rfl⟩ := g_outlook_of  h
  refine ⟨[(⟨x_0, x_1, x_2, x_3, x_4, x_5, x_6⟩ : Mon).av], (.cons _ _ _ _ (.refl _) .nil), ?_⟩
  generalize hx_x : (⟨x_0, x_1, x_2, x_3, x_4, x_5, x_6⟩ : Mon) = x at *
  clear h
  clear hx_x
  refine ⟨[], (fun c hc => by cases hc), ?_⟩
  refine (vc_outlook  x).mpr ?_
  obtain ⟨h1, h2, h3, h4, h5, h6, h7, h8, h9, h10⟩ := hp
  simp (disch := omega) only [w64_in]
  repeat' (first | exact trivial | refine Br.intro (fun _ => ?_) (fun _ => ?_) | refine And.intro ?_ ?_)
  all_goals grind [Mon.see, Mon.miss, Mon.upd, Mon.agrees, Mon.inR, Mon.oLo, Mon.oHi, Mon.sLo, Mon.sHi]
def g_Agrees : List AV → Option (Prop × AV)
  | [.agg [.v (.int .i64 x_0), .v (.int .i64 x_1), .v (.int .i64 x_2), .v (.int .i64 x_3), .v (.int .i64 x_4), .v (.int .i64 x_5), .v (.bool x_6)], .v (.int .i64 r)] => some (((⟨x_0, x_1, x_2, x_3, x_4, x_5, x_6⟩ : Mon).ok), .v (.bool ((⟨x_0, x_1, x_2, x_3, x_4, x_5, x_6⟩ : Mon).agrees r)))
  | _ => none
theorem g_Agrees_of {args : List AV} {p : Prop} {v : AV} (h : g_Agrees  args = some (p, v)) : ∃ x_0 x_1 x_2 x_3 x_4 x_5 x_6 r, args = [.agg [.v (.int .i64 x_0), .v (.int .i64 x_1), .v (.int .i64 x_2), .v (.int .i64 x_3), .v (.int .i64 x_4), .v (.int .i64 x_5), .v (.bool x_6)], .v (.int .i64 r)] ∧ p = (((⟨x_0, x_1, x_2, x_3, x_4, x_5, x_6⟩ : Mon).ok)) ∧ v = .v (.bool ((⟨x_0, x_1, x_2, x_3, x_4, x_5, x_6⟩ : Mon).agrees r)) := by
  unfold g_Agrees at h
  split at h
  · cases h; exact ⟨_, _, _, _, _, _, _, _, rfl, rfl, rfl⟩
  · cases h
set_option maxRecDepth 100000 in
theorem vc_Agrees (x : Mon) (r : Int) : (callN Try.prog (mkCfg Try.prog [] [19, 27, 33, 42] [] []) 10 6 19 [x.av, .v (.int .i64 r)] [] 0 (Reads (.v (.bool (x.agrees r))))) =
    ((Br (Decidable.decide (r < (-4000000 : Int))) (((Bool.false) = (x.agrees r)) ∧ True) (Br (Decidable.decide (r > (4000000 : Int))) (((Bool.false) = (x.agrees r)) ∧ True) (Br (!(Max.max (Max.max (1 : Int) (Go.IntKind.i64.wrap (x.lo - x.step))) (Go.IntKind.i64.wrap (r - x.err)) == (1 : Int) && (Min.min (Go.IntKind.i64.wrap (x.hi + x.step)) (Go.IntKind.i64.wrap (r + x.err)) == (0 : Int) && Bool.true))) (((Decidable.decide (Max.max (Max.max (1 : Int) (Go.IntKind.i64.wrap (x.lo - x.step))) (Go.IntKind.i64.wrap (r - x.err)) ≤ Min.min (Go.IntKind.i64.wrap (x.hi + x.step)) (Go.IntKind.i64.wrap (r + x.err)))) = (x.agrees r)) ∧ True) (((Bool.false) = (x.agrees r)) ∧ True))))) := by kernel_rfl

def c_Agrees : Ctr := ⟨19, g_Agrees ⟩
theorem ok_Agrees : CtrOk Try.prog (c_Agrees ) := by
  refine ctr_of'' mix [] [19, 27, 33, 42] [] (fun c hc => by cases hc) (fuel := 10) (d := 6) ⟨_, Try.func19, by kernel_rfl, by kernel_rfl⟩ fun args p v h hp => ?_
  obtain ⟨x_0, x_1, x_2, x_3, x_4, x_5, x_6, r, rfl, rfl, rfl⟩ := g_Agrees_of  h
  refine ⟨[(⟨x_0, x_1, x_2, x_3, x_4, x_5, x_6⟩ : Mon).av, .v (.int .i64 r)], (.cons _ _ _ _ (.refl _) (.cons _ _ _ _ (.refl _) .nil)), ?_⟩
  generalize hx_x : (⟨x_0, x_1, x_2, x_3, x_4, x_5, x_6⟩ : Mon) = x at *
  clear h
  clear hx_x
  refine ⟨[], (fun c hc => by cases hc), ?_⟩
  refine (vc_Agrees  x r).mpr ?_
  obtain ⟨h1, h2, h3, h4, h5, h6, h7, h8, h9, h10⟩ := hp
  by_cases hf : -4000000 ≤ r ∧ r ≤ 4000000
  · obtain ⟨hf1, hf2⟩ := hf
    simp (disch := omega) only [w64_in]
    repeat' (first | exact trivial | refine Br.intro (fun _ => ?_) (fun _ => ?_) | refine And.intro ?_ ?_)
    all_goals grind [Mon.see, Mon.upd, Mon.agrees, Mon.inR, Mon.oLo, Mon.oHi, Mon.sLo, Mon.sHi]
  · repeat' (first | exact trivial | refine Br.intro (fun _ => ?_) (fun _ => ?_) | refine And.intro ?_ ?_)
    all_goals grind [Mon.see, Mon.agrees]
def g_See : List AV → Option (Prop × AV)
  | [.agg [.v (.int .i64 x_0), .v (.int .i64 x_1), .v (.int .i64 x_2), .v (.int .i64 x_3), .v (.int .i64 x_4), .v (.int .i64 x_5), .v (.bool x_6)], .v (.int .i64 r)] => some (((⟨x_0, x_1, x_2, x_3, x_4, x_5, x_6⟩ : Mon).ok), ((⟨x_0, x_1, x_2, x_3, x_4, x_5, x_6⟩ : Mon).see r).av)
  | _ => none
theorem g_See_of {args : List AV} {p : Prop} {v : AV} (h : g_See  args = some (p, v)) : ∃ x_0 x_1 x_2 x_3 x_4 x_5 x_6 r, args = [.agg [.v (.int .i64 x_0), .v (.int .i64 x_1), .v (.int .i64 x_2), .v (.int .i64 x_3), .v (.int .i64 x_4), .v (.int .i64 x_5), .v (.bool x_6)], .v (.int .i64 r)] ∧ p = (((⟨x_0, x_1, x_2, x_3, x_4, x_5, x_6⟩ : Mon).ok)) ∧ v = ((⟨x_0, x_1, x_2, x_3, x_4, x_5, x_6⟩ : Mon).see r).av := by
  unfold g_See at h
  split at h
  · cases h; exact ⟨_, _, _, _, _, _, _, _, rfl, rfl, rfl⟩
  · cases h
set_option maxRecDepth 100000 in
theorem vc_See (x : Mon) (r : Int) : (callN Try.prog (mkCfg Try.prog [] [21, 27, 33, 34, 28, 41, 42] [] []) 10 6 21 [x.av, .v (.int .i64 r)] [] 0 (Reads ((x.see r).av))) =
    ((Br (x.stopped) (((x.lo) = ((x.see r).lo)) ∧ (((x.hi) = ((x.see r).hi)) ∧ (((x.step) = ((x.see r).step)) ∧ (((x.err) = ((x.see r).err)) ∧ (((x.least) = ((x.see r).least)) ∧ (((x.most) = ((x.see r).most)) ∧ (((x.stopped) = ((x.see r).stopped)) ∧ True))))))) (Br (Decidable.decide (r < (-4000000 : Int))) (((x.lo) = ((x.see r).lo)) ∧ (((x.hi) = ((x.see r).hi)) ∧ (((x.step) = ((x.see r).step)) ∧ (((x.err) = ((x.see r).err)) ∧ (((x.least) = ((x.see r).least)) ∧ (((x.most) = ((x.see r).most)) ∧ (((Bool.true) = ((x.see r).stopped)) ∧ True))))))) (Br (Decidable.decide (r > (4000000 : Int))) (((x.lo) = ((x.see r).lo)) ∧ (((x.hi) = ((x.see r).hi)) ∧ (((x.step) = ((x.see r).step)) ∧ (((x.err) = ((x.see r).err)) ∧ (((x.least) = ((x.see r).least)) ∧ (((x.most) = ((x.see r).most)) ∧ (((Bool.true) = ((x.see r).stopped)) ∧ True))))))) (Br (Decidable.decide (Max.max (Max.max (1 : Int) (Go.IntKind.i64.wrap (x.lo - x.step))) (Go.IntKind.i64.wrap (r - x.err)) > Min.min (Go.IntKind.i64.wrap (x.hi + x.step)) (Go.IntKind.i64.wrap (r + x.err)))) (((x.lo) = ((x.see r).lo)) ∧ (((x.hi) = ((x.see r).hi)) ∧ (((x.step) = ((x.see r).step)) ∧ (((x.err) = ((x.see r).err)) ∧ (((x.least) = ((x.see r).least)) ∧ (((x.most) = ((x.see r).most)) ∧ (((Bool.true) = ((x.see r).stopped)) ∧ True))))))) (Br (Decidable.decide (Max.max (1 : Int) (Go.IntKind.i64.wrap (Max.max (Max.max (1 : Int) (Go.IntKind.i64.wrap (x.lo - x.step))) (Go.IntKind.i64.wrap (r - x.err)) - x.step)) ≥ x.least)) (((Max.max (Max.max (1 : Int) (Go.IntKind.i64.wrap (x.lo - x.step))) (Go.IntKind.i64.wrap (r - x.err))) = ((x.see r).lo)) ∧ (((Min.min (Go.IntKind.i64.wrap (x.hi + x.step)) (Go.IntKind.i64.wrap (r + x.err))) = ((x.see r).hi)) ∧ (((x.step) = ((x.see r).step)) ∧ (((x.err) = ((x.see r).err)) ∧ (((x.least) = ((x.see r).least)) ∧ (((x.most) = ((x.see r).most)) ∧ (((!Decidable.decide (Go.IntKind.i64.wrap (Min.min (Go.IntKind.i64.wrap (x.hi + x.step)) (Go.IntKind.i64.wrap (r + x.err)) + x.step) ≤ x.most)) = ((x.see r).stopped)) ∧ True))))))) (((Max.max (Max.max (1 : Int) (Go.IntKind.i64.wrap (x.lo - x.step))) (Go.IntKind.i64.wrap (r - x.err))) = ((x.see r).lo)) ∧ (((Min.min (Go.IntKind.i64.wrap (x.hi + x.step)) (Go.IntKind.i64.wrap (r + x.err))) = ((x.see r).hi)) ∧ (((x.step) = ((x.see r).step)) ∧ (((x.err) = ((x.see r).err)) ∧ (((x.least) = ((x.see r).least)) ∧ (((x.most) = ((x.see r).most)) ∧ (((Bool.true) = ((x.see r).stopped)) ∧ True))))))))))))) := by kernel_rfl

def c_See : Ctr := ⟨21, g_See ⟩
theorem ok_See : CtrOk Try.prog (c_See ) := by
  refine ctr_of'' mix [] [21, 27, 33, 34, 28, 41, 42] [] (fun c hc => by cases hc) (fuel := 10) (d := 6) ⟨_, Try.func21, by kernel_rfl, by kernel_rfl⟩ fun args p v h hp => ?_
  obtain ⟨x_0, x_1, x_2, x_3, x_4, x_5, x_6, r, rfl, rfl, rfl⟩ := g_See_of  h
  refine ⟨[(⟨x_0, x_1, x_2, x_3, x_4, x_5, x_6⟩ : Mon).av, .v (.int .i64 r)], (.cons _ _ _ _ (.refl _) (.cons _ _ _ _ (.refl _) .nil)), ?_⟩
  generalize hx_x : (⟨x_0, x_1, x_2, x_3, x_4, x_5, x_6⟩ : Mon) = x at *
  clear h
  clear hx_x
  refine ⟨[], (fun c hc => by cases hc), ?_⟩
  refine (vc_See  x r).mpr ?_
  obtain ⟨h1, h2, h3, h4, h5, h6, h7, h8, h9, h10⟩ := hp
  by_cases hf : -4000000 ≤ r ∧ r ≤ 4000000
  · obtain ⟨hf1, hf2⟩ := hf
    simp (disch := omega) only [w64_in]
    repeat' (first | exact trivial | refine Br.intro (fun _ => ?_) (fun _ => ?_) | refine And.intro ?_ ?_)
    all_goals grind [Mon.see, Mon.upd, Mon.agrees, Mon.inR, Mon.oLo, Mon.oHi, Mon.sLo, Mon.sHi]
  · repeat' (first | exact trivial | refine Br.intro (fun _ => ?_) (fun _ => ?_) | refine And.intro ?_ ?_)
    all_goals grind [Mon.see, Mon.agrees]
def g_Miss : List AV → Option (Prop × AV)
  | [.agg [.v (.int .i64 x_0), .v (.int .i64 x_1), .v (.int .i64 x_2), .v (.int .i64 x_3), .v (.int .i64 x_4), .v (.int .i64 x_5), .v (.bool x_6)]] => some (((⟨x_0, x_1, x_2, x_3, x_4, x_5, x_6⟩ : Mon).ok), (⟨x_0, x_1, x_2, x_3, x_4, x_5, x_6⟩ : Mon).miss.av)
  | _ => none
theorem g_Miss_of {args : List AV} {p : Prop} {v : AV} (h : g_Miss  args = some (p, v)) : ∃ x_0 x_1 x_2 x_3 x_4 x_5 x_6, args = [.agg [.v (.int .i64 x_0), .v (.int .i64 x_1), .v (.int .i64 x_2), .v (.int .i64 x_3), .v (.int .i64 x_4), .v (.int .i64 x_5), .v (.bool x_6)]] ∧ p = (((⟨x_0, x_1, x_2, x_3, x_4, x_5, x_6⟩ : Mon).ok)) ∧ v = (⟨x_0, x_1, x_2, x_3, x_4, x_5, x_6⟩ : Mon).miss.av := by
  unfold g_Miss at h
  split at h
  · cases h; exact ⟨_, _, _, _, _, _, _, rfl, rfl, rfl⟩
  · cases h
set_option maxRecDepth 100000 in
theorem vc_Miss (x : Mon) : (callN Try.prog (mkCfg Try.prog [] [22, 27, 35, 34, 28, 41] [] []) 10 6 22 [x.av] [] 0 (Reads (x.miss.av))) =
    ((Br (x.stopped) (((x.lo) = (x.miss.lo)) ∧ (((x.hi) = (x.miss.hi)) ∧ (((x.step) = (x.miss.step)) ∧ (((x.err) = (x.miss.err)) ∧ (((x.least) = (x.miss.least)) ∧ (((x.most) = (x.miss.most)) ∧ (((x.stopped) = (x.miss.stopped)) ∧ True))))))) (Br (Decidable.decide (Max.max (1 : Int) (Go.IntKind.i64.wrap (x.lo - x.step)) > Go.IntKind.i64.wrap (x.hi + x.step))) (((x.lo) = (x.miss.lo)) ∧ (((x.hi) = (x.miss.hi)) ∧ (((x.step) = (x.miss.step)) ∧ (((x.err) = (x.miss.err)) ∧ (((x.least) = (x.miss.least)) ∧ (((x.most) = (x.miss.most)) ∧ (((Bool.true) = (x.miss.stopped)) ∧ True))))))) (Br (Decidable.decide (Max.max (1 : Int) (Go.IntKind.i64.wrap (Max.max (1 : Int) (Go.IntKind.i64.wrap (x.lo - x.step)) - x.step)) ≥ x.least)) (((Max.max (1 : Int) (Go.IntKind.i64.wrap (x.lo - x.step))) = (x.miss.lo)) ∧ (((Go.IntKind.i64.wrap (x.hi + x.step)) = (x.miss.hi)) ∧ (((x.step) = (x.miss.step)) ∧ (((x.err) = (x.miss.err)) ∧ (((x.least) = (x.miss.least)) ∧ (((x.most) = (x.miss.most)) ∧ (((!Decidable.decide (Go.IntKind.i64.wrap (Go.IntKind.i64.wrap (x.hi + x.step) + x.step) ≤ x.most)) = (x.miss.stopped)) ∧ True))))))) (((Max.max (1 : Int) (Go.IntKind.i64.wrap (x.lo - x.step))) = (x.miss.lo)) ∧ (((Go.IntKind.i64.wrap (x.hi + x.step)) = (x.miss.hi)) ∧ (((x.step) = (x.miss.step)) ∧ (((x.err) = (x.miss.err)) ∧ (((x.least) = (x.miss.least)) ∧ (((x.most) = (x.miss.most)) ∧ (((Bool.true) = (x.miss.stopped)) ∧ True))))))))))) := by kernel_rfl

def c_Miss : Ctr := ⟨22, g_Miss ⟩
theorem ok_Miss : CtrOk Try.prog (c_Miss ) := by
  refine ctr_of'' mix [] [22, 27, 35, 34, 28, 41] [] (fun c hc => by cases hc) (fuel := 10) (d := 6) ⟨_, Try.func22, by kernel_rfl, by kernel_rfl⟩ fun args p v h hp => ?_
  obtain ⟨x_0, x_1, x_2, x_3, x_4, x_5, x_6, rfl, rfl, rfl⟩ := g_Miss_of  h
  refine ⟨[(⟨x_0, x_1, x_2, x_3, x_4, x_5, x_6⟩ : Mon).av], (.cons _ _ _ _ (.refl _) .nil), ?_⟩
  generalize hx_x : (⟨x_0, x_1, x_2, x_3, x_4, x_5, x_6⟩ : Mon) = x at *
  clear h
  clear hx_x
  refine ⟨[], (fun c hc => by cases hc), ?_⟩
  refine (vc_Miss  x).mpr ?_
  obtain ⟨h1, h2, h3, h4, h5, h6, h7, h8, h9, h10⟩ := hp
  simp (disch := omega) only [w64_in]
  repeat' (first | exact trivial | refine Br.intro (fun _ => ?_) (fun _ => ?_) | refine And.intro ?_ ?_)
  all_goals grind [Mon.see, Mon.miss, Mon.upd, Mon.agrees, Mon.inR, Mon.oLo, Mon.oHi, Mon.sLo, Mon.sHi]
def g_NewIn : List AV → Option (Prop × AV)
  | [.agg [.v (.int .i64 x_0), .v (.int .i64 x_1), .v (.int .i64 x_2), .v (.int .i64 x_3), .v (.int .i64 x_4), .v (.int .i64 x_5), .v (.bool x_6)]] => some (((⟨x_0, x_1, x_2, x_3, x_4, x_5, x_6⟩ : Mon).ok), .agg [.v (.int .i64 (⟨x_0, x_1, x_2, x_3, x_4, x_5, x_6⟩ : Mon).lo), .v (.int .i64 (⟨x_0, x_1, x_2, x_3, x_4, x_5, x_6⟩ : Mon).hi), .v (.int .i64 (⟨x_0, x_1, x_2, x_3, x_4, x_5, x_6⟩ : Mon).step), .v (.int .i64 (⟨x_0, x_1, x_2, x_3, x_4, x_5, x_6⟩ : Mon).err), .v (.int .i64 (⟨x_0, x_1, x_2, x_3, x_4, x_5, x_6⟩ : Mon).least), .v (.int .i64 (⟨x_0, x_1, x_2, x_3, x_4, x_5, x_6⟩ : Mon).most), .v (.bool (!(⟨x_0, x_1, x_2, x_3, x_4, x_5, x_6⟩ : Mon).inR)), .v (.int .i64 0)])
  | _ => none
theorem g_NewIn_of {args : List AV} {p : Prop} {v : AV} (h : g_NewIn  args = some (p, v)) : ∃ x_0 x_1 x_2 x_3 x_4 x_5 x_6, args = [.agg [.v (.int .i64 x_0), .v (.int .i64 x_1), .v (.int .i64 x_2), .v (.int .i64 x_3), .v (.int .i64 x_4), .v (.int .i64 x_5), .v (.bool x_6)]] ∧ p = (((⟨x_0, x_1, x_2, x_3, x_4, x_5, x_6⟩ : Mon).ok)) ∧ v = .agg [.v (.int .i64 (⟨x_0, x_1, x_2, x_3, x_4, x_5, x_6⟩ : Mon).lo), .v (.int .i64 (⟨x_0, x_1, x_2, x_3, x_4, x_5, x_6⟩ : Mon).hi), .v (.int .i64 (⟨x_0, x_1, x_2, x_3, x_4, x_5, x_6⟩ : Mon).step), .v (.int .i64 (⟨x_0, x_1, x_2, x_3, x_4, x_5, x_6⟩ : Mon).err), .v (.int .i64 (⟨x_0, x_1, x_2, x_3, x_4, x_5, x_6⟩ : Mon).least), .v (.int .i64 (⟨x_0, x_1, x_2, x_3, x_4, x_5, x_6⟩ : Mon).most), .v (.bool (!(⟨x_0, x_1, x_2, x_3, x_4, x_5, x_6⟩ : Mon).inR)), .v (.int .i64 0)] := by
  unfold g_NewIn at h
  split at h
  · cases h; exact ⟨_, _, _, _, _, _, _, rfl, rfl, rfl⟩
  · cases h
set_option maxRecDepth 100000 in
theorem vc_NewIn (x : Mon) : (callN Try.prog (mkCfg Try.prog [] [14, 12, 29, 18] [] []) 10 6 14 [x.av] [] 0 (Reads (.agg [.v (.int .i64 x.lo), .v (.int .i64 x.hi), .v (.int .i64 x.step), .v (.int .i64 x.err), .v (.int .i64 x.least), .v (.int .i64 x.most), .v (.bool (!x.inR)), .v (.int .i64 0)]))) =
    ((Br (Decidable.decide (x.least < (1 : Int))) ((((0 : Int)) = (x.lo)) ∧ ((((0 : Int)) = (x.hi)) ∧ ((((0 : Int)) = (x.step)) ∧ ((((0 : Int)) = (x.err)) ∧ ((((0 : Int)) = (x.least)) ∧ ((((0 : Int)) = (x.most)) ∧ (((Bool.false) = (!x.inR)) ∧ ((((1 : Int)) = ((0 : Int))) ∧ True)))))))) (Br (Decidable.decide (x.most < x.least)) ((((0 : Int)) = (x.lo)) ∧ ((((0 : Int)) = (x.hi)) ∧ ((((0 : Int)) = (x.step)) ∧ ((((0 : Int)) = (x.err)) ∧ ((((0 : Int)) = (x.least)) ∧ ((((0 : Int)) = (x.most)) ∧ (((Bool.false) = (!x.inR)) ∧ ((((1 : Int)) = ((0 : Int))) ∧ True)))))))) (Br (Decidable.decide (x.most > (1000000 : Int))) ((((0 : Int)) = (x.lo)) ∧ ((((0 : Int)) = (x.hi)) ∧ ((((0 : Int)) = (x.step)) ∧ ((((0 : Int)) = (x.err)) ∧ ((((0 : Int)) = (x.least)) ∧ ((((0 : Int)) = (x.most)) ∧ (((Bool.false) = (!x.inR)) ∧ ((((1 : Int)) = ((0 : Int))) ∧ True)))))))) (Br (Decidable.decide (x.lo < (1 : Int))) ((((0 : Int)) = (x.lo)) ∧ ((((0 : Int)) = (x.hi)) ∧ ((((0 : Int)) = (x.step)) ∧ ((((0 : Int)) = (x.err)) ∧ ((((0 : Int)) = (x.least)) ∧ ((((0 : Int)) = (x.most)) ∧ (((Bool.false) = (!x.inR)) ∧ ((((1 : Int)) = ((0 : Int))) ∧ True)))))))) (Br (Decidable.decide (x.hi < x.lo)) ((((0 : Int)) = (x.lo)) ∧ ((((0 : Int)) = (x.hi)) ∧ ((((0 : Int)) = (x.step)) ∧ ((((0 : Int)) = (x.err)) ∧ ((((0 : Int)) = (x.least)) ∧ ((((0 : Int)) = (x.most)) ∧ (((Bool.false) = (!x.inR)) ∧ ((((1 : Int)) = ((0 : Int))) ∧ True)))))))) (Br (Decidable.decide (x.hi > (1000000 : Int))) ((((0 : Int)) = (x.lo)) ∧ ((((0 : Int)) = (x.hi)) ∧ ((((0 : Int)) = (x.step)) ∧ ((((0 : Int)) = (x.err)) ∧ ((((0 : Int)) = (x.least)) ∧ ((((0 : Int)) = (x.most)) ∧ (((Bool.false) = (!x.inR)) ∧ ((((1 : Int)) = ((0 : Int))) ∧ True)))))))) (Br (Decidable.decide (x.step < (0 : Int))) ((((0 : Int)) = (x.lo)) ∧ ((((0 : Int)) = (x.hi)) ∧ ((((0 : Int)) = (x.step)) ∧ ((((0 : Int)) = (x.err)) ∧ ((((0 : Int)) = (x.least)) ∧ ((((0 : Int)) = (x.most)) ∧ (((Bool.false) = (!x.inR)) ∧ ((((1 : Int)) = ((0 : Int))) ∧ True)))))))) (Br (Decidable.decide (x.step > (1000000 : Int))) ((((0 : Int)) = (x.lo)) ∧ ((((0 : Int)) = (x.hi)) ∧ ((((0 : Int)) = (x.step)) ∧ ((((0 : Int)) = (x.err)) ∧ ((((0 : Int)) = (x.least)) ∧ ((((0 : Int)) = (x.most)) ∧ (((Bool.false) = (!x.inR)) ∧ ((((1 : Int)) = ((0 : Int))) ∧ True)))))))) (Br (Decidable.decide (x.err < (0 : Int))) ((((0 : Int)) = (x.lo)) ∧ ((((0 : Int)) = (x.hi)) ∧ ((((0 : Int)) = (x.step)) ∧ ((((0 : Int)) = (x.err)) ∧ ((((0 : Int)) = (x.least)) ∧ ((((0 : Int)) = (x.most)) ∧ (((Bool.false) = (!x.inR)) ∧ ((((1 : Int)) = ((0 : Int))) ∧ True)))))))) (Br (Decidable.decide (x.err > (1000000 : Int))) ((((0 : Int)) = (x.lo)) ∧ ((((0 : Int)) = (x.hi)) ∧ ((((0 : Int)) = (x.step)) ∧ ((((0 : Int)) = (x.err)) ∧ ((((0 : Int)) = (x.least)) ∧ ((((0 : Int)) = (x.most)) ∧ (((Bool.false) = (!x.inR)) ∧ ((((1 : Int)) = ((0 : Int))) ∧ True)))))))) (Br (Decidable.decide (Max.max (1 : Int) (Go.IntKind.i64.wrap (x.lo - x.step)) ≥ x.least)) (((x.lo) = (x.lo)) ∧ (((x.hi) = (x.hi)) ∧ (((x.step) = (x.step)) ∧ (((x.err) = (x.err)) ∧ (((x.least) = (x.least)) ∧ (((x.most) = (x.most)) ∧ (((!Decidable.decide (Go.IntKind.i64.wrap (x.hi + x.step) ≤ x.most)) = (!x.inR)) ∧ ((((0 : Int)) = ((0 : Int))) ∧ True)))))))) (((x.lo) = (x.lo)) ∧ (((x.hi) = (x.hi)) ∧ (((x.step) = (x.step)) ∧ (((x.err) = (x.err)) ∧ (((x.least) = (x.least)) ∧ (((x.most) = (x.most)) ∧ (((Bool.true) = (!x.inR)) ∧ ((((0 : Int)) = ((0 : Int))) ∧ True)))))))))))))))))))) := by kernel_rfl

def c_NewIn : Ctr := ⟨14, g_NewIn ⟩
theorem ok_NewIn : CtrOk Try.prog (c_NewIn ) := by
  refine ctr_of'' mix [] [14, 12, 29, 18] [] (fun c hc => by cases hc) (fuel := 10) (d := 6) ⟨_, Try.func14, by kernel_rfl, by kernel_rfl⟩ fun args p v h hp => ?_
  obtain ⟨x_0, x_1, x_2, x_3, x_4, x_5, x_6, rfl, rfl, rfl⟩ := g_NewIn_of  h
  refine ⟨[(⟨x_0, x_1, x_2, x_3, x_4, x_5, x_6⟩ : Mon).av], (.cons _ _ _ _ (.refl _) .nil), ?_⟩
  generalize hx_x : (⟨x_0, x_1, x_2, x_3, x_4, x_5, x_6⟩ : Mon) = x at *
  clear h
  clear hx_x
  refine ⟨[], (fun c hc => by cases hc), ?_⟩
  refine (vc_NewIn  x).mpr ?_
  obtain ⟨h1, h2, h3, h4, h5, h6, h7, h8, h9, h10⟩ := hp
  simp (disch := omega) only [w64_in]
  repeat' (first | exact trivial | refine Br.intro (fun _ => ?_) (fun _ => ?_) | refine And.intro ?_ ?_)
  all_goals grind [Mon.see, Mon.miss, Mon.upd, Mon.agrees, Mon.inR, Mon.oLo, Mon.oHi, Mon.sLo, Mon.sHi]
def g_made : List AV → Option (Prop × AV)
  | [.agg [.v (.int .i64 x_0), .v (.int .i64 x_1), .v (.int .i64 x_2), .v (.int .i64 x_3), .v (.int .i64 x_4), .v (.int .i64 x_5), .v (.bool x_6)]] => some (((⟨x_0, x_1, x_2, x_3, x_4, x_5, x_6⟩ : Mon).ok), .agg [.v (.int .i64 (⟨x_0, x_1, x_2, x_3, x_4, x_5, x_6⟩ : Mon).lo), .v (.int .i64 (⟨x_0, x_1, x_2, x_3, x_4, x_5, x_6⟩ : Mon).hi), .v (.int .i64 (⟨x_0, x_1, x_2, x_3, x_4, x_5, x_6⟩ : Mon).step), .v (.int .i64 (⟨x_0, x_1, x_2, x_3, x_4, x_5, x_6⟩ : Mon).err), .v (.int .i64 (⟨x_0, x_1, x_2, x_3, x_4, x_5, x_6⟩ : Mon).least), .v (.int .i64 (⟨x_0, x_1, x_2, x_3, x_4, x_5, x_6⟩ : Mon).most), .v (.bool (!(⟨x_0, x_1, x_2, x_3, x_4, x_5, x_6⟩ : Mon).inR)), .v (.int .i64 0)])
  | _ => none
theorem g_made_of {args : List AV} {p : Prop} {v : AV} (h : g_made  args = some (p, v)) : ∃ x_0 x_1 x_2 x_3 x_4 x_5 x_6, args = [.agg [.v (.int .i64 x_0), .v (.int .i64 x_1), .v (.int .i64 x_2), .v (.int .i64 x_3), .v (.int .i64 x_4), .v (.int .i64 x_5), .v (.bool x_6)]] ∧ p = (((⟨x_0, x_1, x_2, x_3, x_4, x_5, x_6⟩ : Mon).ok)) ∧ v = .agg [.v (.int .i64 (⟨x_0, x_1, x_2, x_3, x_4, x_5, x_6⟩ : Mon).lo), .v (.int .i64 (⟨x_0, x_1, x_2, x_3, x_4, x_5, x_6⟩ : Mon).hi), .v (.int .i64 (⟨x_0, x_1, x_2, x_3, x_4, x_5, x_6⟩ : Mon).step), .v (.int .i64 (⟨x_0, x_1, x_2, x_3, x_4, x_5, x_6⟩ : Mon).err), .v (.int .i64 (⟨x_0, x_1, x_2, x_3, x_4, x_5, x_6⟩ : Mon).least), .v (.int .i64 (⟨x_0, x_1, x_2, x_3, x_4, x_5, x_6⟩ : Mon).most), .v (.bool (!(⟨x_0, x_1, x_2, x_3, x_4, x_5, x_6⟩ : Mon).inR)), .v (.int .i64 0)] := by
  unfold g_made at h
  split at h
  · cases h; exact ⟨_, _, _, _, _, _, _, rfl, rfl, rfl⟩
  · cases h
set_option maxRecDepth 100000 in
theorem vc_made (x : Mon) : (callN Try.prog (mkCfg Try.prog [] [13, 30, 11, 27, 28, 41] [] []) 10 6 13 [x.av] [] 0 (Reads (.agg [.v (.int .i64 x.lo), .v (.int .i64 x.hi), .v (.int .i64 x.step), .v (.int .i64 x.err), .v (.int .i64 x.least), .v (.int .i64 x.most), .v (.bool (!x.inR)), .v (.int .i64 0)]))) =
    ((Br (Decidable.decide ((1 : Int) ≤ x.least)) (Br (Decidable.decide (x.least ≤ x.most)) (Br (Decidable.decide (x.most ≤ (1000000 : Int))) (Br (Decidable.decide ((1 : Int) ≤ x.lo)) (Br (Decidable.decide (x.lo ≤ x.hi)) (Br (Decidable.decide ((0 : Int) ≤ x.step)) (Br (Decidable.decide (x.step ≤ (1000000 : Int))) (Br (Decidable.decide ((0 : Int) ≤ x.err)) (Br (Decidable.decide (x.hi ≤ (1000000 : Int))) (Br (Decidable.decide (x.err ≤ (1000000 : Int))) (Br (Decidable.decide (Max.max (1 : Int) (Go.IntKind.i64.wrap (x.lo - x.step)) ≥ x.least)) (((x.lo) = (x.lo)) ∧ (((x.hi) = (x.hi)) ∧ (((x.step) = (x.step)) ∧ (((x.err) = (x.err)) ∧ (((x.least) = (x.least)) ∧ (((x.most) = (x.most)) ∧ (((!Decidable.decide (Go.IntKind.i64.wrap (x.hi + x.step) ≤ x.most)) = (!x.inR)) ∧ ((((0 : Int)) = ((0 : Int))) ∧ True)))))))) (((x.lo) = (x.lo)) ∧ (((x.hi) = (x.hi)) ∧ (((x.step) = (x.step)) ∧ (((x.err) = (x.err)) ∧ (((x.least) = (x.least)) ∧ (((x.most) = (x.most)) ∧ (((Bool.true) = (!x.inR)) ∧ ((((0 : Int)) = ((0 : Int))) ∧ True))))))))) ((((0 : Int)) = (x.lo)) ∧ ((((0 : Int)) = (x.hi)) ∧ ((((0 : Int)) = (x.step)) ∧ ((((0 : Int)) = (x.err)) ∧ ((((0 : Int)) = (x.least)) ∧ ((((0 : Int)) = (x.most)) ∧ (((Bool.false) = (!x.inR)) ∧ ((((1 : Int)) = ((0 : Int))) ∧ True))))))))) ((((0 : Int)) = (x.lo)) ∧ ((((0 : Int)) = (x.hi)) ∧ ((((0 : Int)) = (x.step)) ∧ ((((0 : Int)) = (x.err)) ∧ ((((0 : Int)) = (x.least)) ∧ ((((0 : Int)) = (x.most)) ∧ (((Bool.false) = (!x.inR)) ∧ ((((1 : Int)) = ((0 : Int))) ∧ True))))))))) (Br (Decidable.decide (x.hi ≤ (1000000 : Int))) ((((0 : Int)) = (x.lo)) ∧ ((((0 : Int)) = (x.hi)) ∧ ((((0 : Int)) = (x.step)) ∧ ((((0 : Int)) = (x.err)) ∧ ((((0 : Int)) = (x.least)) ∧ ((((0 : Int)) = (x.most)) ∧ (((Bool.false) = (!x.inR)) ∧ ((((1 : Int)) = ((0 : Int))) ∧ True)))))))) ((((0 : Int)) = (x.lo)) ∧ ((((0 : Int)) = (x.hi)) ∧ ((((0 : Int)) = (x.step)) ∧ ((((0 : Int)) = (x.err)) ∧ ((((0 : Int)) = (x.least)) ∧ ((((0 : Int)) = (x.most)) ∧ (((Bool.false) = (!x.inR)) ∧ ((((1 : Int)) = ((0 : Int))) ∧ True)))))))))) (Br (Decidable.decide (x.hi ≤ (1000000 : Int))) ((((0 : Int)) = (x.lo)) ∧ ((((0 : Int)) = (x.hi)) ∧ ((((0 : Int)) = (x.step)) ∧ ((((0 : Int)) = (x.err)) ∧ ((((0 : Int)) = (x.least)) ∧ ((((0 : Int)) = (x.most)) ∧ (((Bool.false) = (!x.inR)) ∧ ((((1 : Int)) = ((0 : Int))) ∧ True)))))))) ((((0 : Int)) = (x.lo)) ∧ ((((0 : Int)) = (x.hi)) ∧ ((((0 : Int)) = (x.step)) ∧ ((((0 : Int)) = (x.err)) ∧ ((((0 : Int)) = (x.least)) ∧ ((((0 : Int)) = (x.most)) ∧ (((Bool.false) = (!x.inR)) ∧ ((((1 : Int)) = ((0 : Int))) ∧ True)))))))))) (Br (Decidable.decide (x.hi ≤ (1000000 : Int))) ((((0 : Int)) = (x.lo)) ∧ ((((0 : Int)) = (x.hi)) ∧ ((((0 : Int)) = (x.step)) ∧ ((((0 : Int)) = (x.err)) ∧ ((((0 : Int)) = (x.least)) ∧ ((((0 : Int)) = (x.most)) ∧ (((Bool.false) = (!x.inR)) ∧ ((((1 : Int)) = ((0 : Int))) ∧ True)))))))) ((((0 : Int)) = (x.lo)) ∧ ((((0 : Int)) = (x.hi)) ∧ ((((0 : Int)) = (x.step)) ∧ ((((0 : Int)) = (x.err)) ∧ ((((0 : Int)) = (x.least)) ∧ ((((0 : Int)) = (x.most)) ∧ (((Bool.false) = (!x.inR)) ∧ ((((1 : Int)) = ((0 : Int))) ∧ True)))))))))) (Br (Decidable.decide ((0 : Int) ≤ x.step)) (Br (Decidable.decide (x.step ≤ (1000000 : Int))) (Br (Decidable.decide ((0 : Int) ≤ x.err)) ((((0 : Int)) = (x.lo)) ∧ ((((0 : Int)) = (x.hi)) ∧ ((((0 : Int)) = (x.step)) ∧ ((((0 : Int)) = (x.err)) ∧ ((((0 : Int)) = (x.least)) ∧ ((((0 : Int)) = (x.most)) ∧ (((Bool.false) = (!x.inR)) ∧ ((((1 : Int)) = ((0 : Int))) ∧ True)))))))) ((((0 : Int)) = (x.lo)) ∧ ((((0 : Int)) = (x.hi)) ∧ ((((0 : Int)) = (x.step)) ∧ ((((0 : Int)) = (x.err)) ∧ ((((0 : Int)) = (x.least)) ∧ ((((0 : Int)) = (x.most)) ∧ (((Bool.false) = (!x.inR)) ∧ ((((1 : Int)) = ((0 : Int))) ∧ True))))))))) ((((0 : Int)) = (x.lo)) ∧ ((((0 : Int)) = (x.hi)) ∧ ((((0 : Int)) = (x.step)) ∧ ((((0 : Int)) = (x.err)) ∧ ((((0 : Int)) = (x.least)) ∧ ((((0 : Int)) = (x.most)) ∧ (((Bool.false) = (!x.inR)) ∧ ((((1 : Int)) = ((0 : Int))) ∧ True))))))))) ((((0 : Int)) = (x.lo)) ∧ ((((0 : Int)) = (x.hi)) ∧ ((((0 : Int)) = (x.step)) ∧ ((((0 : Int)) = (x.err)) ∧ ((((0 : Int)) = (x.least)) ∧ ((((0 : Int)) = (x.most)) ∧ (((Bool.false) = (!x.inR)) ∧ ((((1 : Int)) = ((0 : Int))) ∧ True)))))))))) (Br (Decidable.decide ((0 : Int) ≤ x.step)) (Br (Decidable.decide (x.step ≤ (1000000 : Int))) (Br (Decidable.decide ((0 : Int) ≤ x.err)) ((((0 : Int)) = (x.lo)) ∧ ((((0 : Int)) = (x.hi)) ∧ ((((0 : Int)) = (x.step)) ∧ ((((0 : Int)) = (x.err)) ∧ ((((0 : Int)) = (x.least)) ∧ ((((0 : Int)) = (x.most)) ∧ (((Bool.false) = (!x.inR)) ∧ ((((1 : Int)) = ((0 : Int))) ∧ True)))))))) ((((0 : Int)) = (x.lo)) ∧ ((((0 : Int)) = (x.hi)) ∧ ((((0 : Int)) = (x.step)) ∧ ((((0 : Int)) = (x.err)) ∧ ((((0 : Int)) = (x.least)) ∧ ((((0 : Int)) = (x.most)) ∧ (((Bool.false) = (!x.inR)) ∧ ((((1 : Int)) = ((0 : Int))) ∧ True))))))))) ((((0 : Int)) = (x.lo)) ∧ ((((0 : Int)) = (x.hi)) ∧ ((((0 : Int)) = (x.step)) ∧ ((((0 : Int)) = (x.err)) ∧ ((((0 : Int)) = (x.least)) ∧ ((((0 : Int)) = (x.most)) ∧ (((Bool.false) = (!x.inR)) ∧ ((((1 : Int)) = ((0 : Int))) ∧ True))))))))) ((((0 : Int)) = (x.lo)) ∧ ((((0 : Int)) = (x.hi)) ∧ ((((0 : Int)) = (x.step)) ∧ ((((0 : Int)) = (x.err)) ∧ ((((0 : Int)) = (x.least)) ∧ ((((0 : Int)) = (x.most)) ∧ (((Bool.false) = (!x.inR)) ∧ ((((1 : Int)) = ((0 : Int))) ∧ True)))))))))) (Br (Decidable.decide ((0 : Int) ≤ x.step)) (Br (Decidable.decide (x.step ≤ (1000000 : Int))) (Br (Decidable.decide ((0 : Int) ≤ x.err)) ((((0 : Int)) = (x.lo)) ∧ ((((0 : Int)) = (x.hi)) ∧ ((((0 : Int)) = (x.step)) ∧ ((((0 : Int)) = (x.err)) ∧ ((((0 : Int)) = (x.least)) ∧ ((((0 : Int)) = (x.most)) ∧ (((Bool.false) = (!x.inR)) ∧ ((((1 : Int)) = ((0 : Int))) ∧ True)))))))) ((((0 : Int)) = (x.lo)) ∧ ((((0 : Int)) = (x.hi)) ∧ ((((0 : Int)) = (x.step)) ∧ ((((0 : Int)) = (x.err)) ∧ ((((0 : Int)) = (x.least)) ∧ ((((0 : Int)) = (x.most)) ∧ (((Bool.false) = (!x.inR)) ∧ ((((1 : Int)) = ((0 : Int))) ∧ True))))))))) ((((0 : Int)) = (x.lo)) ∧ ((((0 : Int)) = (x.hi)) ∧ ((((0 : Int)) = (x.step)) ∧ ((((0 : Int)) = (x.err)) ∧ ((((0 : Int)) = (x.least)) ∧ ((((0 : Int)) = (x.most)) ∧ (((Bool.false) = (!x.inR)) ∧ ((((1 : Int)) = ((0 : Int))) ∧ True))))))))) ((((0 : Int)) = (x.lo)) ∧ ((((0 : Int)) = (x.hi)) ∧ ((((0 : Int)) = (x.step)) ∧ ((((0 : Int)) = (x.err)) ∧ ((((0 : Int)) = (x.least)) ∧ ((((0 : Int)) = (x.most)) ∧ (((Bool.false) = (!x.inR)) ∧ ((((1 : Int)) = ((0 : Int))) ∧ True)))))))))) (Br (Decidable.decide ((0 : Int) ≤ x.step)) (Br (Decidable.decide (x.step ≤ (1000000 : Int))) (Br (Decidable.decide ((0 : Int) ≤ x.err)) ((((0 : Int)) = (x.lo)) ∧ ((((0 : Int)) = (x.hi)) ∧ ((((0 : Int)) = (x.step)) ∧ ((((0 : Int)) = (x.err)) ∧ ((((0 : Int)) = (x.least)) ∧ ((((0 : Int)) = (x.most)) ∧ (((Bool.false) = (!x.inR)) ∧ ((((1 : Int)) = ((0 : Int))) ∧ True)))))))) ((((0 : Int)) = (x.lo)) ∧ ((((0 : Int)) = (x.hi)) ∧ ((((0 : Int)) = (x.step)) ∧ ((((0 : Int)) = (x.err)) ∧ ((((0 : Int)) = (x.least)) ∧ ((((0 : Int)) = (x.most)) ∧ (((Bool.false) = (!x.inR)) ∧ ((((1 : Int)) = ((0 : Int))) ∧ True))))))))) ((((0 : Int)) = (x.lo)) ∧ ((((0 : Int)) = (x.hi)) ∧ ((((0 : Int)) = (x.step)) ∧ ((((0 : Int)) = (x.err)) ∧ ((((0 : Int)) = (x.least)) ∧ ((((0 : Int)) = (x.most)) ∧ (((Bool.false) = (!x.inR)) ∧ ((((1 : Int)) = ((0 : Int))) ∧ True))))))))) ((((0 : Int)) = (x.lo)) ∧ ((((0 : Int)) = (x.hi)) ∧ ((((0 : Int)) = (x.step)) ∧ ((((0 : Int)) = (x.err)) ∧ ((((0 : Int)) = (x.least)) ∧ ((((0 : Int)) = (x.most)) ∧ (((Bool.false) = (!x.inR)) ∧ ((((1 : Int)) = ((0 : Int))) ∧ True)))))))))) (Br (Decidable.decide ((0 : Int) ≤ x.step)) (Br (Decidable.decide (x.step ≤ (1000000 : Int))) (Br (Decidable.decide ((0 : Int) ≤ x.err)) ((((0 : Int)) = (x.lo)) ∧ ((((0 : Int)) = (x.hi)) ∧ ((((0 : Int)) = (x.step)) ∧ ((((0 : Int)) = (x.err)) ∧ ((((0 : Int)) = (x.least)) ∧ ((((0 : Int)) = (x.most)) ∧ (((Bool.false) = (!x.inR)) ∧ ((((1 : Int)) = ((0 : Int))) ∧ True)))))))) ((((0 : Int)) = (x.lo)) ∧ ((((0 : Int)) = (x.hi)) ∧ ((((0 : Int)) = (x.step)) ∧ ((((0 : Int)) = (x.err)) ∧ ((((0 : Int)) = (x.least)) ∧ ((((0 : Int)) = (x.most)) ∧ (((Bool.false) = (!x.inR)) ∧ ((((1 : Int)) = ((0 : Int))) ∧ True))))))))) ((((0 : Int)) = (x.lo)) ∧ ((((0 : Int)) = (x.hi)) ∧ ((((0 : Int)) = (x.step)) ∧ ((((0 : Int)) = (x.err)) ∧ ((((0 : Int)) = (x.least)) ∧ ((((0 : Int)) = (x.most)) ∧ (((Bool.false) = (!x.inR)) ∧ ((((1 : Int)) = ((0 : Int))) ∧ True))))))))) ((((0 : Int)) = (x.lo)) ∧ ((((0 : Int)) = (x.hi)) ∧ ((((0 : Int)) = (x.step)) ∧ ((((0 : Int)) = (x.err)) ∧ ((((0 : Int)) = (x.least)) ∧ ((((0 : Int)) = (x.most)) ∧ (((Bool.false) = (!x.inR)) ∧ ((((1 : Int)) = ((0 : Int))) ∧ True))))))))))) := by kernel_rfl

def c_made : Ctr := ⟨13, g_made ⟩
theorem ok_made : CtrOk Try.prog (c_made ) := by
  refine ctr_of'' mix [] [13, 30, 11, 27, 28, 41] [] (fun c hc => by cases hc) (fuel := 10) (d := 6) ⟨_, Try.func13, by kernel_rfl, by kernel_rfl⟩ fun args p v h hp => ?_
  obtain ⟨x_0, x_1, x_2, x_3, x_4, x_5, x_6, rfl, rfl, rfl⟩ := g_made_of  h
  refine ⟨[(⟨x_0, x_1, x_2, x_3, x_4, x_5, x_6⟩ : Mon).av], (.cons _ _ _ _ (.refl _) .nil), ?_⟩
  generalize hx_x : (⟨x_0, x_1, x_2, x_3, x_4, x_5, x_6⟩ : Mon) = x at *
  clear h
  clear hx_x
  refine ⟨[], (fun c hc => by cases hc), ?_⟩
  refine (vc_made  x).mpr ?_
  obtain ⟨h1, h2, h3, h4, h5, h6, h7, h8, h9, h10⟩ := hp
  simp (disch := omega) only [w64_in]
  repeat' (first | exact trivial | refine Br.intro (fun _ => ?_) (fun _ => ?_) | refine And.intro ?_ ?_)
  all_goals grind [Mon.see, Mon.miss, Mon.upd, Mon.agrees, Mon.inR, Mon.oLo, Mon.oHi, Mon.sLo, Mon.sHi]
end Go.Proofs.Ytlofmgdjnaajjaa
