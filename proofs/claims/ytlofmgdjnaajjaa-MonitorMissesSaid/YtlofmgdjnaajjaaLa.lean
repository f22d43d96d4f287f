/- Own text: the law MonitorMisses. -/
import Derived.Test.YtlofmgdjnaajjaaMx
namespace Go.Proofs.Ytlofmgdjnaajjaa
open Go Go.Ev Go.Proofs
set_option linter.unusedVariables false
set_option linter.unusedSimpArgs false
attribute [local irreducible] Go.Ev.callN
def g_Misses : List AV → Option (Prop × AV)
  | [.agg [.v (.int .u8 x_0), .v (.int .u8 x_1), .v (.int .u8 x_2), .v (.int .u8 x_3), .rs 1 x_4 x_5 x_6, .v (.int .u8 x_7), .v (.int .u8 x_8)], .v (.int .i64 r)] => some ((∀ i, i < x_4 → x_6 i = [.v (.int .u8 (intAt (x_6 i)))]) ∧ ((⟨⟨x_0, x_1, x_2, x_3, x_4, fun i => intAt (x_6 i)⟩, x_7, x_8⟩ : Raw45).good), .v (.bool true))
  | _ => none
theorem g_Misses_of {args : List AV} {p : Prop} {v : AV} (h : g_Misses  args = some (p, v)) : ∃ x_0 x_1 x_2 x_3 x_4 x_5 x_6 x_7 x_8 r, args = [.agg [.v (.int .u8 x_0), .v (.int .u8 x_1), .v (.int .u8 x_2), .v (.int .u8 x_3), .rs 1 x_4 x_5 x_6, .v (.int .u8 x_7), .v (.int .u8 x_8)], .v (.int .i64 r)] ∧ p = ((∀ i, i < x_4 → x_6 i = [.v (.int .u8 (intAt (x_6 i)))]) ∧ ((⟨⟨x_0, x_1, x_2, x_3, x_4, fun i => intAt (x_6 i)⟩, x_7, x_8⟩ : Raw45).good)) ∧ v = .v (.bool true) := by
  unfold g_Misses at h
  split at h
  · cases h; exact ⟨_, _, _, _, _, _, _, _, _, _, rfl, rfl, rfl⟩
  · cases h
set_option maxRecDepth 100000 in
theorem vc_Misses (x : Raw45) (r : Int) : (callN Try.prog (mkCfg Try.prog [c_examples, c_Made45, c_See, c_Miss, c_Valid, c_Agrees, c_outlook] [5] [] []) 10 6 5 [x.av, .v (.int .i64 r)] [] 0 (Reads (.v (.bool true)))) =
    ((True ∧ (((∀ i : Nat, ((i < x.w.n) → (([(.v (.int Go.IntKind.u8 (x.w.b i)))] : List AV) = [(.v (.int Go.IntKind.u8 (x.w.b i)))]))) ∧ (x.good)) ∧ ((x.mon.ok) ∧ ((x.mon.ok) ∧ (((x.mon.see r).ok) ∧ (Br (!((x.mon.see r).stopped || (x.mon.see r).inR)) (((Bool.false) = (Bool.true)) ∧ True) ((x.mon.miss.ok) ∧ (Br (!(x.mon.miss.stopped || x.mon.miss.inR)) (((Bool.false) = (Bool.true)) ∧ True) (Br (x.mon.stopped) (Br ((x.mon.see r).lo == x.mon.lo && ((x.mon.see r).hi == x.mon.hi && ((x.mon.see r).step == x.mon.step && ((x.mon.see r).err == x.mon.err && ((x.mon.see r).least == x.mon.least && ((x.mon.see r).most == x.mon.most && ((x.mon.see r).stopped == x.mon.stopped && Bool.true))))))) (Br (x.mon.miss.lo == x.mon.lo && (x.mon.miss.hi == x.mon.hi && (x.mon.miss.step == x.mon.step && (x.mon.miss.err == x.mon.err && (x.mon.miss.least == x.mon.least && (x.mon.miss.most == x.mon.most && (x.mon.miss.stopped == x.mon.stopped && Bool.true))))))) (((Bool.true) = (Bool.true)) ∧ True) (((Bool.false) = (Bool.true)) ∧ True)) (((Bool.false) = (Bool.true)) ∧ True)) ((x.mon.ok) ∧ (Br (!x.mon.agrees r) (Br ((x.mon.see r).stopped) (Br ((x.mon.see r).lo == x.mon.lo) (Br ((x.mon.see r).hi == x.mon.hi) (((Bool.true) = (Bool.true)) ∧ True) (((Bool.false) = (Bool.true)) ∧ True)) (((Bool.false) = (Bool.true)) ∧ True)) (((Bool.false) = (Bool.true)) ∧ True)) (((x.mon.see r).ok) ∧ ((x.mon.miss.ok) ∧ (Br (Decidable.decide ((x.mon.see r).oLo ≥ x.mon.miss.oLo)) (Br (Decidable.decide ((x.mon.see r).oHi ≤ x.mon.miss.oHi)) (Br (x.mon.miss.stopped) ((x.mon.ok) ∧ (Br (x.mon.miss.lo == x.mon.oLo && (x.mon.miss.hi == x.mon.oHi && Bool.true)) (((Bool.true) = (Bool.true)) ∧ True) (((Bool.false) = (Bool.true)) ∧ True))) (Br (!(x.mon.see r).stopped) ((x.mon.ok) ∧ (Br (x.mon.miss.lo == x.mon.oLo && (x.mon.miss.hi == x.mon.oHi && Bool.true)) (((Bool.true) = (Bool.true)) ∧ True) (((Bool.false) = (Bool.true)) ∧ True))) (((Bool.false) = (Bool.true)) ∧ True))) (((Bool.false) = (Bool.true)) ∧ True)) (((Bool.false) = (Bool.true)) ∧ True)))))))))))))))) := by kernel_rfl

def c_Misses : Ctr := ⟨5, g_Misses ⟩
theorem ok_Misses : CtrOk Try.prog (c_Misses ) := by
  refine ctr_of'' mix [c_examples,  c_Made45,  c_See,  c_Miss,  c_Valid,  c_Agrees,  c_outlook] [5] [] (by
    intro c hc
    simp only [List.mem_cons, List.not_mem_nil, or_false] at hc
    rcases hc with rfl | rfl | rfl | rfl | rfl | rfl | rfl
    · exact ok_examples
    · exact ok_Made45
    · exact ok_See
    · exact ok_Miss
    · exact ok_Valid
    · exact ok_Agrees
    · exact ok_outlook
    ) (fuel := 10) (d := 6) ⟨_, Try.func5, by kernel_rfl, by kernel_rfl⟩ fun args p v h hp => ?_
  obtain ⟨x_0, x_1, x_2, x_3, x_4, x_5, x_6, x_7, x_8, r, rfl, rfl, rfl⟩ := g_Misses_of  h
  obtain ⟨e_0, hp⟩ := hp
  refine ⟨[(⟨⟨x_0, x_1, x_2, x_3, x_4, fun i => intAt (x_6 i)⟩, x_7, x_8⟩ : Raw45).av, .v (.int .i64 r)], (.cons _ _ _ _ (Raw45.eqv e_0) (.cons _ _ _ _ (.refl _) .nil)), ?_⟩
  generalize hx_x : (⟨⟨x_0, x_1, x_2, x_3, x_4, fun i => intAt (x_6 i)⟩, x_7, x_8⟩ : Raw45) = x at *
  clear h
  clear hx_x
  refine ⟨[], (fun c hc => by cases hc), ?_⟩
  refine (vc_Misses  x r).mpr ?_
  have hv := x.mon_valid hp
  have hs := Mon.see_valid hv r
  have hm := Mon.miss_valid hv
  have hr := fun h => Mon.running hv h
  have h1 := hs.r
  have h2 := hm.r
  repeat' (first | exact trivial | refine Br.intro (fun _ => ?_) (fun _ => ?_) | refine And.intro ?_ ?_)
  all_goals first | exact hv.ok | exact hs.ok | exact hm.ok | exact hp | exact fun _ _ => rfl | skip
  all_goals grind [Mon.see, Mon.miss, Mon.upd, Mon.inR, Mon.oLo, Mon.oHi, Mon.sLo, Mon.sHi, Mon.agrees]
end Go.Proofs.Ytlofmgdjnaajjaa
