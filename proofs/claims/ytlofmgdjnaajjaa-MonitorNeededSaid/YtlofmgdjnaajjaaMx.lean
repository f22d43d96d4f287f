/- Own text: the monitor of a description; the fixed calls. -/
import Derived.Test.YtlofmgdjnaajjaaMn
import Derived.Test.YtlofmgdjnaajjaaMd
namespace Go.Proofs.Ytlofmgdjnaajjaa
open Go Go.Ev Go.Proofs
set_option linter.unusedVariables false
set_option linter.unusedSimpArgs false
attribute [local irreducible] Go.Ev.callN Go.Ev.codeE
namespace Mon
structure valid (m : Mon) : Prop where
  ok : m.ok
  r : (m.stopped || m.inR) = true
theorem new_valid {m : Mon} (h : m.ok) : m.new.valid := by
  obtain ⟨h1, h2, h3, h4, h5, h6, h7, h8, h9, h10⟩ := h
  refine ⟨⟨h1, h2, h3, h4, h5, h6, h7, h8, h9, h10⟩, ?_⟩
  show ((!m.inR) || m.inR) = true
  cases m.inR <;> rfl
theorem upd_valid {m : Mon} (h : m.ok) {a b : Int} (ha : 1 ≤ a) (hab : a ≤ b) (hb : b ≤ 1000000) : (m.upd a b).valid := by
  obtain ⟨h1, h2, h3, h4, h5, h6, h7, h8, h9, h10⟩ := h
  refine ⟨⟨ha, hab, hb, h4, h5, h6, h7, h8, h9, h10⟩, ?_⟩
  show ((!inR { m with lo := a, hi := b }) || inR { m with lo := a, hi := b }) = true
  cases inR { m with lo := a, hi := b } <;> rfl
theorem running {m : Mon} (h : m.valid) (hs : m.stopped = false) : m.least ≤ m.oLo ∧ m.oHi ≤ m.most ∧ m.oHi ≤ 1000000 ∧ 1 ≤ m.oLo ∧ m.oLo ≤ m.lo ∧ m.hi ≤ m.oHi := by
  have h1 := h.r
  have h2 := h.ok
  obtain ⟨g1, g2, g3, g4, g5, g6, g7, g8, g9, g10⟩ := h2
  rw [hs] at h1
  simp [inR] at h1
  unfold oLo oHi at *
  omega
theorem stop_valid {m : Mon} (h : m.ok) : ({ m with stopped := true } : Mon).valid := by
  obtain ⟨h1, h2, h3, h4, h5, h6, h7, h8, h9, h10⟩ := h
  exact ⟨⟨h1, h2, h3, h4, h5, h6, h7, h8, h9, h10⟩, rfl⟩
theorem see_valid {m : Mon} (h : m.valid) (r : Int) : (m.see r).valid := by
  unfold see
  split
  · exact h
  · rename_i hs
    have hr := running h (by simpa using hs)
    split
    · rename_i ha
      simp [agrees] at ha
      exact upd_valid h.ok (by unfold sLo; omega) ha.2 (by unfold sHi; omega)
    · exact stop_valid h.ok
theorem miss_valid {m : Mon} (h : m.valid) : m.miss.valid := by
  unfold miss
  split
  · exact h
  · rename_i hs
    have hr := running h (by simpa using hs)
    have := h.ok.h2
    exact upd_valid h.ok (by omega) (by omega) (by omega)
end Mon
structure Raw45 where
  w : Raw44
  below : Int
  over : Int
namespace Raw45
abbrev av (x : Raw45) : AV := .agg [.v (.int .u8 x.w.lo), .v (.int .u8 x.w.wide), .v (.int .u8 x.w.step), .v (.int .u8 x.w.err), .rs 1 x.w.n none (fun i => [.v (.int .u8 (x.w.b i))]), .v (.int .u8 x.below), .v (.int .u8 x.over)]
theorem eqv {a b c d e g : Int} {n : Nat} {k : Option Nat} {f : Nat → List AV} (h : ∀ i, i < n → f i = [.v (.int .u8 (intAt (f i)))]) : AVEq (.agg [.v (.int .u8 a), .v (.int .u8 b), .v (.int .u8 c), .v (.int .u8 d), .rs 1 n k f, .v (.int .u8 e), .v (.int .u8 g)]) (Raw45.av ⟨⟨a, b, c, d, n, fun i => intAt (f i)⟩, e, g⟩) :=
  .agg _ _ (.cons _ _ _ _ (.refl _) (.cons _ _ _ _ (.refl _) (.cons _ _ _ _ (.refl _) (.cons _ _ _ _ (.refl _) (.cons _ _ _ _ (.rs _ _ _ _ _ _ rfl fun i hi => .of_eq (h i hi)) (.cons _ _ _ _ (.refl _) (.cons _ _ _ _ (.refl _) .nil)))))))
structure good (x : Raw45) : Prop where
  w : x.w.good
  below : 0 ≤ x.below ∧ x.below ≤ 255
  over : 0 ≤ x.over ∧ x.over ≤ 255
def mon0 (x : Raw45) : Mon := ⟨x.w.dLo, x.w.dHi, x.w.dStep, x.w.dErr, max 1 (x.w.dLo - x.below % 30), x.w.dHi + x.over % 30, false⟩
def mon (x : Raw45) : Mon := x.mon0.new
theorem mon0_ok (x : Raw45) (h : x.good) : x.mon0.ok := by
  have h1 := h.below
  have h2 := h.over
  have h3 := x.w.dLo_in h.w
  have h4 := x.w.dHi_in h.w
  have h5 := x.w.dStep_in h.w
  have h6 := x.w.dErr_in h.w
  constructor <;> simp only [mon0] <;> omega
theorem mon_valid (x : Raw45) (h : x.good) : x.mon.valid := Mon.new_valid (x.mon0_ok h)
end Raw45
def g_Made45 : List AV → Option (Prop × AV)
  | [.agg [.v (.int .u8 x_0), .v (.int .u8 x_1), .v (.int .u8 x_2), .v (.int .u8 x_3), .rs 1 x_4 x_5 x_6, .v (.int .u8 x_7), .v (.int .u8 x_8)]] => some ((∀ i, i < x_4 → x_6 i = [.v (.int .u8 (intAt (x_6 i)))]) ∧ ((⟨⟨x_0, x_1, x_2, x_3, x_4, fun i => intAt (x_6 i)⟩, x_7, x_8⟩ : Raw45).good), (⟨⟨x_0, x_1, x_2, x_3, x_4, fun i => intAt (x_6 i)⟩, x_7, x_8⟩ : Raw45).mon.av)
  | _ => none
theorem g_Made45_of {args : List AV} {p : Prop} {v : AV} (h : g_Made45  args = some (p, v)) : ∃ x_0 x_1 x_2 x_3 x_4 x_5 x_6 x_7 x_8, args = [.agg [.v (.int .u8 x_0), .v (.int .u8 x_1), .v (.int .u8 x_2), .v (.int .u8 x_3), .rs 1 x_4 x_5 x_6, .v (.int .u8 x_7), .v (.int .u8 x_8)]] ∧ p = ((∀ i, i < x_4 → x_6 i = [.v (.int .u8 (intAt (x_6 i)))]) ∧ ((⟨⟨x_0, x_1, x_2, x_3, x_4, fun i => intAt (x_6 i)⟩, x_7, x_8⟩ : Raw45).good)) ∧ v = (⟨⟨x_0, x_1, x_2, x_3, x_4, fun i => intAt (x_6 i)⟩, x_7, x_8⟩ : Raw45).mon.av := by
  unfold g_Made45 at h
  split at h
  · cases h; exact ⟨_, _, _, _, _, _, _, _, _, rfl, rfl, rfl⟩
  · cases h
set_option maxRecDepth 100000 in
theorem vc_Made45 (x : Raw45) : (callN Try.prog (mkCfg Try.prog [c_Made44, c_NewIn] [10] [] []) 10 6 10 [x.av] [] 0 (Reads (x.mon.av))) =
    ((((∀ i : Nat, ((i < x.w.n) → (([(.v (.int Go.IntKind.u8 (x.w.b i)))] : List AV) = [(.v (.int Go.IntKind.u8 (x.w.b i)))]))) ∧ (x.w.good)) ∧ (((((30 : Int)) = ((0 : Int))) → False) ∧ (((((30 : Int)) = ((0 : Int))) → False) ∧ (((Mon.mk x.w.dLo x.w.dHi x.w.dStep x.w.dErr (Max.max (1 : Int) (Go.IntKind.i64.wrap (x.w.dLo - Go.IntKind.i64.wrap (x.below.tmod (30 : Int))))) (Go.IntKind.i64.wrap (x.w.dHi + Go.IntKind.i64.wrap (x.over.tmod (30 : Int)))) Bool.false).ok) ∧ ((((Mon.mk x.w.dLo x.w.dHi x.w.dStep x.w.dErr (Max.max (1 : Int) (Go.IntKind.i64.wrap (x.w.dLo - Go.IntKind.i64.wrap (x.below.tmod (30 : Int))))) (Go.IntKind.i64.wrap (x.w.dHi + Go.IntKind.i64.wrap (x.over.tmod (30 : Int)))) Bool.false).lo) = (x.mon.lo)) ∧ ((((Mon.mk x.w.dLo x.w.dHi x.w.dStep x.w.dErr (Max.max (1 : Int) (Go.IntKind.i64.wrap (x.w.dLo - Go.IntKind.i64.wrap (x.below.tmod (30 : Int))))) (Go.IntKind.i64.wrap (x.w.dHi + Go.IntKind.i64.wrap (x.over.tmod (30 : Int)))) Bool.false).hi) = (x.mon.hi)) ∧ ((((Mon.mk x.w.dLo x.w.dHi x.w.dStep x.w.dErr (Max.max (1 : Int) (Go.IntKind.i64.wrap (x.w.dLo - Go.IntKind.i64.wrap (x.below.tmod (30 : Int))))) (Go.IntKind.i64.wrap (x.w.dHi + Go.IntKind.i64.wrap (x.over.tmod (30 : Int)))) Bool.false).step) = (x.mon.step)) ∧ ((((Mon.mk x.w.dLo x.w.dHi x.w.dStep x.w.dErr (Max.max (1 : Int) (Go.IntKind.i64.wrap (x.w.dLo - Go.IntKind.i64.wrap (x.below.tmod (30 : Int))))) (Go.IntKind.i64.wrap (x.w.dHi + Go.IntKind.i64.wrap (x.over.tmod (30 : Int)))) Bool.false).err) = (x.mon.err)) ∧ ((((Mon.mk x.w.dLo x.w.dHi x.w.dStep x.w.dErr (Max.max (1 : Int) (Go.IntKind.i64.wrap (x.w.dLo - Go.IntKind.i64.wrap (x.below.tmod (30 : Int))))) (Go.IntKind.i64.wrap (x.w.dHi + Go.IntKind.i64.wrap (x.over.tmod (30 : Int)))) Bool.false).least) = (x.mon.least)) ∧ ((((Mon.mk x.w.dLo x.w.dHi x.w.dStep x.w.dErr (Max.max (1 : Int) (Go.IntKind.i64.wrap (x.w.dLo - Go.IntKind.i64.wrap (x.below.tmod (30 : Int))))) (Go.IntKind.i64.wrap (x.w.dHi + Go.IntKind.i64.wrap (x.over.tmod (30 : Int)))) Bool.false).most) = (x.mon.most)) ∧ (((!(Mon.mk x.w.dLo x.w.dHi x.w.dStep x.w.dErr (Max.max (1 : Int) (Go.IntKind.i64.wrap (x.w.dLo - Go.IntKind.i64.wrap (x.below.tmod (30 : Int))))) (Go.IntKind.i64.wrap (x.w.dHi + Go.IntKind.i64.wrap (x.over.tmod (30 : Int)))) Bool.false).inR) = (x.mon.stopped)) ∧ True)))))))))))) := by kernel_rfl

def c_Made45 : Ctr := ⟨10, g_Made45 ⟩
theorem ok_Made45 : CtrOk Try.prog (c_Made45 ) := by
  refine ctr_of'' mix [c_Made44,  c_NewIn] [10] [] (by
    intro c hc
    simp only [List.mem_cons, List.not_mem_nil, or_false] at hc
    rcases hc with rfl | rfl
    · exact ok_Made44
    · exact ok_NewIn
    ) (fuel := 10) (d := 6) ⟨_, Try.func10, by kernel_rfl, by kernel_rfl⟩ fun args p v h hp => ?_
  obtain ⟨x_0, x_1, x_2, x_3, x_4, x_5, x_6, x_7, x_8, rfl, rfl, rfl⟩ := g_Made45_of  h
  obtain ⟨e_0, hp⟩ := hp
  refine ⟨[(⟨⟨x_0, x_1, x_2, x_3, x_4, fun i => intAt (x_6 i)⟩, x_7, x_8⟩ : Raw45).av], (.cons _ _ _ _ (Raw45.eqv e_0) .nil), ?_⟩
  generalize hx_x : (⟨⟨x_0, x_1, x_2, x_3, x_4, fun i => intAt (x_6 i)⟩, x_7, x_8⟩ : Raw45) = x at *
  clear h
  clear hx_x
  refine ⟨[], (fun c hc => by cases hc), ?_⟩
  refine (vc_Made45  x).mpr ?_
  have h1 := hp.below
  have h2 := hp.over
  have h3 := x.w.dLo_in hp.w
  have h4 := x.w.dHi_in hp.w
  have h5 := x.w.dStep_in hp.w
  have h6 := x.w.dErr_in hp.w
  simp (disch := omega) only [w64_in, tmod_in]
  repeat' (refine And.intro ?_ ?_)
  all_goals first | exact trivial | (intro h; omega) | rfl | exact fun _ _ => rfl | exact fun _ _ => trivial | exact hp.w | exact x.mon0_ok hp
def g_examples : List AV → Option (Prop × AV)
  | [] => some (True, .v (.bool true))
  | _ => none
theorem g_examples_of {args : List AV} {p : Prop} {v : AV} (h : g_examples  args = some (p, v)) : args = [] ∧ p = (True) ∧ v = .v (.bool true) := by
  unfold g_examples at h
  split at h
  · cases h; exact ⟨rfl, rfl, rfl⟩
  · cases h
set_option maxRecDepth 100000 in
theorem vc_examples  : (callN Try.prog (mkCfg Try.prog [] [9, 13, 30, 11, 27, 28, 41, 42, 33, 35, 34, 21, 22, 19, 32, 17] [] []) 10 6 9 [] [] 0 (Reads (.v (.bool true)))) =
    ((((Bool.true) = (Bool.true)) ∧ True)) := by kernel_rfl

def c_examples : Ctr := ⟨9, g_examples ⟩
theorem ok_examples : CtrOk Try.prog (c_examples ) := by
  refine ctr_of'' mix [] [9, 13, 30, 11, 27, 28, 41, 42, 33, 35, 34, 21, 22, 19, 32, 17] [] (fun c hc => by cases hc) (fuel := 10) (d := 6) ⟨_, Try.func9, by kernel_rfl, by kernel_rfl⟩ fun args p v h hp => ?_
  obtain ⟨rfl, rfl, rfl⟩ := g_examples_of  h
  refine ⟨[], .nil, ?_⟩
  clear h
  refine ⟨[], (fun c hc => by cases hc), ?_⟩
  refine (vc_examples ).mpr ?_
  exact ⟨rfl, trivial⟩
end Go.Proofs.Ytlofmgdjnaajjaa
