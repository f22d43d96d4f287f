/- Own text: the law MonitorBounds. -/
import Derived.Test.YtlofmgdjnaajjaaSf
namespace Go.Proofs.Ytlofmgdjnaajjaa
open Go Go.Ev Go.Proofs
set_option linter.unusedVariables false
set_option linter.unusedSimpArgs false
attribute [local irreducible] Go.Ev.callN Go.Ev.codeE
namespace Raw45
/-- Whether the monitor goes on behind a reading. -/
def bcont (x : Raw45) (g : Nat → Int) (k : Nat) : Bool := !(x.mon.sees g k).stopped && (x.mon.sees g k).agrees (g k)
theorem bnd_at (x : Raw45) (h : x.good) (g : Nat → Int) : ∀ k, (∀ i, i < k → x.bcont g i = true) → (x.mon.sees g k).lo = (x.w.dr.sp g k).lo ∧ (x.mon.sees g k).hi = (x.w.dr.sp g k).hi ∧ (x.mon.sees g k).step = x.w.dStep ∧ (x.mon.sees g k).err = x.w.dErr
  | 0, _ => ⟨rfl, rfl, rfl, rfl⟩
  | k + 1, hc => by
    obtain ⟨h1, h2, h3, h4⟩ := x.bnd_at h g k fun i hi => hc i (by omega)
    have hk := hc k (by omega)
    simp only [bcont, Bool.and_eq_true, Bool.not_eq_true'] at hk
    have hr := Mon.running (Mon.sees_valid (x.mon_valid h) g k) hk.1
    have ha := hk.2
    have h5 := x.w.dErr_in h.w
    simp only [Mon.agrees, Bool.and_eq_true, decide_eq_true_eq] at ha
    simp only [Mon.sees, Mon.see, hk.1, hk.2, if_true, Bool.false_eq_true, if_false, Mon.upd, Dr.sp, Raw44.dr, Dr.clamp]
    simp only [Mon.sLo, Mon.sHi, Mon.oLo, Mon.oHi] at *
    rw [h3] at *
    rw [h4] at *
    simp only [Raw44.dr] at h1 h2
    rw [h1] at *
    rw [h2] at *
    generalize (Dr.sp _ g k).lo = a at *
    generalize (Dr.sp _ g k).hi = b at *
    omega
theorem bnd_ok (x : Raw45) (h : x.good) (g : Nat → Int) (k : Nat) (hc : ∀ i, i < k → x.bcont g i = true) (hs : (x.mon.sees g k).stopped = false) : x.w.dr.okAt g k = (x.mon.sees g k).agrees (g k) := by
  obtain ⟨h1, h2, h3, h4⟩ := x.bnd_at h g k hc
  have hr := Mon.running (Mon.sees_valid (x.mon_valid h) g k) hs
  have h5 := x.w.dErr_in h.w
  rw [Bool.eq_iff_iff]
  simp only [Dr.okAt, Mon.agrees, Bool.and_eq_true, decide_eq_true_eq]
  simp only [Dr.sp, Raw44.dr, Dr.clamp, Mon.sLo, Mon.sHi, Mon.oLo, Mon.oHi] at *
  rw [h3] at *
  rw [h4] at *
  rw [h1] at *
  rw [h2] at *
  generalize (Dr.sp _ g k).lo = a at *
  generalize (Dr.sp _ g k).hi = b at *
  omega
theorem bnd_pre (x : Raw45) (h : x.good) (g : Nat → Int) (k : Nat) (hc : ∀ i, i < k → x.bcont g i = true) (i : Nat) (hi : i < k) : x.w.dr.okAt g i = true := by
  have hk := hc i hi
  simp only [bcont, Bool.and_eq_true, Bool.not_eq_true'] at hk
  rw [x.bnd_ok h g i (fun j hj => hc j (by omega)) hk.1]; exact hk.2
theorem bnd_got (x : Raw45) (h : x.good) (g : Nat → Int) (k : Nat) (hc : ∀ i, i < k → x.bcont g i = true) (hs : (x.mon.sees g k).stopped = false) : x.w.dr.got g (k + 1) = k + 1 ↔ (x.mon.sees g k).agrees (g k) = true := by
  rw [← x.bnd_ok h g k hc hs]
  unfold Dr.got
  rw [lead_all]
  constructor
  · intro hh; exact hh k (by omega)
  · intro hh i hi
    by_cases e : i = k
    · rw [e]; exact hh
    · exact x.bnd_pre h g k hc i (by omega)
end Raw45
def F_bnds (x : Raw45) (R : IL) : Lp where
  m := 0
  I := fun k => { env := [(1, R.av), (5, .v (.bool true)), (6, .ptr 1 0), (7, .ptr 2 0), (8, .v (.int .i64 (k : Int)))]
                  heap := [(1, some (.cells (x.mon.sees R.g k).cs)), (2, some (.cells [.v (.int .i64 x.w.dLo), .v (.int .i64 x.w.dHi), .v (.int .i64 x.w.dStep), .v (.int .i64 x.w.dErr)]))]
                  next := 3 }
  N := if R.n ≤ 40 then lead (x.bcont R.g) R.n + 1 else 0
  r := fun s n => n
  b := decide (lead (x.bcont R.g) R.n = R.n) || (x.mon.sees R.g (lead (x.bcont R.g) R.n)).stopped
  e1 := .exit 0
  s1 := { env := [(5, .v (.bool true))], heap := [], next := 3 }
  e2 := .ret
  s2 := { env := [(4, .v (.bool true))], heap := [], next := 3 }
set_option maxRecDepth 100000 in
theorem vl_bnds (x : Raw45) (R : IL) (k : Nat) : (codeE Try.prog (callN Try.prog (mkCfg Try.prog [c_See, c_Valid, c_Agrees, c_Miss, c_Bounds] [] [] []) 10 6) (mkCfg Try.prog [c_See, c_Valid, c_Agrees, c_Miss, c_Bounds] [] [] []) 7 10 (F_bnds x R).m (loopB Try.prog 7 9) ((F_bnds x R).I k) ((F_bnds x R).nxt k)) =
    ((Br (Decidable.decide ((↑k : Int) < (↑R.n : Int))) (Br (!(x.mon.sees R.g k).stopped) (((0 : Int) ≤ (↑k : Int)) ∧ (((↑k : Int) < (↑R.n : Int)) ∧ (((x.mon.sees R.g k).ok) ∧ (((0 : Int) ≤ Go.IntKind.i64.wrap ((↑k : Int) + (1 : Int))) ∧ ((Go.IntKind.i64.wrap ((↑k : Int) + (1 : Int)) ≤ (↑R.n : Int)) ∧ (((∀ i : Nat, ((i < (Go.IntKind.i64.wrap ((↑k : Int) + (1 : Int))).toNat) → (([(.v (.int Go.IntKind.i64 (R.g i)))] : List AV) = [(.v (.int Go.IntKind.i64 (R.g i)))]))) ∧ (((Dr.mk x.w.dLo x.w.dHi x.w.dStep x.w.dErr).ok) ∧ ((Go.IntKind.i64.wrap ((↑k : Int) + (1 : Int))).toNat ≤ (1000 : Nat)))) ∧ (((0 : Int) ≤ (↑k : Int)) ∧ (((↑k : Int) < (↑R.n : Int)) ∧ (((x.mon.sees R.g k).ok) ∧ (Br (((if (Dr.mk x.w.dLo x.w.dHi x.w.dStep x.w.dErr).got R.g (Go.IntKind.i64.wrap ((↑k : Int) + (1 : Int))).toNat = (Go.IntKind.i64.wrap ((↑k : Int) + (1 : Int))).toNat then (0 : Int) else (440 : Int)) == (0 : Int)) != (x.mon.sees R.g k).agrees (R.g (↑k : Int).toNat)) (((Bool.false) = (Bool.true)) ∧ (The ((F_bnds x R).b = Bool.false))) (Br ((if (Dr.mk x.w.dLo x.w.dHi x.w.dStep x.w.dErr).got R.g (Go.IntKind.i64.wrap ((↑k : Int) + (1 : Int))).toNat = (Go.IntKind.i64.wrap ((↑k : Int) + (1 : Int))).toNat then (0 : Int) else (440 : Int)) != (0 : Int)) (Br ((if (Dr.mk x.w.dLo x.w.dHi x.w.dStep x.w.dErr).got R.g (Go.IntKind.i64.wrap ((↑k : Int) + (1 : Int))).toNat = (Go.IntKind.i64.wrap ((↑k : Int) + (1 : Int))).toNat then (0 : Int) else (440 : Int)) == (440 : Int)) (Br (((x.mon.sees R.g k).see (R.g (↑k : Int).toNat)).stopped) (((Bool.true) = (Bool.true)) ∧ (The ((F_bnds x R).b = Bool.false))) (((Bool.false) = (Bool.true)) ∧ (The ((F_bnds x R).b = Bool.false)))) (((Bool.false) = (Bool.true)) ∧ (The ((F_bnds x R).b = Bool.false)))) (Br (((x.mon.sees R.g k).see (R.g (↑k : Int).toNat)).lo != if (Dr.mk x.w.dLo x.w.dHi x.w.dStep x.w.dErr).got R.g (Go.IntKind.i64.wrap ((↑k : Int) + (1 : Int))).toNat = (Go.IntKind.i64.wrap ((↑k : Int) + (1 : Int))).toNat then ((Dr.mk x.w.dLo x.w.dHi x.w.dStep x.w.dErr).sp R.g (Go.IntKind.i64.wrap ((↑k : Int) + (1 : Int))).toNat).lo else (0 : Int)) (((Bool.false) = (Bool.true)) ∧ (The ((F_bnds x R).b = Bool.false))) (Br (((x.mon.sees R.g k).see (R.g (↑k : Int).toNat)).hi != if (Dr.mk x.w.dLo x.w.dHi x.w.dStep x.w.dErr).got R.g (Go.IntKind.i64.wrap ((↑k : Int) + (1 : Int))).toNat = (Go.IntKind.i64.wrap ((↑k : Int) + (1 : Int))).toNat then ((Dr.mk x.w.dLo x.w.dHi x.w.dStep x.w.dErr).sp R.g (Go.IntKind.i64.wrap ((↑k : Int) + (1 : Int))).toNat).hi else (0 : Int)) (((Bool.false) = (Bool.true)) ∧ (The ((F_bnds x R).b = Bool.false))) ((((x.mon.sees R.g k).see (R.g (↑k : Int).toNat)).ok) ∧ (Br (!(((x.mon.sees R.g k).see (R.g (↑k : Int).toNat)).stopped || ((x.mon.sees R.g k).see (R.g (↑k : Int).toNat)).inR)) (((Bool.false) = (Bool.true)) ∧ (The ((F_bnds x R).b = Bool.false))) (((R.n) = (R.n)) ∧ ((∀ i : Nat, ((i < R.n) → (AVEqs [(.v (.int Go.IntKind.i64 (R.g i)))] [(.v (.int Go.IntKind.i64 (R.g i)))]))) ∧ (((Bool.true) = (Bool.true)) ∧ ((((0 : Nat)) = ((0 : Nat))) ∧ ((((0 : Nat)) = ((0 : Nat))) ∧ (((Go.IntKind.i64.wrap ((↑k : Int) + (1 : Int))) = ((↑(k + (1 : Nat)) : Int))) ∧ (((((x.mon.sees R.g k).see (R.g (↑k : Int).toNat)).lo) = ((x.mon.sees R.g (k + (1 : Nat))).lo)) ∧ (((((x.mon.sees R.g k).see (R.g (↑k : Int).toNat)).hi) = ((x.mon.sees R.g (k + (1 : Nat))).hi)) ∧ (((((x.mon.sees R.g k).see (R.g (↑k : Int).toNat)).step) = ((x.mon.sees R.g (k + (1 : Nat))).step)) ∧ (((((x.mon.sees R.g k).see (R.g (↑k : Int).toNat)).err) = ((x.mon.sees R.g (k + (1 : Nat))).err)) ∧ (((((x.mon.sees R.g k).see (R.g (↑k : Int).toNat)).least) = ((x.mon.sees R.g (k + (1 : Nat))).least)) ∧ (((((x.mon.sees R.g k).see (R.g (↑k : Int).toNat)).most) = ((x.mon.sees R.g (k + (1 : Nat))).most)) ∧ (((((x.mon.sees R.g k).see (R.g (↑k : Int).toNat)).stopped) = ((x.mon.sees R.g (k + (1 : Nat))).stopped)) ∧ (((x.w.dLo) = (x.w.dLo)) ∧ (((x.w.dHi) = (x.w.dHi)) ∧ (((x.w.dStep) = (x.w.dStep)) ∧ (((x.w.dErr) = (x.w.dErr)) ∧ (The (k + (1 : Nat) < (F_bnds x R).N)))))))))))))))))))))))))))))))))) (((Bool.true) = (Bool.true)) ∧ (The ((F_bnds x R).b = Bool.true)))) (((Bool.true) = (Bool.true)) ∧ (The ((F_bnds x R).b = Bool.true))))) := by kernel_rfl

theorem lok_bnds (x : Raw45) (R : IL) (hyp : x.good) : LoopOk Try.prog (7, 9, (F_bnds x R).go) := by
  refine lp_ok (F_bnds x R) mix [c_See, c_Valid, c_Agrees, c_Miss, c_Bounds] [] [] (by
    intro c hc
    simp only [List.mem_cons, List.not_mem_nil, or_false] at hc
    rcases hc with rfl | rfl | rfl | rfl | rfl
    · exact ok_See
    · exact ok_Valid
    · exact ok_Agrees
    · exact ok_Miss
    · exact ok_Bounds
    ) (fuel := 10) (d := 6) (by kernel_rfl) fun k hk => ⟨[], (fun c hc => by cases hc), ?_⟩
  refine (vl_bnds x R k).mpr ?_
  have hk : k < if R.n ≤ 40 then lead (x.bcont R.g) R.n + 1 else 0 := hk
  have hn : R.n ≤ 40 := by
    by_cases e : R.n ≤ 40
    · exact e
    · rw [if_neg e] at hk; omega
  rw [if_pos hn] at hk
  have hN : (F_bnds x R).N = lead (x.bcont R.g) R.n + 1 := if_pos hn
  have hlead := lead_le (x.bcont R.g) R.n
  have hall : ∀ i, i < k → x.bcont R.g i = true := fun i hi => lead_pass (n := R.n) (by omega)
  have hbk : x.bcont R.g k = (!(x.mon.sees R.g k).stopped && (x.mon.sees R.g k).agrees (R.g k)) := rfl
  have hgot := x.bnd_got hyp R.g k hall
  have hat1 : x.bcont R.g k = true → (x.mon.sees R.g (k + 1)).lo = (x.w.dr.sp R.g (k + 1)).lo ∧ (x.mon.sees R.g (k + 1)).hi = (x.w.dr.sp R.g (k + 1)).hi := fun h => by
    have := x.bnd_at hyp R.g (k + 1) fun i hi => by
      by_cases e : i = k
      · rw [e]; exact h
      · exact hall i (by omega)
    exact ⟨this.1, this.2.1⟩
  have hsee : (x.mon.sees R.g k).see (R.g k) = x.mon.sees R.g (k + 1) := rfl
  have hst : (x.mon.sees R.g k).stopped = false → (x.mon.sees R.g k).agrees (R.g k) = false → (x.mon.sees R.g (k + 1)).stopped = true := fun h h' => by
    rw [← hsee]; simp [Mon.see, h, h']
  have hb : (F_bnds x R).b = (decide (lead (x.bcont R.g) R.n = R.n) || (x.mon.sees R.g (lead (x.bcont R.g) R.n)).stopped) := rfl
  have hbt : k = R.n ∨ (x.mon.sees R.g k).stopped = true → (F_bnds x R).b = true := fun h => by
    rw [hb]
    by_cases e : lead (x.bcont R.g) R.n = R.n
    · simp [e]
    · rcases h with h | h
      · omega
      · have hlt : lead (x.bcont R.g) R.n < R.n := by omega
        have : lead (x.bcont R.g) R.n = k := by
          have := (lead_step (c := x.bcont R.g) (n := R.n) (k := k) (by omega) (by omega)).2 (by rw [hbk, h]; rfl)
          exact this.symm
        rw [this, h]; simp
  have hbf : k < R.n → (x.mon.sees R.g k).stopped = false → (x.mon.sees R.g k).agrees (R.g k) = false → (F_bnds x R).b = false := fun h h1 h2 => by
    have := (lead_step (c := x.bcont R.g) (n := R.n) (k := k) (by omega) (by omega)).2 (by rw [hbk, h1, h2]; rfl)
    rw [hb, ← this, h1]
    simp; omega
  have hgo : k < R.n → x.bcont R.g k = true → k + 1 < (F_bnds x R).N := fun h h1 => by
    have := (lead_step (c := x.bcont R.g) (n := R.n) (k := k) (by omega) h).1 h1
    rw [hN]; omega
  have v := Mon.sees_valid (x.mon_valid hyp) R.g k
  have u := Mon.sees_valid (x.mon_valid hyp) R.g (k + 1)
  have ur := u.r
  have i1 : (k : Int).toNat = k := rfl
  have i2 : ((k : Int) + 1).toNat = k + 1 := by omega
  have ed : Dr.mk x.w.dLo x.w.dHi x.w.dStep x.w.dErr = x.w.dr := rfl
  have hd := x.w.dr_ok hyp.w
  simp (disch := omega) only [w64_in, i1, i2, ed, hsee]
  clear hsee ed hN hb
  generalize x.mon.sees R.g k = m at *
  generalize x.mon.sees R.g (k + 1) = m' at *
  generalize x.bcont R.g k = bk at *
  generalize m.agrees (R.g k) = ag at *
  repeat' (first | exact trivial | refine Br.intro (fun _ => ?_) (fun _ => ?_) | refine And.intro ?_ ?_)
  all_goals first | exact v.ok | exact u.ok | exact hd | exact fun _ _ => .refl _ | exact fun _ _ => rfl | omega | rfl | skip
  all_goals first | (refine ⟨hgo ?_ ?_⟩) | (refine ⟨hbt ?_⟩) | (refine ⟨hbf ?_ ?_ ?_⟩) | skip
  all_goals grind
def g_BoundsL : List AV → Option (Prop × AV)
  | [.agg [.v (.int .u8 x_0), .v (.int .u8 x_1), .v (.int .u8 x_2), .v (.int .u8 x_3), .rs 1 x_4 x_5 x_6, .v (.int .u8 x_7), .v (.int .u8 x_8)], .rs 1 R_0 R_1 R_2] => some ((∀ i, i < x_4 → x_6 i = [.v (.int .u8 (intAt (x_6 i)))]) ∧ (∀ i, i < R_0 → R_2 i = [.v (.int .i64 (intAt (R_2 i)))]) ∧ ((⟨⟨x_0, x_1, x_2, x_3, x_4, fun i => intAt (x_6 i)⟩, x_7, x_8⟩ : Raw45).good), .v (.bool true))
  | _ => none
theorem g_BoundsL_of {args : List AV} {p : Prop} {v : AV} (h : g_BoundsL  args = some (p, v)) : ∃ x_0 x_1 x_2 x_3 x_4 x_5 x_6 x_7 x_8 R_0 R_1 R_2, args = [.agg [.v (.int .u8 x_0), .v (.int .u8 x_1), .v (.int .u8 x_2), .v (.int .u8 x_3), .rs 1 x_4 x_5 x_6, .v (.int .u8 x_7), .v (.int .u8 x_8)], .rs 1 R_0 R_1 R_2] ∧ p = ((∀ i, i < x_4 → x_6 i = [.v (.int .u8 (intAt (x_6 i)))]) ∧ (∀ i, i < R_0 → R_2 i = [.v (.int .i64 (intAt (R_2 i)))]) ∧ ((⟨⟨x_0, x_1, x_2, x_3, x_4, fun i => intAt (x_6 i)⟩, x_7, x_8⟩ : Raw45).good)) ∧ v = .v (.bool true) := by
  unfold g_BoundsL at h
  split at h
  · cases h; exact ⟨_, _, _, _, _, _, _, _, _, _, _, _, rfl, rfl, rfl⟩
  · cases h
set_option maxRecDepth 100000 in
theorem vc_BoundsL (x : Raw45) (R : IL) : (callN Try.prog (mkCfg Try.prog [c_examples, c_Made44, c_Made45, c_See, c_Valid, c_Agrees, c_Miss, c_Bounds] [7] [(7, 9, (F_bnds x R).go)] []) 10 6 7 [x.av, R.av] [] 0 (Reads (.v (.bool true)))) =
    ((True ∧ (Br (Decidable.decide ((↑R.n : Int) > (40 : Int))) (((Bool.true) = (Bool.true)) ∧ True) (((∀ i : Nat, ((i < x.w.n) → (([(.v (.int Go.IntKind.u8 (x.w.b i)))] : List AV) = [(.v (.int Go.IntKind.u8 (x.w.b i)))]))) ∧ (x.good)) ∧ (((∀ i : Nat, ((i < x.w.n) → (([(.v (.int Go.IntKind.u8 (x.w.b i)))] : List AV) = [(.v (.int Go.IntKind.u8 (x.w.b i)))]))) ∧ (x.w.good)) ∧ ((((R.n) = (R.n)) ∧ ((∀ i : Nat, ((i < R.n) → (AVEqs [(.v (.int Go.IntKind.i64 (R.g i)))] [(.v (.int Go.IntKind.i64 (R.g i)))]))) ∧ (((Bool.true) = (Bool.true)) ∧ ((((0 : Nat)) = ((0 : Nat))) ∧ ((((0 : Nat)) = ((0 : Nat))) ∧ ((((0 : Int)) = ((↑(0 : Nat) : Int))) ∧ (((x.mon.lo) = ((x.mon.sees R.g (0 : Nat)).lo)) ∧ (((x.mon.hi) = ((x.mon.sees R.g (0 : Nat)).hi)) ∧ (((x.mon.step) = ((x.mon.sees R.g (0 : Nat)).step)) ∧ (((x.mon.err) = ((x.mon.sees R.g (0 : Nat)).err)) ∧ (((x.mon.least) = ((x.mon.sees R.g (0 : Nat)).least)) ∧ (((x.mon.most) = ((x.mon.sees R.g (0 : Nat)).most)) ∧ (((x.mon.stopped) = ((x.mon.sees R.g (0 : Nat)).stopped)) ∧ (((x.w.dLo) = (x.w.dLo)) ∧ (((x.w.dHi) = (x.w.dHi)) ∧ (((x.w.dStep) = (x.w.dStep)) ∧ (((x.w.dErr) = (x.w.dErr)) ∧ (The ((0 : Nat) < (F_bnds x R).N))))))))))))))))))) ∧ (Br ((F_bnds x R).b) (((Bool.true) = (Bool.true)) ∧ True) (((Bool.true) = (Bool.true)) ∧ True)))))))) := by kernel_rfl

def c_BoundsL : Ctr := ⟨7, g_BoundsL ⟩
theorem ok_BoundsL : CtrOk Try.prog (c_BoundsL ) := by
  refine ctr_of'' mix [c_examples,  c_Made44,  c_Made45,  c_See,  c_Valid,  c_Agrees,  c_Miss,  c_Bounds] [7] [] (by
    intro c hc
    simp only [List.mem_cons, List.not_mem_nil, or_false] at hc
    rcases hc with rfl | rfl | rfl | rfl | rfl | rfl | rfl | rfl
    · exact ok_examples
    · exact ok_Made44
    · exact ok_Made45
    · exact ok_See
    · exact ok_Valid
    · exact ok_Agrees
    · exact ok_Miss
    · exact ok_Bounds
    ) (fuel := 10) (d := 6) ⟨_, Try.func7, by kernel_rfl, by kernel_rfl⟩ fun args p v h hp => ?_
  obtain ⟨x_0, x_1, x_2, x_3, x_4, x_5, x_6, x_7, x_8, R_0, R_1, R_2, rfl, rfl, rfl⟩ := g_BoundsL_of  h
  obtain ⟨e_0, e_1, hp⟩ := hp
  refine ⟨[(⟨⟨x_0, x_1, x_2, x_3, x_4, fun i => intAt (x_6 i)⟩, x_7, x_8⟩ : Raw45).av, (⟨R_0, fun i => intAt (R_2 i)⟩ : IL).av], (.cons _ _ _ _ (Raw45.eqv e_0) (.cons _ _ _ _ (IL.eqv e_1) .nil)), ?_⟩
  generalize hx_x : (⟨⟨x_0, x_1, x_2, x_3, x_4, fun i => intAt (x_6 i)⟩, x_7, x_8⟩ : Raw45) = x at *
  generalize hx_R : (⟨R_0, fun i => intAt (R_2 i)⟩ : IL) = R at *
  clear h
  clear hx_x hx_R
  refine ⟨[(7, 9, (F_bnds x R).go)], (by
    intro c hc
    simp only [List.mem_cons, List.not_mem_nil, or_false] at hc
    rcases hc with rfl
    · exact lok_bnds x R hp
    ), ?_⟩
  refine (vc_BoundsL  x R).mpr ?_
  repeat' (first | exact trivial | refine Br.intro (fun _ => ?_) (fun _ => ?_) | refine And.intro ?_ ?_)
  all_goals first | exact hp | exact hp.w | exact fun _ _ => .refl _ | exact fun _ _ => rfl | omega | rfl | exact ⟨rfl⟩ | skip
  all_goals
    have h : decide ((R.n : Int) > 40) = false := by assumption
    have hn : R.n ≤ 40 := by have := dec_f h; omega
    exact ⟨by show 0 < if R.n ≤ 40 then _ else _; rw [if_pos hn]; omega⟩
end Go.Proofs.Ytlofmgdjnaajjaa
