/- Own text: the law MonitorNeeded. -/
import Derived.Test.YtlofmgdjnaajjaaBd
import Derived.Test.YtlofmgdjnaajjaaPa
namespace Go.Proofs.Ytlofmgdjnaajjaa
open Go Go.Ev Go.Proofs
set_option linter.unusedVariables false
set_option linter.unusedSimpArgs false
attribute [local irreducible] Go.Ev.callN Go.Ev.codeE
namespace Dr
theorem lasts_in (d : Dr) (h : d.ok) (g : Nat → Int) (n : Nat) (last : Int) (hgot : d.got g n = n) : ∀ m, m ≤ n → (d.sp g (n - m)).lo ≤ d.lasts g n last (m + 1) ∧ d.lasts g n last (m + 1) ≤ (d.sp g (n - m)).hi := fun m hm => by
  have hok : ∀ i, i ≤ n → (d.sp g i).lo ≤ (d.sp g i).hi := fun i hi => by
    cases i with
    | zero => exact h.h2
    | succ i =>
      have := lead_pass (c := d.okAt g) (n := n) (k := i) (by unfold got at hgot; omega)
      simpa [okAt] using this
  have := hok (n - m) (by omega)
  simp only [lasts]
  omega
theorem back_in (d : Dr) (h : d.ok) (g : Nat → Int) (n : Nat) (last : Int) (hgot : d.got g n = n) (i : Nat) (hi : i ≤ n) : (d.sp g i).lo ≤ d.back g n last i ∧ d.back g n last i ≤ (d.sp g i).hi := by
  have h1 := d.lasts_in h g n last hgot (n - i) (by omega)
  have e1 : n - (n - i) = i := by omega
  have e2 : n + 1 - i = n - i + 1 := by omega
  rw [e1] at h1
  unfold back
  rw [e2]; exact h1
theorem back_step (d : Dr) (g : Nat → Int) (n : Nat) (last : Int) (i : Nat) (hi : i < n) : d.back g n last i = min (max (d.back g n last (i + 1)) (d.sp g i).lo) (d.sp g i).hi := by
  have e1 : n + 1 - i = n - i + 1 := by omega
  have e2 : n + 1 - (i + 1) = n - i := by omega
  have e3 : n - (n - i) = i := by omega
  unfold back
  rw [e1, e2]
  simp only [lasts, e3]
theorem back_chk (d : Dr) (h : d.ok) (g : Nat → Int) (n : Nat) (last : Int) (hgot : d.got g n = n) (hg : ∀ i, i < n → clamp (g i) = g i) : ∀ i, i ≤ n → chkP d g (d.back g n last) i = true
  | 0, _ => by
    have := d.back_in h g n last hgot 0 (by omega)
    simp only [chkP, Bool.and_eq_true, decide_eq_true_eq]; exact this
  | i + 1, hi => by
    have h1 := d.back_in h g n last hgot i (by omega)
    have h2 := d.back_in h g n last hgot (i + 1) hi
    have h3 := d.back_step g n last i (by omega)
    have h4 := hg i (by omega)
    have h5 := h.h4
    simp only [chkP, Bool.and_eq_true, decide_eq_true_eq]
    simp only [sp, h4] at h2
    omega
theorem back_poss (d : Dr) (h : d.ok) (g : Nat → Int) (n : Nat) (last : Int) (hgot : d.got g n = n) (hg : ∀ i, i < n → clamp (g i) = g i) : possB d ⟨n, g⟩ ⟨n + 1, d.back g n last⟩ = true := by
  simp only [possB, Bool.and_eq_true, decide_eq_true_eq]
  exact ⟨trivial, lead_all.mpr fun i hi => d.back_chk h g n last hgot hg i (by omega)⟩
theorem back_last (d : Dr) (g : Nat → Int) (n : Nat) (last : Int) (h : (d.sp g n).lo ≤ last ∧ last ≤ (d.sp g n).hi) : d.back g n last n = last := by
  have e : n + 1 - n = 1 := by omega
  unfold back
  rw [e]
  simp only [lasts, Nat.sub_zero]
  omega
end Dr
namespace Mon
def cnt (m : Mon) : Nat := (m.hi - m.lo + 1).toNat
/-- Whether a factor has been found. -/
def fnd (m : Mon) : Nat → Bool
  | 0 => false
  | j + 1 => m.fnd j || decide (m.most < m.lo + (j : Int) + m.step) || decide (max 1 (m.lo + (j : Int) - m.step) < m.least)
theorem fnd_at (m : Mon) {j : Nat} (h : m.most < m.lo + (j : Int) + m.step ∨ max 1 (m.lo + (j : Int) - m.step) < m.least) : ∀ k, j < k → m.fnd k = true
  | 0, hk => by omega
  | k + 1, hk => by
    by_cases e : j = k
    · subst e
      simp only [fnd, Bool.or_eq_true, decide_eq_true_eq]
      rcases h with h | h
      · exact .inl (.inr h)
      · exact .inr h
    · simp only [fnd, Bool.or_eq_true]
      exact .inl (.inl (m.fnd_at h k (by omega)))
theorem fnd_all (m : Mon) (h : m.lo ≤ m.hi) (hr : m.inR = false) : m.fnd m.cnt = true := by
  by_cases e : m.least ≤ m.oLo
  · have h2 : ¬ m.oHi ≤ m.most := fun h2 => by simp [inR, e, h2] at hr
    refine m.fnd_at (j := (m.hi - m.lo).toNat) (.inl ?_) _ ?_
    · unfold oHi at h2; omega
    · unfold cnt; omega
  · refine m.fnd_at (j := 0) (.inr ?_) _ ?_
    · unfold oLo at e; omega
    · unfold cnt; omega
end Mon
namespace Raw45
def nst (x : Raw45) (i : Nat) : Bool := !(x.mon.sees x.w.reading i).stopped
/-- Whether a round comes to a reading that agrees. -/
def hot (x : Raw45) (k : Nat) : Bool := decide (k < x.w.count) && decide (lead x.nst (k + 1) = k + 1) && (x.mon.sees x.w.reading k).agrees (x.w.reading k)
theorem hot_bcont (x : Raw45) {k : Nat} (h : x.hot k = true) : ∀ i, i < k + 1 → x.bcont x.w.reading i = true := fun i hi => by
  simp only [hot, Bool.and_eq_true, decide_eq_true_eq] at h
  obtain ⟨⟨h1, h2⟩, h3⟩ := h
  have hn := fun i hi => lead_pass (c := x.nst) (n := k + 1) (k := i) (by rw [h2]; exact hi)
  have h4 := hn i hi
  simp only [nst, Bool.not_eq_true'] at h4
  simp only [bcont, h4, Bool.not_false, Bool.true_and]
  by_cases e : i = k
  · rw [e]; exact h3
  · have h5 := hn (i + 1) (by omega)
    simp only [nst, Bool.not_eq_true'] at h5
    cases ha : (x.mon.sees x.w.reading i).agrees (x.w.reading i) with
    | true => rfl
    | false => simp [Mon.sees, Mon.see, h4, ha] at h5
theorem reading_in (x : Raw45) (h : x.good) (k : Nat) (hk : k < 12) : -1000 ≤ x.w.reading k ∧ x.w.reading k ≤ 1000 := by
  have h1 := x.read_in h k
  have h2 := x.w.path_in h.w (k + 1)
  have h3 := x.w.dErr_in h.w
  omega
/-- What the spans say at a reading that agrees. -/
theorem hot_sp (x : Raw45) (h : x.good) {k : Nat} (hk : x.hot k = true) : x.w.dr.got x.w.reading (k + 1) = k + 1 ∧ (x.mon.sees x.w.reading (k + 1)).lo = (x.w.dr.sp x.w.reading (k + 1)).lo ∧ (x.mon.sees x.w.reading (k + 1)).hi = (x.w.dr.sp x.w.reading (k + 1)).hi ∧ (x.mon.sees x.w.reading (k + 1)).hi - (x.mon.sees x.w.reading (k + 1)).lo ≤ 10 := by
  have hb := x.hot_bcont hk
  have h1 := x.bnd_at h x.w.reading (k + 1) hb
  have hkk := hb k (by omega)
  simp only [bcont, Bool.and_eq_true, Bool.not_eq_true'] at hkk
  have h2 := (x.bnd_got h x.w.reading k (fun i hi => hb i (by omega)) hkk.1).mpr hkk.2
  refine ⟨h2, h1.1, h1.2.1, ?_⟩
  have h3 := x.bnd_at h x.w.reading k (fun i hi => hb i (by omega))
  have h4 := x.w.dErr_in h.w
  have e : x.mon.sees x.w.reading (k + 1) = (x.mon.sees x.w.reading k).upd ((x.mon.sees x.w.reading k).sLo (x.w.reading k)) ((x.mon.sees x.w.reading k).sHi (x.w.reading k)) := by
    simp [Mon.sees, Mon.see, hkk.1, hkk.2]
  rw [e]
  simp only [Mon.upd, Mon.sLo, Mon.sHi]
  omega
theorem hot_inR (x : Raw45) {k : Nat} (hk : x.hot k = true) (hs : (x.mon.sees x.w.reading (k + 1)).stopped = true) : (x.mon.sees x.w.reading (k + 1)).inR = false := by
  have hkk := x.hot_bcont hk k (by omega)
  simp only [bcont, Bool.and_eq_true, Bool.not_eq_true'] at hkk
  have e : x.mon.sees x.w.reading (k + 1) = (x.mon.sees x.w.reading k).upd ((x.mon.sees x.w.reading k).sLo (x.w.reading k)) ((x.mon.sees x.w.reading k).sHi (x.w.reading k)) := by
    simp [Mon.sees, Mon.see, hkk.1, hkk.2]
  rw [e] at hs ⊢
  simp only [Mon.upd, Bool.not_eq_true'] at hs
  exact hs
end Raw45
def F_find (x : Raw45) (k : Nat) : Lp where
  m := 0
  I := fun j => { env := [(3, .v (.bool true)), (4, .ptr 1 0), (5, .ptr 2 0), (6, .v (.int .i64 (k : Int))), (8, .v (.bool ((x.mon.sees x.w.reading (k + 1)).fnd j))), (9, .v (.int .i64 ((x.mon.sees x.w.reading (k + 1)).lo + (j : Int))))]
                  heap := [(1, some (wcells x.w)), (2, some (.cells (x.mon.sees x.w.reading (k + 1)).cs))]
                  next := 3 }
  N := if x.hot k = true then (x.mon.sees x.w.reading (k + 1)).cnt + 1 else 0
  r := fun s n => n
  b := true
  e1 := .exit 2
  s1 := { env := [(3, .v (.bool true)), (4, .ptr 1 0), (5, .ptr 2 0), (6, .v (.int .i64 (k : Int))), (8, .v (.bool ((x.mon.sees x.w.reading (k + 1)).fnd (x.mon.sees x.w.reading (k + 1)).cnt)))]
          heap := [(1, some (wcells x.w)), (2, some (.cells (x.mon.sees x.w.reading (k + 1)).cs))], next := 3 }
  e2 := .exit 999
  s2 := { env := [], heap := [], next := 0 }
def F_need (x : Raw45) : Lp where
  m := 0
  I := fun k => { env := [(3, .v (.bool true)), (4, .ptr 1 0), (5, .ptr 2 0), (6, .v (.int .i64 (k : Int)))]
                  heap := [(1, some (wcells x.w)), (2, some (.cells (x.mon.sees x.w.reading k).cs))]
                  next := 3 }
  N := lead x.nst x.w.count + 1
  r := fun s n => n
  b := true
  e1 := .exit 0
  s1 := { env := [(3, .v (.bool true))], heap := [], next := 3 }
  e2 := .exit 999
  s2 := { env := [], heap := [], next := 0 }
set_option maxRecDepth 100000 in
theorem vl_find (x : Raw45) (kk : Nat) (k : Nat) : (codeE Try.prog (callN Try.prog (mkCfg Try.prog [c_Path, c_Possible] [] [] []) 10 6) (mkCfg Try.prog [c_Path, c_Possible] [] [] []) 8 10 (F_find x kk).m (loopB Try.prog 8 17) ((F_find x kk).I k) ((F_find x kk).nxt k)) =
    ((Br (Decidable.decide ((x.mon.sees x.w.reading (kk + (1 : Nat))).lo + (↑k : Int) ≤ (x.mon.sees x.w.reading (kk + (1 : Nat))).hi)) (((0 : Int) ≤ Go.IntKind.i64.wrap ((↑kk : Int) + (1 : Int))) ∧ ((Go.IntKind.i64.wrap ((↑kk : Int) + (1 : Int)) ≤ (↑x.w.count : Int)) ∧ (((∀ i : Nat, ((i < (Go.IntKind.i64.wrap ((↑kk : Int) + (1 : Int))).toNat) → (([(.v (.int Go.IntKind.i64 (x.w.reading i)))] : List AV) = [(.v (.int Go.IntKind.i64 (x.w.reading i)))]))) ∧ (((Dr.mk x.w.dLo x.w.dHi x.w.dStep x.w.dErr).ok) ∧ ((Go.IntKind.i64.wrap ((↑kk : Int) + (1 : Int))).toNat ≤ (1000 : Nat)))) ∧ (Br ((Dr.mk x.w.dLo x.w.dHi x.w.dStep x.w.dErr).pathE x.w.reading (Go.IntKind.i64.wrap ((↑kk : Int) + (1 : Int))).toNat ((x.mon.sees x.w.reading (kk + (1 : Nat))).lo + (↑k : Int)) != (0 : Int)) False (Br ((↑((Dr.mk x.w.dLo x.w.dHi x.w.dStep x.w.dErr).pathN x.w.reading (Go.IntKind.i64.wrap ((↑kk : Int) + (1 : Int))).toNat ((x.mon.sees x.w.reading (kk + (1 : Nat))).lo + (↑k : Int))) : Int) != Go.IntKind.i64.wrap ((↑kk : Int) + (2 : Int))) False (((0 : Int) ≤ Go.IntKind.i64.wrap ((↑kk : Int) + (1 : Int))) ∧ ((Go.IntKind.i64.wrap ((↑kk : Int) + (1 : Int)) ≤ (↑x.w.count : Int)) ∧ (((∀ i : Nat, ((i < (Go.IntKind.i64.wrap ((↑kk : Int) + (1 : Int))).toNat) → (([(.v (.int Go.IntKind.i64 (x.w.reading i)))] : List AV) = [(.v (.int Go.IntKind.i64 (x.w.reading i)))]))) ∧ ((∀ i : Nat, ((i < (Dr.mk x.w.dLo x.w.dHi x.w.dStep x.w.dErr).pathN x.w.reading (Go.IntKind.i64.wrap ((↑kk : Int) + (1 : Int))).toNat ((x.mon.sees x.w.reading (kk + (1 : Nat))).lo + (↑k : Int))) → (([(.v (.int Go.IntKind.i64 ((Dr.mk x.w.dLo x.w.dHi x.w.dStep x.w.dErr).back x.w.reading (Go.IntKind.i64.wrap ((↑kk : Int) + (1 : Int))).toNat ((x.mon.sees x.w.reading (kk + (1 : Nat))).lo + (↑k : Int)) i)))] : List AV) = [(.v (.int Go.IntKind.i64 ((Dr.mk x.w.dLo x.w.dHi x.w.dStep x.w.dErr).back x.w.reading (Go.IntKind.i64.wrap ((↑kk : Int) + (1 : Int))).toNat ((x.mon.sees x.w.reading (kk + (1 : Nat))).lo + (↑k : Int)) i)))]))) ∧ (((Dr.mk x.w.dLo x.w.dHi x.w.dStep x.w.dErr).ok) ∧ (((Go.IntKind.i64.wrap ((↑kk : Int) + (1 : Int))).toNat ≤ (1000 : Nat)) ∧ (∀ i : Nat, ((i < (Dr.mk x.w.dLo x.w.dHi x.w.dStep x.w.dErr).pathN x.w.reading (Go.IntKind.i64.wrap ((↑kk : Int) + (1 : Int))).toNat ((x.mon.sees x.w.reading (kk + (1 : Nat))).lo + (↑k : Int))) → (((-1000000000000 : Int) ≤ (IL.mk ((Dr.mk x.w.dLo x.w.dHi x.w.dStep x.w.dErr).pathN x.w.reading (Go.IntKind.i64.wrap ((↑kk : Int) + (1 : Int))).toNat ((x.mon.sees x.w.reading (kk + (1 : Nat))).lo + (↑k : Int))) ((Dr.mk x.w.dLo x.w.dHi x.w.dStep x.w.dErr).back x.w.reading (Go.IntKind.i64.wrap ((↑kk : Int) + (1 : Int))).toNat ((x.mon.sees x.w.reading (kk + (1 : Nat))).lo + (↑k : Int)))).g i) ∧ ((IL.mk ((Dr.mk x.w.dLo x.w.dHi x.w.dStep x.w.dErr).pathN x.w.reading (Go.IntKind.i64.wrap ((↑kk : Int) + (1 : Int))).toNat ((x.mon.sees x.w.reading (kk + (1 : Nat))).lo + (↑k : Int))) ((Dr.mk x.w.dLo x.w.dHi x.w.dStep x.w.dErr).back x.w.reading (Go.IntKind.i64.wrap ((↑kk : Int) + (1 : Int))).toNat ((x.mon.sees x.w.reading (kk + (1 : Nat))).lo + (↑k : Int)))).g i ≤ (1000000000000 : Int))))))))) ∧ (Br (!possB (Dr.mk x.w.dLo x.w.dHi x.w.dStep x.w.dErr) (IL.mk (Go.IntKind.i64.wrap ((↑kk : Int) + (1 : Int))).toNat x.w.reading) (IL.mk ((Dr.mk x.w.dLo x.w.dHi x.w.dStep x.w.dErr).pathN x.w.reading (Go.IntKind.i64.wrap ((↑kk : Int) + (1 : Int))).toNat ((x.mon.sees x.w.reading (kk + (1 : Nat))).lo + (↑k : Int))) ((Dr.mk x.w.dLo x.w.dHi x.w.dStep x.w.dErr).back x.w.reading (Go.IntKind.i64.wrap ((↑kk : Int) + (1 : Int))).toNat ((x.mon.sees x.w.reading (kk + (1 : Nat))).lo + (↑k : Int))))) False (Br ((x.mon.sees x.w.reading (kk + (1 : Nat))).fnd k) (((Bool.true) = (Bool.true)) ∧ ((((0 : Nat)) = ((0 : Nat))) ∧ ((((0 : Nat)) = ((0 : Nat))) ∧ ((((↑kk : Int)) = ((↑kk : Int))) ∧ (((Bool.true) = ((x.mon.sees x.w.reading (kk + (1 : Nat))).fnd (k + (1 : Nat)))) ∧ (((Go.IntKind.i64.wrap ((x.mon.sees x.w.reading (kk + (1 : Nat))).lo + (↑k : Int) + (1 : Int))) = ((x.mon.sees x.w.reading (kk + (1 : Nat))).lo + (↑(k + (1 : Nat)) : Int))) ∧ (((x.w.dLo) = (x.w.dLo)) ∧ (((x.w.dHi) = (x.w.dHi)) ∧ (((x.w.dStep) = (x.w.dStep)) ∧ (((x.w.dErr) = (x.w.dErr)) ∧ (((x.w.count + (1 : Nat)) = (x.w.count + (1 : Nat))) ∧ ((∀ i : Nat, ((i < x.w.count + (1 : Nat)) → (AVEqs [(.v (.int Go.IntKind.i64 (x.w.path i)))] [(.v (.int Go.IntKind.i64 (x.w.path i)))]))) ∧ (((x.w.count) = (x.w.count)) ∧ ((∀ i : Nat, ((i < x.w.count) → (AVEqs [(.v (.int Go.IntKind.i64 (x.w.reading i)))] [(.v (.int Go.IntKind.i64 (x.w.reading i)))]))) ∧ ((((x.mon.sees x.w.reading (kk + (1 : Nat))).lo) = ((x.mon.sees x.w.reading (kk + (1 : Nat))).lo)) ∧ ((((x.mon.sees x.w.reading (kk + (1 : Nat))).hi) = ((x.mon.sees x.w.reading (kk + (1 : Nat))).hi)) ∧ ((((x.mon.sees x.w.reading (kk + (1 : Nat))).step) = ((x.mon.sees x.w.reading (kk + (1 : Nat))).step)) ∧ ((((x.mon.sees x.w.reading (kk + (1 : Nat))).err) = ((x.mon.sees x.w.reading (kk + (1 : Nat))).err)) ∧ ((((x.mon.sees x.w.reading (kk + (1 : Nat))).least) = ((x.mon.sees x.w.reading (kk + (1 : Nat))).least)) ∧ ((((x.mon.sees x.w.reading (kk + (1 : Nat))).most) = ((x.mon.sees x.w.reading (kk + (1 : Nat))).most)) ∧ ((((x.mon.sees x.w.reading (kk + (1 : Nat))).stopped) = ((x.mon.sees x.w.reading (kk + (1 : Nat))).stopped)) ∧ (The (k + (1 : Nat) < (F_find x kk).N))))))))))))))))))))))) (Br (Decidable.decide (Go.IntKind.i64.wrap ((x.mon.sees x.w.reading (kk + (1 : Nat))).lo + (↑k : Int) + (x.mon.sees x.w.reading (kk + (1 : Nat))).step) > (x.mon.sees x.w.reading (kk + (1 : Nat))).most)) (((Bool.true) = (Bool.true)) ∧ ((((0 : Nat)) = ((0 : Nat))) ∧ ((((0 : Nat)) = ((0 : Nat))) ∧ ((((↑kk : Int)) = ((↑kk : Int))) ∧ (((Bool.true) = ((x.mon.sees x.w.reading (kk + (1 : Nat))).fnd (k + (1 : Nat)))) ∧ (((Go.IntKind.i64.wrap ((x.mon.sees x.w.reading (kk + (1 : Nat))).lo + (↑k : Int) + (1 : Int))) = ((x.mon.sees x.w.reading (kk + (1 : Nat))).lo + (↑(k + (1 : Nat)) : Int))) ∧ (((x.w.dLo) = (x.w.dLo)) ∧ (((x.w.dHi) = (x.w.dHi)) ∧ (((x.w.dStep) = (x.w.dStep)) ∧ (((x.w.dErr) = (x.w.dErr)) ∧ (((x.w.count + (1 : Nat)) = (x.w.count + (1 : Nat))) ∧ ((∀ i : Nat, ((i < x.w.count + (1 : Nat)) → (AVEqs [(.v (.int Go.IntKind.i64 (x.w.path i)))] [(.v (.int Go.IntKind.i64 (x.w.path i)))]))) ∧ (((x.w.count) = (x.w.count)) ∧ ((∀ i : Nat, ((i < x.w.count) → (AVEqs [(.v (.int Go.IntKind.i64 (x.w.reading i)))] [(.v (.int Go.IntKind.i64 (x.w.reading i)))]))) ∧ ((((x.mon.sees x.w.reading (kk + (1 : Nat))).lo) = ((x.mon.sees x.w.reading (kk + (1 : Nat))).lo)) ∧ ((((x.mon.sees x.w.reading (kk + (1 : Nat))).hi) = ((x.mon.sees x.w.reading (kk + (1 : Nat))).hi)) ∧ ((((x.mon.sees x.w.reading (kk + (1 : Nat))).step) = ((x.mon.sees x.w.reading (kk + (1 : Nat))).step)) ∧ ((((x.mon.sees x.w.reading (kk + (1 : Nat))).err) = ((x.mon.sees x.w.reading (kk + (1 : Nat))).err)) ∧ ((((x.mon.sees x.w.reading (kk + (1 : Nat))).least) = ((x.mon.sees x.w.reading (kk + (1 : Nat))).least)) ∧ ((((x.mon.sees x.w.reading (kk + (1 : Nat))).most) = ((x.mon.sees x.w.reading (kk + (1 : Nat))).most)) ∧ ((((x.mon.sees x.w.reading (kk + (1 : Nat))).stopped) = ((x.mon.sees x.w.reading (kk + (1 : Nat))).stopped)) ∧ (The (k + (1 : Nat) < (F_find x kk).N))))))))))))))))))))))) (((Bool.true) = (Bool.true)) ∧ ((((0 : Nat)) = ((0 : Nat))) ∧ ((((0 : Nat)) = ((0 : Nat))) ∧ ((((↑kk : Int)) = ((↑kk : Int))) ∧ (((Decidable.decide (Max.max (1 : Int) (Go.IntKind.i64.wrap ((x.mon.sees x.w.reading (kk + (1 : Nat))).lo + (↑k : Int) - (x.mon.sees x.w.reading (kk + (1 : Nat))).step)) < (x.mon.sees x.w.reading (kk + (1 : Nat))).least)) = ((x.mon.sees x.w.reading (kk + (1 : Nat))).fnd (k + (1 : Nat)))) ∧ (((Go.IntKind.i64.wrap ((x.mon.sees x.w.reading (kk + (1 : Nat))).lo + (↑k : Int) + (1 : Int))) = ((x.mon.sees x.w.reading (kk + (1 : Nat))).lo + (↑(k + (1 : Nat)) : Int))) ∧ (((x.w.dLo) = (x.w.dLo)) ∧ (((x.w.dHi) = (x.w.dHi)) ∧ (((x.w.dStep) = (x.w.dStep)) ∧ (((x.w.dErr) = (x.w.dErr)) ∧ (((x.w.count + (1 : Nat)) = (x.w.count + (1 : Nat))) ∧ ((∀ i : Nat, ((i < x.w.count + (1 : Nat)) → (AVEqs [(.v (.int Go.IntKind.i64 (x.w.path i)))] [(.v (.int Go.IntKind.i64 (x.w.path i)))]))) ∧ (((x.w.count) = (x.w.count)) ∧ ((∀ i : Nat, ((i < x.w.count) → (AVEqs [(.v (.int Go.IntKind.i64 (x.w.reading i)))] [(.v (.int Go.IntKind.i64 (x.w.reading i)))]))) ∧ ((((x.mon.sees x.w.reading (kk + (1 : Nat))).lo) = ((x.mon.sees x.w.reading (kk + (1 : Nat))).lo)) ∧ ((((x.mon.sees x.w.reading (kk + (1 : Nat))).hi) = ((x.mon.sees x.w.reading (kk + (1 : Nat))).hi)) ∧ ((((x.mon.sees x.w.reading (kk + (1 : Nat))).step) = ((x.mon.sees x.w.reading (kk + (1 : Nat))).step)) ∧ ((((x.mon.sees x.w.reading (kk + (1 : Nat))).err) = ((x.mon.sees x.w.reading (kk + (1 : Nat))).err)) ∧ ((((x.mon.sees x.w.reading (kk + (1 : Nat))).least) = ((x.mon.sees x.w.reading (kk + (1 : Nat))).least)) ∧ ((((x.mon.sees x.w.reading (kk + (1 : Nat))).most) = ((x.mon.sees x.w.reading (kk + (1 : Nat))).most)) ∧ ((((x.mon.sees x.w.reading (kk + (1 : Nat))).stopped) = ((x.mon.sees x.w.reading (kk + (1 : Nat))).stopped)) ∧ (The (k + (1 : Nat) < (F_find x kk).N)))))))))))))))))))))))))))))))))) (((Bool.true) = (Bool.true)) ∧ ((((0 : Nat)) = ((0 : Nat))) ∧ ((((0 : Nat)) = ((0 : Nat))) ∧ ((((↑kk : Int)) = ((↑kk : Int))) ∧ ((((x.mon.sees x.w.reading (kk + (1 : Nat))).fnd k) = ((x.mon.sees x.w.reading (kk + (1 : Nat))).fnd (x.mon.sees x.w.reading (kk + (1 : Nat))).cnt)) ∧ (((x.w.dLo) = (x.w.dLo)) ∧ (((x.w.dHi) = (x.w.dHi)) ∧ (((x.w.dStep) = (x.w.dStep)) ∧ (((x.w.dErr) = (x.w.dErr)) ∧ (((x.w.count + (1 : Nat)) = (x.w.count + (1 : Nat))) ∧ ((∀ i : Nat, ((i < x.w.count + (1 : Nat)) → (AVEqs [(.v (.int Go.IntKind.i64 (x.w.path i)))] [(.v (.int Go.IntKind.i64 (x.w.path i)))]))) ∧ (((x.w.count) = (x.w.count)) ∧ ((∀ i : Nat, ((i < x.w.count) → (AVEqs [(.v (.int Go.IntKind.i64 (x.w.reading i)))] [(.v (.int Go.IntKind.i64 (x.w.reading i)))]))) ∧ ((((x.mon.sees x.w.reading (kk + (1 : Nat))).lo) = ((x.mon.sees x.w.reading (kk + (1 : Nat))).lo)) ∧ ((((x.mon.sees x.w.reading (kk + (1 : Nat))).hi) = ((x.mon.sees x.w.reading (kk + (1 : Nat))).hi)) ∧ ((((x.mon.sees x.w.reading (kk + (1 : Nat))).step) = ((x.mon.sees x.w.reading (kk + (1 : Nat))).step)) ∧ ((((x.mon.sees x.w.reading (kk + (1 : Nat))).err) = ((x.mon.sees x.w.reading (kk + (1 : Nat))).err)) ∧ ((((x.mon.sees x.w.reading (kk + (1 : Nat))).least) = ((x.mon.sees x.w.reading (kk + (1 : Nat))).least)) ∧ ((((x.mon.sees x.w.reading (kk + (1 : Nat))).most) = ((x.mon.sees x.w.reading (kk + (1 : Nat))).most)) ∧ ((((x.mon.sees x.w.reading (kk + (1 : Nat))).stopped) = ((x.mon.sees x.w.reading (kk + (1 : Nat))).stopped)) ∧ (The ((F_find x kk).b = Bool.true)))))))))))))))))))))))) := by kernel_rfl

theorem lok_find (x : Raw45) (kk : Nat) (hyp : x.good) : LoopOk Try.prog (8, 17, (F_find x kk).go) := by
  refine lp_ok (F_find x kk) mix [c_Path, c_Possible] [] [] (by
    intro c hc
    simp only [List.mem_cons, List.not_mem_nil, or_false] at hc
    rcases hc with rfl | rfl
    · exact ok_Path
    · exact ok_Possible
    ) (fuel := 10) (d := 6) (by kernel_rfl) fun k hk => ⟨[], (fun c hc => by cases hc), ?_⟩
  refine (vl_find x kk k).mpr ?_
  have hk : k < if x.hot kk = true then (x.mon.sees x.w.reading (kk + 1)).cnt + 1 else 0 := hk
  have hh : x.hot kk = true := by
    by_cases e : x.hot kk = true
    · exact e
    · rw [if_neg e] at hk; omega
  rw [if_pos hh] at hk
  have hN : (F_find x kk).N = (x.mon.sees x.w.reading (kk + 1)).cnt + 1 := if_pos hh
  have hkc : kk < x.w.count := by
    have := hh
    simp only [Raw45.hot, Bool.and_eq_true, decide_eq_true_eq] at this
    exact this.1.1
  have hc := x.w.count_le
  obtain ⟨g1, g2, g3, g4⟩ := x.hot_sp hyp hh
  have hd := x.w.dr_ok hyp.w
  obtain ⟨v1, v2, v3, v4, v5, v6, v7, v8, v9, v10⟩ := (Mon.sees_valid (x.mon_valid hyp) x.w.reading (kk + 1)).ok
  have i2 : ((kk : Int) + 1).toNat = kk + 1 := by omega
  have ed : Dr.mk x.w.dLo x.w.dHi x.w.dStep x.w.dErr = x.w.dr := rfl
  have hcl : ∀ i, i < kk + 1 → Dr.clamp (x.w.reading i) = x.w.reading i := fun i hi => by
    have := x.reading_in hyp i (by omega)
    unfold Dr.clamp; omega
  have hfn : (x.mon.sees x.w.reading (kk + 1)).fnd (k + 1) = ((x.mon.sees x.w.reading (kk + 1)).fnd k || decide ((x.mon.sees x.w.reading (kk + 1)).most < (x.mon.sees x.w.reading (kk + 1)).lo + (k : Int) + (x.mon.sees x.w.reading (kk + 1)).step) || decide (max 1 ((x.mon.sees x.w.reading (kk + 1)).lo + (k : Int) - (x.mon.sees x.w.reading (kk + 1)).step) < (x.mon.sees x.w.reading (kk + 1)).least)) := rfl
  have hcnt : (x.mon.sees x.w.reading (kk + 1)).cnt = ((x.mon.sees x.w.reading (kk + 1)).hi - (x.mon.sees x.w.reading (kk + 1)).lo + 1).toNat := rfl
  generalize x.mon.sees x.w.reading (kk + 1) = m at *
  have hkm : (k : Int) ≤ 11 := by omega
  simp (disch := omega) only [w64_in, i2, ed]
  refine Br.intro (fun h => ?_) (fun h => ?_)
  · have h := dec_t h
    have hin : (x.w.dr.sp x.w.reading (kk + 1)).lo ≤ m.lo + (k : Int) ∧ m.lo + (k : Int) ≤ (x.w.dr.sp x.w.reading (kk + 1)).hi := by omega
    have hE : x.w.dr.pathE x.w.reading (kk + 1) (m.lo + (k : Int)) = 0 := by
      unfold Dr.pathE; rw [if_pos g1, if_pos hin]
    have hPN : x.w.dr.pathN x.w.reading (kk + 1) (m.lo + (k : Int)) = kk + 1 + 1 := by
      unfold Dr.pathN; rw [if_pos hE]
    have hposs := x.w.dr.back_poss hd x.w.reading (kk + 1) (m.lo + (k : Int)) g1 hcl
    have hb : ∀ i, i < kk + 1 + 1 → -1000000000000 ≤ x.w.dr.back x.w.reading (kk + 1) (m.lo + (k : Int)) i ∧ x.w.dr.back x.w.reading (kk + 1) (m.lo + (k : Int)) i ≤ 1000000000000 := fun i hi => by
      have h1 := x.w.dr.back_in hd x.w.reading (kk + 1) (m.lo + (k : Int)) g1 i (by omega)
      have h2 := x.w.dr.sp_in hd x.w.reading i
      omega
    have hgo : m.lo + (k : Int) ≤ m.hi → k + 1 < (F_find x kk).N := fun h => by rw [hN]; omega
    simp only [hE, hPN, hposs]
    clear hcl g1 hE hPN hposs hN
    repeat' (first | exact trivial | refine Br.intro (fun _ => ?_) (fun _ => ?_) | refine And.intro ?_ ?_)
    all_goals first | exact hd | exact fun _ _ => .refl _ | exact fun _ _ => rfl | exact hb | exact ⟨hgo h⟩ | omega | rfl | skip
    all_goals grind
  · have h := dec_f h
    have hkk : k = m.cnt := by omega
    subst hkk
    repeat' (refine And.intro ?_ ?_)
    all_goals first | exact trivial | rfl | exact fun _ _ => .refl _ | exact ⟨rfl⟩
set_option maxRecDepth 100000 in
theorem vl_need (x : Raw45) (k : Nat) : (codeE Try.prog (callN Try.prog (mkCfg Try.prog [c_See, c_Valid, c_Agrees] [] [(8, 17, (F_find x k).go)] []) 10 6) (mkCfg Try.prog [c_See, c_Valid, c_Agrees] [] [(8, 17, (F_find x k).go)] []) 8 10 (F_need x).m (loopB Try.prog 8 6) ((F_need x).I k) ((F_need x).nxt k)) =
    ((Br (Decidable.decide ((↑k : Int) < (↑x.w.count : Int))) (Br (!(x.mon.sees x.w.reading k).stopped) (((0 : Int) ≤ (↑k : Int)) ∧ (((↑k : Int) < (↑x.w.count : Int)) ∧ (((x.mon.sees x.w.reading k).ok) ∧ ((((x.mon.sees x.w.reading k).see (x.w.reading (↑k : Int).toNat)).ok) ∧ (Br (!(((x.mon.sees x.w.reading k).see (x.w.reading (↑k : Int).toNat)).stopped || ((x.mon.sees x.w.reading k).see (x.w.reading (↑k : Int).toNat)).inR)) False (Br (!((x.mon.sees x.w.reading k).see (x.w.reading (↑k : Int).toNat)).stopped) (((Bool.true) = (Bool.true)) ∧ ((((0 : Nat)) = ((0 : Nat))) ∧ ((((0 : Nat)) = ((0 : Nat))) ∧ (((Go.IntKind.i64.wrap ((↑k : Int) + (1 : Int))) = ((↑(k + (1 : Nat)) : Int))) ∧ (((x.w.dLo) = (x.w.dLo)) ∧ (((x.w.dHi) = (x.w.dHi)) ∧ (((x.w.dStep) = (x.w.dStep)) ∧ (((x.w.dErr) = (x.w.dErr)) ∧ (((x.w.count + (1 : Nat)) = (x.w.count + (1 : Nat))) ∧ ((∀ i : Nat, ((i < x.w.count + (1 : Nat)) → (AVEqs [(.v (.int Go.IntKind.i64 (x.w.path i)))] [(.v (.int Go.IntKind.i64 (x.w.path i)))]))) ∧ (((x.w.count) = (x.w.count)) ∧ ((∀ i : Nat, ((i < x.w.count) → (AVEqs [(.v (.int Go.IntKind.i64 (x.w.reading i)))] [(.v (.int Go.IntKind.i64 (x.w.reading i)))]))) ∧ (((((x.mon.sees x.w.reading k).see (x.w.reading (↑k : Int).toNat)).lo) = ((x.mon.sees x.w.reading (k + (1 : Nat))).lo)) ∧ (((((x.mon.sees x.w.reading k).see (x.w.reading (↑k : Int).toNat)).hi) = ((x.mon.sees x.w.reading (k + (1 : Nat))).hi)) ∧ (((((x.mon.sees x.w.reading k).see (x.w.reading (↑k : Int).toNat)).step) = ((x.mon.sees x.w.reading (k + (1 : Nat))).step)) ∧ (((((x.mon.sees x.w.reading k).see (x.w.reading (↑k : Int).toNat)).err) = ((x.mon.sees x.w.reading (k + (1 : Nat))).err)) ∧ (((((x.mon.sees x.w.reading k).see (x.w.reading (↑k : Int).toNat)).least) = ((x.mon.sees x.w.reading (k + (1 : Nat))).least)) ∧ (((((x.mon.sees x.w.reading k).see (x.w.reading (↑k : Int).toNat)).most) = ((x.mon.sees x.w.reading (k + (1 : Nat))).most)) ∧ (((((x.mon.sees x.w.reading k).see (x.w.reading (↑k : Int).toNat)).stopped) = ((x.mon.sees x.w.reading (k + (1 : Nat))).stopped)) ∧ (The (k + (1 : Nat) < (F_need x).N))))))))))))))))))))) (((0 : Int) ≤ (↑k : Int)) ∧ (((↑k : Int) < (↑x.w.count : Int)) ∧ (((x.mon.sees x.w.reading k).ok) ∧ (Br (!(x.mon.sees x.w.reading k).agrees (x.w.reading (↑k : Int).toNat)) (((Bool.true) = (Bool.true)) ∧ ((((0 : Nat)) = ((0 : Nat))) ∧ ((((0 : Nat)) = ((0 : Nat))) ∧ (((Go.IntKind.i64.wrap ((↑k : Int) + (1 : Int))) = ((↑(k + (1 : Nat)) : Int))) ∧ (((x.w.dLo) = (x.w.dLo)) ∧ (((x.w.dHi) = (x.w.dHi)) ∧ (((x.w.dStep) = (x.w.dStep)) ∧ (((x.w.dErr) = (x.w.dErr)) ∧ (((x.w.count + (1 : Nat)) = (x.w.count + (1 : Nat))) ∧ ((∀ i : Nat, ((i < x.w.count + (1 : Nat)) → (AVEqs [(.v (.int Go.IntKind.i64 (x.w.path i)))] [(.v (.int Go.IntKind.i64 (x.w.path i)))]))) ∧ (((x.w.count) = (x.w.count)) ∧ ((∀ i : Nat, ((i < x.w.count) → (AVEqs [(.v (.int Go.IntKind.i64 (x.w.reading i)))] [(.v (.int Go.IntKind.i64 (x.w.reading i)))]))) ∧ (((((x.mon.sees x.w.reading k).see (x.w.reading (↑k : Int).toNat)).lo) = ((x.mon.sees x.w.reading (k + (1 : Nat))).lo)) ∧ (((((x.mon.sees x.w.reading k).see (x.w.reading (↑k : Int).toNat)).hi) = ((x.mon.sees x.w.reading (k + (1 : Nat))).hi)) ∧ (((((x.mon.sees x.w.reading k).see (x.w.reading (↑k : Int).toNat)).step) = ((x.mon.sees x.w.reading (k + (1 : Nat))).step)) ∧ (((((x.mon.sees x.w.reading k).see (x.w.reading (↑k : Int).toNat)).err) = ((x.mon.sees x.w.reading (k + (1 : Nat))).err)) ∧ (((((x.mon.sees x.w.reading k).see (x.w.reading (↑k : Int).toNat)).least) = ((x.mon.sees x.w.reading (k + (1 : Nat))).least)) ∧ (((((x.mon.sees x.w.reading k).see (x.w.reading (↑k : Int).toNat)).most) = ((x.mon.sees x.w.reading (k + (1 : Nat))).most)) ∧ (((((x.mon.sees x.w.reading k).see (x.w.reading (↑k : Int).toNat)).stopped) = ((x.mon.sees x.w.reading (k + (1 : Nat))).stopped)) ∧ (The (k + (1 : Nat) < (F_need x).N))))))))))))))))))))) (Br (Decidable.decide (Go.IntKind.i64.wrap (((x.mon.sees x.w.reading k).see (x.w.reading (↑k : Int).toNat)).hi - ((x.mon.sees x.w.reading k).see (x.w.reading (↑k : Int).toNat)).lo) > (50 : Int))) False ((((Bool.true) = (Bool.true)) ∧ ((((0 : Nat)) = ((0 : Nat))) ∧ ((((0 : Nat)) = ((0 : Nat))) ∧ ((((↑k : Int)) = ((↑k : Int))) ∧ (((Bool.false) = (Bool.false)) ∧ (((((x.mon.sees x.w.reading k).see (x.w.reading (↑k : Int).toNat)).lo) = ((x.mon.sees x.w.reading (k + (1 : Nat))).lo + (↑(0 : Nat) : Int))) ∧ (((x.w.dLo) = (x.w.dLo)) ∧ (((x.w.dHi) = (x.w.dHi)) ∧ (((x.w.dStep) = (x.w.dStep)) ∧ (((x.w.dErr) = (x.w.dErr)) ∧ (((x.w.count + (1 : Nat)) = (x.w.count + (1 : Nat))) ∧ ((∀ i : Nat, ((i < x.w.count + (1 : Nat)) → (AVEqs [(.v (.int Go.IntKind.i64 (x.w.path i)))] [(.v (.int Go.IntKind.i64 (x.w.path i)))]))) ∧ (((x.w.count) = (x.w.count)) ∧ ((∀ i : Nat, ((i < x.w.count) → (AVEqs [(.v (.int Go.IntKind.i64 (x.w.reading i)))] [(.v (.int Go.IntKind.i64 (x.w.reading i)))]))) ∧ (((((x.mon.sees x.w.reading k).see (x.w.reading (↑k : Int).toNat)).lo) = ((x.mon.sees x.w.reading (k + (1 : Nat))).lo)) ∧ (((((x.mon.sees x.w.reading k).see (x.w.reading (↑k : Int).toNat)).hi) = ((x.mon.sees x.w.reading (k + (1 : Nat))).hi)) ∧ (((((x.mon.sees x.w.reading k).see (x.w.reading (↑k : Int).toNat)).step) = ((x.mon.sees x.w.reading (k + (1 : Nat))).step)) ∧ (((((x.mon.sees x.w.reading k).see (x.w.reading (↑k : Int).toNat)).err) = ((x.mon.sees x.w.reading (k + (1 : Nat))).err)) ∧ (((((x.mon.sees x.w.reading k).see (x.w.reading (↑k : Int).toNat)).least) = ((x.mon.sees x.w.reading (k + (1 : Nat))).least)) ∧ (((((x.mon.sees x.w.reading k).see (x.w.reading (↑k : Int).toNat)).most) = ((x.mon.sees x.w.reading (k + (1 : Nat))).most)) ∧ (((((x.mon.sees x.w.reading k).see (x.w.reading (↑k : Int).toNat)).stopped) = ((x.mon.sees x.w.reading (k + (1 : Nat))).stopped)) ∧ (The ((0 : Nat) < (F_find x k).N))))))))))))))))))))))) ∧ (Br (!(x.mon.sees x.w.reading (k + (1 : Nat))).fnd (x.mon.sees x.w.reading (k + (1 : Nat))).cnt) False (((Bool.true) = (Bool.true)) ∧ ((((0 : Nat)) = ((0 : Nat))) ∧ ((((0 : Nat)) = ((0 : Nat))) ∧ (((Go.IntKind.i64.wrap ((↑k : Int) + (1 : Int))) = ((↑(k + (1 : Nat)) : Int))) ∧ (((x.w.dLo) = (x.w.dLo)) ∧ (((x.w.dHi) = (x.w.dHi)) ∧ (((x.w.dStep) = (x.w.dStep)) ∧ (((x.w.dErr) = (x.w.dErr)) ∧ (((x.w.count + (1 : Nat)) = (x.w.count + (1 : Nat))) ∧ ((∀ i : Nat, ((i < x.w.count + (1 : Nat)) → (AVEqs [(.v (.int Go.IntKind.i64 (x.w.path i)))] [(.v (.int Go.IntKind.i64 (x.w.path i)))]))) ∧ (((x.w.count) = (x.w.count)) ∧ ((∀ i : Nat, ((i < x.w.count) → (AVEqs [(.v (.int Go.IntKind.i64 (x.w.reading i)))] [(.v (.int Go.IntKind.i64 (x.w.reading i)))]))) ∧ ((((x.mon.sees x.w.reading (k + (1 : Nat))).lo) = ((x.mon.sees x.w.reading (k + (1 : Nat))).lo)) ∧ ((((x.mon.sees x.w.reading (k + (1 : Nat))).hi) = ((x.mon.sees x.w.reading (k + (1 : Nat))).hi)) ∧ ((((x.mon.sees x.w.reading (k + (1 : Nat))).step) = ((x.mon.sees x.w.reading (k + (1 : Nat))).step)) ∧ ((((x.mon.sees x.w.reading (k + (1 : Nat))).err) = ((x.mon.sees x.w.reading (k + (1 : Nat))).err)) ∧ ((((x.mon.sees x.w.reading (k + (1 : Nat))).least) = ((x.mon.sees x.w.reading (k + (1 : Nat))).least)) ∧ ((((x.mon.sees x.w.reading (k + (1 : Nat))).most) = ((x.mon.sees x.w.reading (k + (1 : Nat))).most)) ∧ ((((x.mon.sees x.w.reading (k + (1 : Nat))).stopped) = ((x.mon.sees x.w.reading (k + (1 : Nat))).stopped)) ∧ (The (k + (1 : Nat) < (F_need x).N)))))))))))))))))))))))))))))))))) (((Bool.true) = (Bool.true)) ∧ (The ((F_need x).b = Bool.true)))) (((Bool.true) = (Bool.true)) ∧ (The ((F_need x).b = Bool.true))))) := by kernel_rfl

theorem lok_need (x : Raw45) (hyp : x.good) : LoopOk Try.prog (8, 6, (F_need x).go) := by
  refine lp_ok (F_need x) mix [c_See, c_Valid, c_Agrees] [] [] (by
    intro c hc
    simp only [List.mem_cons, List.not_mem_nil, or_false] at hc
    rcases hc with rfl | rfl | rfl
    · exact ok_See
    · exact ok_Valid
    · exact ok_Agrees
    ) (fuel := 10) (d := 6) (by kernel_rfl) fun k hk => ⟨[(8, 17, (F_find x k).go)], (by
    intro c hc
    simp only [List.mem_cons, List.not_mem_nil, or_false] at hc
    rcases hc with rfl
    · exact lok_find x k hyp
    ), ?_⟩
  refine (vl_need x k).mpr ?_
  have hk : k < lead x.nst x.w.count + 1 := hk
  have hl := lead_le x.nst x.w.count
  have hc := x.w.count_le
  have hall : ∀ i, i < k → x.nst i = true := fun i hi => lead_pass (n := x.w.count) (by omega)
  have hnk : x.nst k = !(x.mon.sees x.w.reading k).stopped := rfl
  have va := Mon.sees_valid (x.mon_valid hyp) x.w.reading k
  have ua := Mon.sees_valid (x.mon_valid hyp) x.w.reading (k + 1)
  have ur := ua.r
  have hsee : (x.mon.sees x.w.reading k).see (x.w.reading k) = x.mon.sees x.w.reading (k + 1) := rfl
  have hhot : k < x.w.count → (x.mon.sees x.w.reading k).stopped = false → (x.mon.sees x.w.reading k).agrees (x.w.reading k) = true → x.hot k = true := fun h1 h2 h3 => by
    have : lead x.nst (k + 1) = k + 1 := lead_all.mpr fun i hi => by
      by_cases e : i = k
      · rw [e, hnk, h2]; rfl
      · exact hall i (by omega)
    simp [Raw45.hot, h1, this, h3]
  have h50 : x.hot k = true → (x.mon.sees x.w.reading (k + 1)).hi - (x.mon.sees x.w.reading (k + 1)).lo ≤ 10 := fun h => (x.hot_sp hyp h).2.2.2
  have hf : x.hot k = true → (x.mon.sees x.w.reading (k + 1)).stopped = true → (x.mon.sees x.w.reading (k + 1)).fnd (x.mon.sees x.w.reading (k + 1)).cnt = true := fun h h' => Mon.fnd_all _ ua.ok.h2 (x.hot_inR h h')
  have hFN : x.hot k = true → 0 < (F_find x k).N := fun h => by
    show 0 < if x.hot k = true then _ else _
    rw [if_pos h]; omega
  have hgo : k < x.w.count → (x.mon.sees x.w.reading k).stopped = false → k + 1 < (F_need x).N := fun h1 h2 => by
    have := (lead_step (c := x.nst) (n := x.w.count) (k := k) (by omega) h1).1 (by rw [hnk, h2]; rfl)
    show k + 1 < lead x.nst x.w.count + 1
    omega
  have i1 : (k : Int).toNat = k := rfl
  obtain ⟨v1, v2, v3, v4, v5, v6, v7, v8, v9, v10⟩ := ua.ok
  simp only [i1, hsee]
  clear hsee
  generalize x.mon.sees x.w.reading k = m at *
  generalize x.mon.sees x.w.reading (k + 1) = m' at *
  simp (disch := omega) only [w64_in]
  repeat' (first | exact trivial | refine Br.intro (fun _ => ?_) (fun _ => ?_) | refine And.intro ?_ ?_)
  all_goals first | exact va.ok | exact ua.ok | exact fun _ _ => .refl _ | exact fun _ _ => rfl | omega | rfl | exact ⟨rfl⟩ | skip
  all_goals first | (refine ⟨hgo ?_ ?_⟩) | (refine ⟨hFN (hhot ?_ ?_ ?_)⟩) | skip
  all_goals grind
def g_Needed : List AV → Option (Prop × AV)
  | [.agg [.v (.int .u8 x_0), .v (.int .u8 x_1), .v (.int .u8 x_2), .v (.int .u8 x_3), .rs 1 x_4 x_5 x_6, .v (.int .u8 x_7), .v (.int .u8 x_8)]] => some ((∀ i, i < x_4 → x_6 i = [.v (.int .u8 (intAt (x_6 i)))]) ∧ ((⟨⟨x_0, x_1, x_2, x_3, x_4, fun i => intAt (x_6 i)⟩, x_7, x_8⟩ : Raw45).good), .v (.bool true))
  | _ => none
theorem g_Needed_of {args : List AV} {p : Prop} {v : AV} (h : g_Needed  args = some (p, v)) : ∃ x_0 x_1 x_2 x_3 x_4 x_5 x_6 x_7 x_8, args = [.agg [.v (.int .u8 x_0), .v (.int .u8 x_1), .v (.int .u8 x_2), .v (.int .u8 x_3), .rs 1 x_4 x_5 x_6, .v (.int .u8 x_7), .v (.int .u8 x_8)]] ∧ p = ((∀ i, i < x_4 → x_6 i = [.v (.int .u8 (intAt (x_6 i)))]) ∧ ((⟨⟨x_0, x_1, x_2, x_3, x_4, fun i => intAt (x_6 i)⟩, x_7, x_8⟩ : Raw45).good)) ∧ v = .v (.bool true) := by
  unfold g_Needed at h
  split at h
  · cases h; exact ⟨_, _, _, _, _, _, _, _, _, rfl, rfl, rfl⟩
  · cases h
set_option maxRecDepth 100000 in
theorem vc_Needed (x : Raw45) : (callN Try.prog (mkCfg Try.prog [c_examples, c_Made44, c_Made45] [8] [(8, 6, (F_need x).go)] []) 10 6 8 [x.av] [] 0 (Reads (.v (.bool true)))) =
    ((True ∧ (((∀ i : Nat, ((i < x.w.n) → (([(.v (.int Go.IntKind.u8 (x.w.b i)))] : List AV) = [(.v (.int Go.IntKind.u8 (x.w.b i)))]))) ∧ (x.w.good)) ∧ (((∀ i : Nat, ((i < x.w.n) → (([(.v (.int Go.IntKind.u8 (x.w.b i)))] : List AV) = [(.v (.int Go.IntKind.u8 (x.w.b i)))]))) ∧ (x.good)) ∧ ((((Bool.true) = (Bool.true)) ∧ ((((0 : Nat)) = ((0 : Nat))) ∧ ((((0 : Nat)) = ((0 : Nat))) ∧ ((((0 : Int)) = ((↑(0 : Nat) : Int))) ∧ (((x.w.dLo) = (x.w.dLo)) ∧ (((x.w.dHi) = (x.w.dHi)) ∧ (((x.w.dStep) = (x.w.dStep)) ∧ (((x.w.dErr) = (x.w.dErr)) ∧ (((x.w.count + (1 : Nat)) = (x.w.count + (1 : Nat))) ∧ ((∀ i : Nat, ((i < x.w.count + (1 : Nat)) → (AVEqs [(.v (.int Go.IntKind.i64 (x.w.path i)))] [(.v (.int Go.IntKind.i64 (x.w.path i)))]))) ∧ (((x.w.count) = (x.w.count)) ∧ ((∀ i : Nat, ((i < x.w.count) → (AVEqs [(.v (.int Go.IntKind.i64 (x.w.reading i)))] [(.v (.int Go.IntKind.i64 (x.w.reading i)))]))) ∧ (((x.mon.lo) = ((x.mon.sees x.w.reading (0 : Nat)).lo)) ∧ (((x.mon.hi) = ((x.mon.sees x.w.reading (0 : Nat)).hi)) ∧ (((x.mon.step) = ((x.mon.sees x.w.reading (0 : Nat)).step)) ∧ (((x.mon.err) = ((x.mon.sees x.w.reading (0 : Nat)).err)) ∧ (((x.mon.least) = ((x.mon.sees x.w.reading (0 : Nat)).least)) ∧ (((x.mon.most) = ((x.mon.sees x.w.reading (0 : Nat)).most)) ∧ (((x.mon.stopped) = ((x.mon.sees x.w.reading (0 : Nat)).stopped)) ∧ (The ((0 : Nat) < (F_need x).N))))))))))))))))))))) ∧ (((Bool.true) = (Bool.true)) ∧ True)))))) := by kernel_rfl

def c_Needed : Ctr := ⟨8, g_Needed ⟩
theorem ok_Needed : CtrOk Try.prog (c_Needed ) := by
  refine ctr_of'' mix [c_examples,  c_Made44,  c_Made45] [8] [] (by
    intro c hc
    simp only [List.mem_cons, List.not_mem_nil, or_false] at hc
    rcases hc with rfl | rfl | rfl
    · exact ok_examples
    · exact ok_Made44
    · exact ok_Made45
    ) (fuel := 10) (d := 6) ⟨_, Try.func8, by kernel_rfl, by kernel_rfl⟩ fun args p v h hp => ?_
  obtain ⟨x_0, x_1, x_2, x_3, x_4, x_5, x_6, x_7, x_8, rfl, rfl, rfl⟩ := g_Needed_of  h
  obtain ⟨e_0, hp⟩ := hp
  refine ⟨[(⟨⟨x_0, x_1, x_2, x_3, x_4, fun i => intAt (x_6 i)⟩, x_7, x_8⟩ : Raw45).av], (.cons _ _ _ _ (Raw45.eqv e_0) .nil), ?_⟩
  generalize hx_x : (⟨⟨x_0, x_1, x_2, x_3, x_4, fun i => intAt (x_6 i)⟩, x_7, x_8⟩ : Raw45) = x at *
  clear h
  clear hx_x
  refine ⟨[(8, 6, (F_need x).go)], (by
    intro c hc
    simp only [List.mem_cons, List.not_mem_nil, or_false] at hc
    rcases hc with rfl
    · exact lok_need x hp
    ), ?_⟩
  refine (vc_Needed  x).mpr ?_
  have i2 : 0 < (F_need x).N := by show 0 < lead x.nst x.w.count + 1; omega
  repeat' (first | exact trivial | refine Br.intro (fun _ => ?_) (fun _ => ?_) | refine And.intro ?_ ?_)
  all_goals first | exact hp | exact hp.w | exact fun _ _ => .refl _ | exact fun _ _ => rfl | omega | rfl | exact ⟨i2⟩ | exact ⟨rfl⟩
end Go.Proofs.Ytlofmgdjnaajjaa
