/- Own text: the law MonitorSafe. -/
import Derived.Test.YtlofmgdjnaajjaaLb
import Derived.Test.YtlofmgdjnaajjaaDr
namespace Go.Proofs.Ytlofmgdjnaajjaa
open Go Go.Ev Go.Proofs
set_option linter.unusedVariables false
set_option linter.unusedSimpArgs false
attribute [local irreducible] Go.Ev.callN Go.Ev.codeE
namespace Raw44
def dr (x : Raw44) : Dr := ⟨x.dLo, x.dHi, x.dStep, x.dErr⟩
theorem dr_ok (x : Raw44) (h : x.good) : x.dr.ok := by
  have h1 := x.dLo_in h
  have h2 := x.dHi_in h
  have h3 := x.dStep_in h
  have h4 := x.dErr_in h
  constructor <;> simp only [dr] <;> omega
theorem chk (x : Raw44) (h : x.good) : ∀ i, chkP x.dr x.reading x.path i = true
  | 0 => by
    have h1 := x.start_in h
    simp only [chkP, Bool.and_eq_true, decide_eq_true_eq]; exact h1
  | i + 1 => by
    have h1 := x.path_in h i
    have h2 := Raw44.mod_le (x.b (2 * i)) (2 * x.dStep + 1) (by have := x.dStep_in h; omega)
    have h3 := Raw44.mod_le (x.b (2 * i + 1)) (2 * x.dErr + 1) (by have := x.dErr_in h; omega)
    have h4 := x.dStep_in h
    have h5 := x.dErr_in h
    simp only [chkP, Bool.and_eq_true, decide_eq_true_eq]
    simp only [path, dr, reading]
    generalize x.path i = p at *
    generalize x.b (2 * i) % (2 * x.dStep + 1) = c1 at *
    generalize x.b (2 * i + 1) % (2 * x.dErr + 1) = c2 at *
    omega
theorem poss (x : Raw44) (h : x.good) : possB x.dr ⟨x.count, x.reading⟩ ⟨x.count + 1, x.path⟩ = true := by
  simp only [possB, Bool.and_eq_true, decide_eq_true_eq]
  exact ⟨trivial, lead_all.mpr fun i _ => x.chk h i⟩
end Raw44
def missed (z : Int) (k : Nat) : Bool := Go.Ev.intBitsV Go.BinOp.and Go.IntKind.u16 (z.fdiv ((2 : Int) ^ Min.min (Go.IntKind.u64.wrap ((k : Int).tmod (16 : Int))).toNat Go.IntKind.u16.bits)) (1 : Int) == (1 : Int)
namespace Raw45
/-- The monitor behind the first readings, of which some are missing. -/
def safe (x : Raw45) (z : Int) : Nat → Mon
  | 0 => x.mon
  | k + 1 => if missed z k then (x.safe z k).miss else (x.safe z k).see (x.w.reading k)
structure safeAt (x : Raw45) (m : Mon) (k : Nat) : Prop where
  v : m.valid
  s : m.step = x.w.dStep
  e : m.err = x.w.dErr
  p : m.stopped = false → m.lo ≤ x.w.path k ∧ x.w.path k ≤ m.hi
theorem read_in (x : Raw45) (h : x.good) (k : Nat) : x.w.path (k + 1) - x.w.dErr ≤ x.w.reading k ∧ x.w.reading k ≤ x.w.path (k + 1) + x.w.dErr ∧ max 1 (x.w.path k - x.w.dStep) ≤ x.w.path (k + 1) ∧ x.w.path (k + 1) ≤ x.w.path k + x.w.dStep := by
  have h1 := x.w.path_in h.w k
  have h2 := Raw44.mod_le (x.w.b (2 * k)) (2 * x.w.dStep + 1) (by have := x.w.dStep_in h.w; omega)
  have h3 := Raw44.mod_le (x.w.b (2 * k + 1)) (2 * x.w.dErr + 1) (by have := x.w.dErr_in h.w; omega)
  have h4 := x.w.dStep_in h.w
  simp only [Raw44.path, Raw44.reading]
  omega
theorem safe_agrees (x : Raw45) (h : x.good) {m : Mon} {k : Nat} (a : x.safeAt m k) (hs : m.stopped = false) : m.agrees (x.w.reading k) = true := by
  have h1 := x.read_in h k
  have h2 := a.p hs
  have h3 := Mon.running a.v hs
  have h4 := x.w.dErr_in h.w
  have h5 := x.w.path_in h.w k
  have h6 := a.s
  have h7 := a.e
  simp only [Mon.agrees, Bool.and_eq_true, decide_eq_true_eq]
  simp only [Mon.sLo, Mon.sHi, Mon.oLo, Mon.oHi] at h3 ⊢
  rw [h6] at h3 ⊢
  rw [h7]
  omega
theorem safe_see (x : Raw45) (h : x.good) {m : Mon} {k : Nat} (a : x.safeAt m k) : x.safeAt (m.see (x.w.reading k)) (k + 1) := by
  refine ⟨Mon.see_valid a.v _, ?_, ?_, ?_⟩
  · have := a.s; grind [Mon.see, Mon.upd]
  · have := a.e; grind [Mon.see, Mon.upd]
  · intro hs
    cases hm : m.stopped with
    | true => simp [Mon.see, hm] at hs
    | false =>
      have h1 := x.read_in h k
      have h2 := a.p hm
      have h6 := x.safe_agrees h a hm
      have := a.s
      have := a.e
      simp only [Mon.see, hm, h6, if_true, Bool.false_eq_true, if_false, Mon.upd, Mon.sLo, Mon.sHi, Mon.oLo, Mon.oHi]
      omega
theorem safe_miss (x : Raw45) (h : x.good) {m : Mon} {k : Nat} (a : x.safeAt m k) : x.safeAt m.miss (k + 1) := by
  refine ⟨Mon.miss_valid a.v, ?_, ?_, ?_⟩
  · have := a.s; unfold Mon.miss; split <;> exact this
  · have := a.e; unfold Mon.miss; split <;> exact this
  · intro hs
    cases hm : m.stopped with
    | true => simp [Mon.miss, hm] at hs
    | false =>
      have h1 := x.read_in h k
      have h2 := a.p hm
      have := a.s
      have := a.e
      simp only [Mon.miss, hm, Bool.false_eq_true, if_false, Mon.upd, Mon.oLo, Mon.oHi]
      omega
theorem safe_at (x : Raw45) (h : x.good) (z : Int) : ∀ k, x.safeAt (x.safe z k) k
  | 0 => ⟨x.mon_valid h, rfl, rfl, fun _ => x.w.start_in h.w⟩
  | k + 1 => by
    simp only [safe]
    split
    · exact x.safe_miss h (x.safe_at h z k)
    · exact x.safe_see h (x.safe_at h z k)
end Raw45
abbrev wcells (x : Raw44) : Blk := .cells [.v (.int .i64 x.dLo), .v (.int .i64 x.dHi), .v (.int .i64 x.dStep), .v (.int .i64 x.dErr), ints (x.count + 1) x.path, ints x.count x.reading]
def F_safe (x : Raw45) (z : Int) : Lp where
  m := 0
  I := fun k => { env := [(1, .v (.int .u16 z)), (5, .v (.bool true)), (6, .ptr 1 0), (7, .ptr 2 0), (8, .v (.int .i64 (k : Int)))]
                  heap := [(1, some (wcells x.w)), (2, some (.cells (x.safe z k).cs))]
                  next := 3 }
  N := x.w.count + 1
  r := fun s n => n
  b := true
  e1 := .ret
  s1 := { env := [(4, .v (.bool true))], heap := [], next := 3 }
  e2 := .exit 999
  s2 := { env := [], heap := [], next := 0 }
set_option maxRecDepth 100000 in
theorem vl_safe (x : Raw45) (z : Int) (k : Nat) : (codeE Try.prog (callN Try.prog (mkCfg Try.prog [c_See, c_Valid, c_Agrees, c_Miss] [] [] []) 10 6) (mkCfg Try.prog [c_See, c_Valid, c_Agrees, c_Miss] [] [] []) 6 10 (F_safe x z).m (loopB Try.prog 6 8) ((F_safe x z).I k) ((F_safe x z).nxt k)) =
    ((Br (Decidable.decide ((↑k : Int) < (↑(x.w.count + (1 : Nat)) : Int))) (((0 : Int) ≤ (↑k : Int)) ∧ (((↑k : Int) < (↑(x.w.count + (1 : Nat)) : Int)) ∧ (Br (!(x.safe z k).stopped) (Br (Decidable.decide (x.w.path (↑k : Int).toNat < (x.safe z k).least)) (((Bool.false) = (Bool.true)) ∧ (The ((F_safe x z).b = Bool.true))) (Br (Decidable.decide (Go.IntKind.i64.wrap (x.w.path (↑k : Int).toNat + (x.safe z k).step) > (x.safe z k).most)) (((Bool.false) = (Bool.true)) ∧ (The ((F_safe x z).b = Bool.true))) (Br (Decidable.decide (Max.max (1 : Int) (Go.IntKind.i64.wrap (x.w.path (↑k : Int).toNat - (x.safe z k).step)) < (x.safe z k).least)) (((Bool.false) = (Bool.true)) ∧ (The ((F_safe x z).b = Bool.true))) (Br (Decidable.decide (x.w.path (↑k : Int).toNat < (x.safe z k).lo)) (((Bool.false) = (Bool.true)) ∧ (The ((F_safe x z).b = Bool.true))) (Br (Decidable.decide (x.w.path (↑k : Int).toNat > (x.safe z k).hi)) (((Bool.false) = (Bool.true)) ∧ (The ((F_safe x z).b = Bool.true))) (Br ((↑k : Int) == (↑x.w.count : Int)) (((Bool.true) = (Bool.true)) ∧ (The ((F_safe x z).b = Bool.true))) (((0 : Int) ≤ (↑k : Int)) ∧ (((↑k : Int) < (↑x.w.count : Int)) ∧ (((x.safe z k).ok) ∧ (((((16 : Int)) = ((0 : Int))) → False) ∧ (((0 : Int) ≤ Go.IntKind.u64.wrap ((↑k : Int).tmod (16 : Int))) ∧ (Br (intBitsV Go.BinOp.and Go.IntKind.u16 (z.fdiv ((2 : Int) ^ Min.min (Go.IntKind.u64.wrap ((↑k : Int).tmod (16 : Int))).toNat Go.IntKind.u16.bits)) (1 : Int) == (1 : Int)) (((x.safe z k).ok) ∧ (((x.safe z k).miss.ok) ∧ (Br (!((x.safe z k).miss.stopped || (x.safe z k).miss.inR)) (((Bool.false) = (Bool.true)) ∧ (The ((F_safe x z).b = Bool.true))) (Br ((x.safe z k).stopped) (Br (!((x.safe z k).miss.lo == (x.safe z k).lo && ((x.safe z k).miss.hi == (x.safe z k).hi && ((x.safe z k).miss.step == (x.safe z k).step && ((x.safe z k).miss.err == (x.safe z k).err && ((x.safe z k).miss.least == (x.safe z k).least && ((x.safe z k).miss.most == (x.safe z k).most && ((x.safe z k).miss.stopped == (x.safe z k).stopped && Bool.true)))))))) (((Bool.false) = (Bool.true)) ∧ (The ((F_safe x z).b = Bool.true))) (((z) = (z)) ∧ (((Bool.true) = (Bool.true)) ∧ ((((0 : Nat)) = ((0 : Nat))) ∧ ((((0 : Nat)) = ((0 : Nat))) ∧ (((Go.IntKind.i64.wrap ((↑k : Int) + (1 : Int))) = ((↑(k + (1 : Nat)) : Int))) ∧ (((x.w.dLo) = (x.w.dLo)) ∧ (((x.w.dHi) = (x.w.dHi)) ∧ (((x.w.dStep) = (x.w.dStep)) ∧ (((x.w.dErr) = (x.w.dErr)) ∧ (((x.w.count + (1 : Nat)) = (x.w.count + (1 : Nat))) ∧ ((∀ i : Nat, ((i < x.w.count + (1 : Nat)) → (AVEqs [(.v (.int Go.IntKind.i64 (x.w.path i)))] [(.v (.int Go.IntKind.i64 (x.w.path i)))]))) ∧ (((x.w.count) = (x.w.count)) ∧ ((∀ i : Nat, ((i < x.w.count) → (AVEqs [(.v (.int Go.IntKind.i64 (x.w.reading i)))] [(.v (.int Go.IntKind.i64 (x.w.reading i)))]))) ∧ ((((x.safe z k).miss.lo) = ((x.safe z (k + (1 : Nat))).lo)) ∧ ((((x.safe z k).miss.hi) = ((x.safe z (k + (1 : Nat))).hi)) ∧ ((((x.safe z k).miss.step) = ((x.safe z (k + (1 : Nat))).step)) ∧ ((((x.safe z k).miss.err) = ((x.safe z (k + (1 : Nat))).err)) ∧ ((((x.safe z k).miss.least) = ((x.safe z (k + (1 : Nat))).least)) ∧ ((((x.safe z k).miss.most) = ((x.safe z (k + (1 : Nat))).most)) ∧ ((((x.safe z k).miss.stopped) = ((x.safe z (k + (1 : Nat))).stopped)) ∧ (The (k + (1 : Nat) < (F_safe x z).N))))))))))))))))))))))) (((z) = (z)) ∧ (((Bool.true) = (Bool.true)) ∧ ((((0 : Nat)) = ((0 : Nat))) ∧ ((((0 : Nat)) = ((0 : Nat))) ∧ (((Go.IntKind.i64.wrap ((↑k : Int) + (1 : Int))) = ((↑(k + (1 : Nat)) : Int))) ∧ (((x.w.dLo) = (x.w.dLo)) ∧ (((x.w.dHi) = (x.w.dHi)) ∧ (((x.w.dStep) = (x.w.dStep)) ∧ (((x.w.dErr) = (x.w.dErr)) ∧ (((x.w.count + (1 : Nat)) = (x.w.count + (1 : Nat))) ∧ ((∀ i : Nat, ((i < x.w.count + (1 : Nat)) → (AVEqs [(.v (.int Go.IntKind.i64 (x.w.path i)))] [(.v (.int Go.IntKind.i64 (x.w.path i)))]))) ∧ (((x.w.count) = (x.w.count)) ∧ ((∀ i : Nat, ((i < x.w.count) → (AVEqs [(.v (.int Go.IntKind.i64 (x.w.reading i)))] [(.v (.int Go.IntKind.i64 (x.w.reading i)))]))) ∧ ((((x.safe z k).miss.lo) = ((x.safe z (k + (1 : Nat))).lo)) ∧ ((((x.safe z k).miss.hi) = ((x.safe z (k + (1 : Nat))).hi)) ∧ ((((x.safe z k).miss.step) = ((x.safe z (k + (1 : Nat))).step)) ∧ ((((x.safe z k).miss.err) = ((x.safe z (k + (1 : Nat))).err)) ∧ ((((x.safe z k).miss.least) = ((x.safe z (k + (1 : Nat))).least)) ∧ ((((x.safe z k).miss.most) = ((x.safe z (k + (1 : Nat))).most)) ∧ ((((x.safe z k).miss.stopped) = ((x.safe z (k + (1 : Nat))).stopped)) ∧ (The (k + (1 : Nat) < (F_safe x z).N)))))))))))))))))))))))))) (((0 : Int) ≤ (↑k : Int)) ∧ (((↑k : Int) < (↑x.w.count : Int)) ∧ (((x.safe z k).ok) ∧ (Br (!(x.safe z k).agrees (x.w.reading (↑k : Int).toNat)) (Br (!(x.safe z k).stopped) (((Bool.false) = (Bool.true)) ∧ (The ((F_safe x z).b = Bool.true))) ((((x.safe z k).see (x.w.reading (↑k : Int).toNat)).ok) ∧ (Br (!(((x.safe z k).see (x.w.reading (↑k : Int).toNat)).stopped || ((x.safe z k).see (x.w.reading (↑k : Int).toNat)).inR)) (((Bool.false) = (Bool.true)) ∧ (The ((F_safe x z).b = Bool.true))) (Br ((x.safe z k).stopped) (Br (!(((x.safe z k).see (x.w.reading (↑k : Int).toNat)).lo == (x.safe z k).lo && (((x.safe z k).see (x.w.reading (↑k : Int).toNat)).hi == (x.safe z k).hi && (((x.safe z k).see (x.w.reading (↑k : Int).toNat)).step == (x.safe z k).step && (((x.safe z k).see (x.w.reading (↑k : Int).toNat)).err == (x.safe z k).err && (((x.safe z k).see (x.w.reading (↑k : Int).toNat)).least == (x.safe z k).least && (((x.safe z k).see (x.w.reading (↑k : Int).toNat)).most == (x.safe z k).most && (((x.safe z k).see (x.w.reading (↑k : Int).toNat)).stopped == (x.safe z k).stopped && Bool.true)))))))) (((Bool.false) = (Bool.true)) ∧ (The ((F_safe x z).b = Bool.true))) (((z) = (z)) ∧ (((Bool.true) = (Bool.true)) ∧ ((((0 : Nat)) = ((0 : Nat))) ∧ ((((0 : Nat)) = ((0 : Nat))) ∧ (((Go.IntKind.i64.wrap ((↑k : Int) + (1 : Int))) = ((↑(k + (1 : Nat)) : Int))) ∧ (((x.w.dLo) = (x.w.dLo)) ∧ (((x.w.dHi) = (x.w.dHi)) ∧ (((x.w.dStep) = (x.w.dStep)) ∧ (((x.w.dErr) = (x.w.dErr)) ∧ (((x.w.count + (1 : Nat)) = (x.w.count + (1 : Nat))) ∧ ((∀ i : Nat, ((i < x.w.count + (1 : Nat)) → (AVEqs [(.v (.int Go.IntKind.i64 (x.w.path i)))] [(.v (.int Go.IntKind.i64 (x.w.path i)))]))) ∧ (((x.w.count) = (x.w.count)) ∧ ((∀ i : Nat, ((i < x.w.count) → (AVEqs [(.v (.int Go.IntKind.i64 (x.w.reading i)))] [(.v (.int Go.IntKind.i64 (x.w.reading i)))]))) ∧ (((((x.safe z k).see (x.w.reading (↑k : Int).toNat)).lo) = ((x.safe z (k + (1 : Nat))).lo)) ∧ (((((x.safe z k).see (x.w.reading (↑k : Int).toNat)).hi) = ((x.safe z (k + (1 : Nat))).hi)) ∧ (((((x.safe z k).see (x.w.reading (↑k : Int).toNat)).step) = ((x.safe z (k + (1 : Nat))).step)) ∧ (((((x.safe z k).see (x.w.reading (↑k : Int).toNat)).err) = ((x.safe z (k + (1 : Nat))).err)) ∧ (((((x.safe z k).see (x.w.reading (↑k : Int).toNat)).least) = ((x.safe z (k + (1 : Nat))).least)) ∧ (((((x.safe z k).see (x.w.reading (↑k : Int).toNat)).most) = ((x.safe z (k + (1 : Nat))).most)) ∧ (((((x.safe z k).see (x.w.reading (↑k : Int).toNat)).stopped) = ((x.safe z (k + (1 : Nat))).stopped)) ∧ (The (k + (1 : Nat) < (F_safe x z).N))))))))))))))))))))))) (((z) = (z)) ∧ (((Bool.true) = (Bool.true)) ∧ ((((0 : Nat)) = ((0 : Nat))) ∧ ((((0 : Nat)) = ((0 : Nat))) ∧ (((Go.IntKind.i64.wrap ((↑k : Int) + (1 : Int))) = ((↑(k + (1 : Nat)) : Int))) ∧ (((x.w.dLo) = (x.w.dLo)) ∧ (((x.w.dHi) = (x.w.dHi)) ∧ (((x.w.dStep) = (x.w.dStep)) ∧ (((x.w.dErr) = (x.w.dErr)) ∧ (((x.w.count + (1 : Nat)) = (x.w.count + (1 : Nat))) ∧ ((∀ i : Nat, ((i < x.w.count + (1 : Nat)) → (AVEqs [(.v (.int Go.IntKind.i64 (x.w.path i)))] [(.v (.int Go.IntKind.i64 (x.w.path i)))]))) ∧ (((x.w.count) = (x.w.count)) ∧ ((∀ i : Nat, ((i < x.w.count) → (AVEqs [(.v (.int Go.IntKind.i64 (x.w.reading i)))] [(.v (.int Go.IntKind.i64 (x.w.reading i)))]))) ∧ (((((x.safe z k).see (x.w.reading (↑k : Int).toNat)).lo) = ((x.safe z (k + (1 : Nat))).lo)) ∧ (((((x.safe z k).see (x.w.reading (↑k : Int).toNat)).hi) = ((x.safe z (k + (1 : Nat))).hi)) ∧ (((((x.safe z k).see (x.w.reading (↑k : Int).toNat)).step) = ((x.safe z (k + (1 : Nat))).step)) ∧ (((((x.safe z k).see (x.w.reading (↑k : Int).toNat)).err) = ((x.safe z (k + (1 : Nat))).err)) ∧ (((((x.safe z k).see (x.w.reading (↑k : Int).toNat)).least) = ((x.safe z (k + (1 : Nat))).least)) ∧ (((((x.safe z k).see (x.w.reading (↑k : Int).toNat)).most) = ((x.safe z (k + (1 : Nat))).most)) ∧ (((((x.safe z k).see (x.w.reading (↑k : Int).toNat)).stopped) = ((x.safe z (k + (1 : Nat))).stopped)) ∧ (The (k + (1 : Nat) < (F_safe x z).N)))))))))))))))))))))))))) ((((x.safe z k).see (x.w.reading (↑k : Int).toNat)).ok) ∧ (Br (!(((x.safe z k).see (x.w.reading (↑k : Int).toNat)).stopped || ((x.safe z k).see (x.w.reading (↑k : Int).toNat)).inR)) (((Bool.false) = (Bool.true)) ∧ (The ((F_safe x z).b = Bool.true))) (Br ((x.safe z k).stopped) (Br (!(((x.safe z k).see (x.w.reading (↑k : Int).toNat)).lo == (x.safe z k).lo && (((x.safe z k).see (x.w.reading (↑k : Int).toNat)).hi == (x.safe z k).hi && (((x.safe z k).see (x.w.reading (↑k : Int).toNat)).step == (x.safe z k).step && (((x.safe z k).see (x.w.reading (↑k : Int).toNat)).err == (x.safe z k).err && (((x.safe z k).see (x.w.reading (↑k : Int).toNat)).least == (x.safe z k).least && (((x.safe z k).see (x.w.reading (↑k : Int).toNat)).most == (x.safe z k).most && (((x.safe z k).see (x.w.reading (↑k : Int).toNat)).stopped == (x.safe z k).stopped && Bool.true)))))))) (((Bool.false) = (Bool.true)) ∧ (The ((F_safe x z).b = Bool.true))) (((z) = (z)) ∧ (((Bool.true) = (Bool.true)) ∧ ((((0 : Nat)) = ((0 : Nat))) ∧ ((((0 : Nat)) = ((0 : Nat))) ∧ (((Go.IntKind.i64.wrap ((↑k : Int) + (1 : Int))) = ((↑(k + (1 : Nat)) : Int))) ∧ (((x.w.dLo) = (x.w.dLo)) ∧ (((x.w.dHi) = (x.w.dHi)) ∧ (((x.w.dStep) = (x.w.dStep)) ∧ (((x.w.dErr) = (x.w.dErr)) ∧ (((x.w.count + (1 : Nat)) = (x.w.count + (1 : Nat))) ∧ ((∀ i : Nat, ((i < x.w.count + (1 : Nat)) → (AVEqs [(.v (.int Go.IntKind.i64 (x.w.path i)))] [(.v (.int Go.IntKind.i64 (x.w.path i)))]))) ∧ (((x.w.count) = (x.w.count)) ∧ ((∀ i : Nat, ((i < x.w.count) → (AVEqs [(.v (.int Go.IntKind.i64 (x.w.reading i)))] [(.v (.int Go.IntKind.i64 (x.w.reading i)))]))) ∧ (((((x.safe z k).see (x.w.reading (↑k : Int).toNat)).lo) = ((x.safe z (k + (1 : Nat))).lo)) ∧ (((((x.safe z k).see (x.w.reading (↑k : Int).toNat)).hi) = ((x.safe z (k + (1 : Nat))).hi)) ∧ (((((x.safe z k).see (x.w.reading (↑k : Int).toNat)).step) = ((x.safe z (k + (1 : Nat))).step)) ∧ (((((x.safe z k).see (x.w.reading (↑k : Int).toNat)).err) = ((x.safe z (k + (1 : Nat))).err)) ∧ (((((x.safe z k).see (x.w.reading (↑k : Int).toNat)).least) = ((x.safe z (k + (1 : Nat))).least)) ∧ (((((x.safe z k).see (x.w.reading (↑k : Int).toNat)).most) = ((x.safe z (k + (1 : Nat))).most)) ∧ (((((x.safe z k).see (x.w.reading (↑k : Int).toNat)).stopped) = ((x.safe z (k + (1 : Nat))).stopped)) ∧ (The (k + (1 : Nat) < (F_safe x z).N))))))))))))))))))))))) (((z) = (z)) ∧ (((Bool.true) = (Bool.true)) ∧ ((((0 : Nat)) = ((0 : Nat))) ∧ ((((0 : Nat)) = ((0 : Nat))) ∧ (((Go.IntKind.i64.wrap ((↑k : Int) + (1 : Int))) = ((↑(k + (1 : Nat)) : Int))) ∧ (((x.w.dLo) = (x.w.dLo)) ∧ (((x.w.dHi) = (x.w.dHi)) ∧ (((x.w.dStep) = (x.w.dStep)) ∧ (((x.w.dErr) = (x.w.dErr)) ∧ (((x.w.count + (1 : Nat)) = (x.w.count + (1 : Nat))) ∧ ((∀ i : Nat, ((i < x.w.count + (1 : Nat)) → (AVEqs [(.v (.int Go.IntKind.i64 (x.w.path i)))] [(.v (.int Go.IntKind.i64 (x.w.path i)))]))) ∧ (((x.w.count) = (x.w.count)) ∧ ((∀ i : Nat, ((i < x.w.count) → (AVEqs [(.v (.int Go.IntKind.i64 (x.w.reading i)))] [(.v (.int Go.IntKind.i64 (x.w.reading i)))]))) ∧ (((((x.safe z k).see (x.w.reading (↑k : Int).toNat)).lo) = ((x.safe z (k + (1 : Nat))).lo)) ∧ (((((x.safe z k).see (x.w.reading (↑k : Int).toNat)).hi) = ((x.safe z (k + (1 : Nat))).hi)) ∧ (((((x.safe z k).see (x.w.reading (↑k : Int).toNat)).step) = ((x.safe z (k + (1 : Nat))).step)) ∧ (((((x.safe z k).see (x.w.reading (↑k : Int).toNat)).err) = ((x.safe z (k + (1 : Nat))).err)) ∧ (((((x.safe z k).see (x.w.reading (↑k : Int).toNat)).least) = ((x.safe z (k + (1 : Nat))).least)) ∧ (((((x.safe z k).see (x.w.reading (↑k : Int).toNat)).most) = ((x.safe z (k + (1 : Nat))).most)) ∧ (((((x.safe z k).see (x.w.reading (↑k : Int).toNat)).stopped) = ((x.safe z (k + (1 : Nat))).stopped)) ∧ (The (k + (1 : Nat) < (F_safe x z).N))))))))))))))))))))))))))))))))))))))))) (Br ((↑k : Int) == (↑x.w.count : Int)) (((Bool.true) = (Bool.true)) ∧ (The ((F_safe x z).b = Bool.true))) (((0 : Int) ≤ (↑k : Int)) ∧ (((↑k : Int) < (↑x.w.count : Int)) ∧ (((x.safe z k).ok) ∧ (((((16 : Int)) = ((0 : Int))) → False) ∧ (((0 : Int) ≤ Go.IntKind.u64.wrap ((↑k : Int).tmod (16 : Int))) ∧ (Br (intBitsV Go.BinOp.and Go.IntKind.u16 (z.fdiv ((2 : Int) ^ Min.min (Go.IntKind.u64.wrap ((↑k : Int).tmod (16 : Int))).toNat Go.IntKind.u16.bits)) (1 : Int) == (1 : Int)) (((x.safe z k).ok) ∧ (((x.safe z k).miss.ok) ∧ (Br (!((x.safe z k).miss.stopped || (x.safe z k).miss.inR)) (((Bool.false) = (Bool.true)) ∧ (The ((F_safe x z).b = Bool.true))) (Br ((x.safe z k).stopped) (Br (!((x.safe z k).miss.lo == (x.safe z k).lo && ((x.safe z k).miss.hi == (x.safe z k).hi && ((x.safe z k).miss.step == (x.safe z k).step && ((x.safe z k).miss.err == (x.safe z k).err && ((x.safe z k).miss.least == (x.safe z k).least && ((x.safe z k).miss.most == (x.safe z k).most && ((x.safe z k).miss.stopped == (x.safe z k).stopped && Bool.true)))))))) (((Bool.false) = (Bool.true)) ∧ (The ((F_safe x z).b = Bool.true))) (((z) = (z)) ∧ (((Bool.true) = (Bool.true)) ∧ ((((0 : Nat)) = ((0 : Nat))) ∧ ((((0 : Nat)) = ((0 : Nat))) ∧ (((Go.IntKind.i64.wrap ((↑k : Int) + (1 : Int))) = ((↑(k + (1 : Nat)) : Int))) ∧ (((x.w.dLo) = (x.w.dLo)) ∧ (((x.w.dHi) = (x.w.dHi)) ∧ (((x.w.dStep) = (x.w.dStep)) ∧ (((x.w.dErr) = (x.w.dErr)) ∧ (((x.w.count + (1 : Nat)) = (x.w.count + (1 : Nat))) ∧ ((∀ i : Nat, ((i < x.w.count + (1 : Nat)) → (AVEqs [(.v (.int Go.IntKind.i64 (x.w.path i)))] [(.v (.int Go.IntKind.i64 (x.w.path i)))]))) ∧ (((x.w.count) = (x.w.count)) ∧ ((∀ i : Nat, ((i < x.w.count) → (AVEqs [(.v (.int Go.IntKind.i64 (x.w.reading i)))] [(.v (.int Go.IntKind.i64 (x.w.reading i)))]))) ∧ ((((x.safe z k).miss.lo) = ((x.safe z (k + (1 : Nat))).lo)) ∧ ((((x.safe z k).miss.hi) = ((x.safe z (k + (1 : Nat))).hi)) ∧ ((((x.safe z k).miss.step) = ((x.safe z (k + (1 : Nat))).step)) ∧ ((((x.safe z k).miss.err) = ((x.safe z (k + (1 : Nat))).err)) ∧ ((((x.safe z k).miss.least) = ((x.safe z (k + (1 : Nat))).least)) ∧ ((((x.safe z k).miss.most) = ((x.safe z (k + (1 : Nat))).most)) ∧ ((((x.safe z k).miss.stopped) = ((x.safe z (k + (1 : Nat))).stopped)) ∧ (The (k + (1 : Nat) < (F_safe x z).N))))))))))))))))))))))) (((z) = (z)) ∧ (((Bool.true) = (Bool.true)) ∧ ((((0 : Nat)) = ((0 : Nat))) ∧ ((((0 : Nat)) = ((0 : Nat))) ∧ (((Go.IntKind.i64.wrap ((↑k : Int) + (1 : Int))) = ((↑(k + (1 : Nat)) : Int))) ∧ (((x.w.dLo) = (x.w.dLo)) ∧ (((x.w.dHi) = (x.w.dHi)) ∧ (((x.w.dStep) = (x.w.dStep)) ∧ (((x.w.dErr) = (x.w.dErr)) ∧ (((x.w.count + (1 : Nat)) = (x.w.count + (1 : Nat))) ∧ ((∀ i : Nat, ((i < x.w.count + (1 : Nat)) → (AVEqs [(.v (.int Go.IntKind.i64 (x.w.path i)))] [(.v (.int Go.IntKind.i64 (x.w.path i)))]))) ∧ (((x.w.count) = (x.w.count)) ∧ ((∀ i : Nat, ((i < x.w.count) → (AVEqs [(.v (.int Go.IntKind.i64 (x.w.reading i)))] [(.v (.int Go.IntKind.i64 (x.w.reading i)))]))) ∧ ((((x.safe z k).miss.lo) = ((x.safe z (k + (1 : Nat))).lo)) ∧ ((((x.safe z k).miss.hi) = ((x.safe z (k + (1 : Nat))).hi)) ∧ ((((x.safe z k).miss.step) = ((x.safe z (k + (1 : Nat))).step)) ∧ ((((x.safe z k).miss.err) = ((x.safe z (k + (1 : Nat))).err)) ∧ ((((x.safe z k).miss.least) = ((x.safe z (k + (1 : Nat))).least)) ∧ ((((x.safe z k).miss.most) = ((x.safe z (k + (1 : Nat))).most)) ∧ ((((x.safe z k).miss.stopped) = ((x.safe z (k + (1 : Nat))).stopped)) ∧ (The (k + (1 : Nat) < (F_safe x z).N)))))))))))))))))))))))))) (((0 : Int) ≤ (↑k : Int)) ∧ (((↑k : Int) < (↑x.w.count : Int)) ∧ (((x.safe z k).ok) ∧ (Br (!(x.safe z k).agrees (x.w.reading (↑k : Int).toNat)) (Br (!(x.safe z k).stopped) (((Bool.false) = (Bool.true)) ∧ (The ((F_safe x z).b = Bool.true))) ((((x.safe z k).see (x.w.reading (↑k : Int).toNat)).ok) ∧ (Br (!(((x.safe z k).see (x.w.reading (↑k : Int).toNat)).stopped || ((x.safe z k).see (x.w.reading (↑k : Int).toNat)).inR)) (((Bool.false) = (Bool.true)) ∧ (The ((F_safe x z).b = Bool.true))) (Br ((x.safe z k).stopped) (Br (!(((x.safe z k).see (x.w.reading (↑k : Int).toNat)).lo == (x.safe z k).lo && (((x.safe z k).see (x.w.reading (↑k : Int).toNat)).hi == (x.safe z k).hi && (((x.safe z k).see (x.w.reading (↑k : Int).toNat)).step == (x.safe z k).step && (((x.safe z k).see (x.w.reading (↑k : Int).toNat)).err == (x.safe z k).err && (((x.safe z k).see (x.w.reading (↑k : Int).toNat)).least == (x.safe z k).least && (((x.safe z k).see (x.w.reading (↑k : Int).toNat)).most == (x.safe z k).most && (((x.safe z k).see (x.w.reading (↑k : Int).toNat)).stopped == (x.safe z k).stopped && Bool.true)))))))) (((Bool.false) = (Bool.true)) ∧ (The ((F_safe x z).b = Bool.true))) (((z) = (z)) ∧ (((Bool.true) = (Bool.true)) ∧ ((((0 : Nat)) = ((0 : Nat))) ∧ ((((0 : Nat)) = ((0 : Nat))) ∧ (((Go.IntKind.i64.wrap ((↑k : Int) + (1 : Int))) = ((↑(k + (1 : Nat)) : Int))) ∧ (((x.w.dLo) = (x.w.dLo)) ∧ (((x.w.dHi) = (x.w.dHi)) ∧ (((x.w.dStep) = (x.w.dStep)) ∧ (((x.w.dErr) = (x.w.dErr)) ∧ (((x.w.count + (1 : Nat)) = (x.w.count + (1 : Nat))) ∧ ((∀ i : Nat, ((i < x.w.count + (1 : Nat)) → (AVEqs [(.v (.int Go.IntKind.i64 (x.w.path i)))] [(.v (.int Go.IntKind.i64 (x.w.path i)))]))) ∧ (((x.w.count) = (x.w.count)) ∧ ((∀ i : Nat, ((i < x.w.count) → (AVEqs [(.v (.int Go.IntKind.i64 (x.w.reading i)))] [(.v (.int Go.IntKind.i64 (x.w.reading i)))]))) ∧ (((((x.safe z k).see (x.w.reading (↑k : Int).toNat)).lo) = ((x.safe z (k + (1 : Nat))).lo)) ∧ (((((x.safe z k).see (x.w.reading (↑k : Int).toNat)).hi) = ((x.safe z (k + (1 : Nat))).hi)) ∧ (((((x.safe z k).see (x.w.reading (↑k : Int).toNat)).step) = ((x.safe z (k + (1 : Nat))).step)) ∧ (((((x.safe z k).see (x.w.reading (↑k : Int).toNat)).err) = ((x.safe z (k + (1 : Nat))).err)) ∧ (((((x.safe z k).see (x.w.reading (↑k : Int).toNat)).least) = ((x.safe z (k + (1 : Nat))).least)) ∧ (((((x.safe z k).see (x.w.reading (↑k : Int).toNat)).most) = ((x.safe z (k + (1 : Nat))).most)) ∧ (((((x.safe z k).see (x.w.reading (↑k : Int).toNat)).stopped) = ((x.safe z (k + (1 : Nat))).stopped)) ∧ (The (k + (1 : Nat) < (F_safe x z).N))))))))))))))))))))))) (((z) = (z)) ∧ (((Bool.true) = (Bool.true)) ∧ ((((0 : Nat)) = ((0 : Nat))) ∧ ((((0 : Nat)) = ((0 : Nat))) ∧ (((Go.IntKind.i64.wrap ((↑k : Int) + (1 : Int))) = ((↑(k + (1 : Nat)) : Int))) ∧ (((x.w.dLo) = (x.w.dLo)) ∧ (((x.w.dHi) = (x.w.dHi)) ∧ (((x.w.dStep) = (x.w.dStep)) ∧ (((x.w.dErr) = (x.w.dErr)) ∧ (((x.w.count + (1 : Nat)) = (x.w.count + (1 : Nat))) ∧ ((∀ i : Nat, ((i < x.w.count + (1 : Nat)) → (AVEqs [(.v (.int Go.IntKind.i64 (x.w.path i)))] [(.v (.int Go.IntKind.i64 (x.w.path i)))]))) ∧ (((x.w.count) = (x.w.count)) ∧ ((∀ i : Nat, ((i < x.w.count) → (AVEqs [(.v (.int Go.IntKind.i64 (x.w.reading i)))] [(.v (.int Go.IntKind.i64 (x.w.reading i)))]))) ∧ (((((x.safe z k).see (x.w.reading (↑k : Int).toNat)).lo) = ((x.safe z (k + (1 : Nat))).lo)) ∧ (((((x.safe z k).see (x.w.reading (↑k : Int).toNat)).hi) = ((x.safe z (k + (1 : Nat))).hi)) ∧ (((((x.safe z k).see (x.w.reading (↑k : Int).toNat)).step) = ((x.safe z (k + (1 : Nat))).step)) ∧ (((((x.safe z k).see (x.w.reading (↑k : Int).toNat)).err) = ((x.safe z (k + (1 : Nat))).err)) ∧ (((((x.safe z k).see (x.w.reading (↑k : Int).toNat)).least) = ((x.safe z (k + (1 : Nat))).least)) ∧ (((((x.safe z k).see (x.w.reading (↑k : Int).toNat)).most) = ((x.safe z (k + (1 : Nat))).most)) ∧ (((((x.safe z k).see (x.w.reading (↑k : Int).toNat)).stopped) = ((x.safe z (k + (1 : Nat))).stopped)) ∧ (The (k + (1 : Nat) < (F_safe x z).N)))))))))))))))))))))))))) ((((x.safe z k).see (x.w.reading (↑k : Int).toNat)).ok) ∧ (Br (!(((x.safe z k).see (x.w.reading (↑k : Int).toNat)).stopped || ((x.safe z k).see (x.w.reading (↑k : Int).toNat)).inR)) (((Bool.false) = (Bool.true)) ∧ (The ((F_safe x z).b = Bool.true))) (Br ((x.safe z k).stopped) (Br (!(((x.safe z k).see (x.w.reading (↑k : Int).toNat)).lo == (x.safe z k).lo && (((x.safe z k).see (x.w.reading (↑k : Int).toNat)).hi == (x.safe z k).hi && (((x.safe z k).see (x.w.reading (↑k : Int).toNat)).step == (x.safe z k).step && (((x.safe z k).see (x.w.reading (↑k : Int).toNat)).err == (x.safe z k).err && (((x.safe z k).see (x.w.reading (↑k : Int).toNat)).least == (x.safe z k).least && (((x.safe z k).see (x.w.reading (↑k : Int).toNat)).most == (x.safe z k).most && (((x.safe z k).see (x.w.reading (↑k : Int).toNat)).stopped == (x.safe z k).stopped && Bool.true)))))))) (((Bool.false) = (Bool.true)) ∧ (The ((F_safe x z).b = Bool.true))) (((z) = (z)) ∧ (((Bool.true) = (Bool.true)) ∧ ((((0 : Nat)) = ((0 : Nat))) ∧ ((((0 : Nat)) = ((0 : Nat))) ∧ (((Go.IntKind.i64.wrap ((↑k : Int) + (1 : Int))) = ((↑(k + (1 : Nat)) : Int))) ∧ (((x.w.dLo) = (x.w.dLo)) ∧ (((x.w.dHi) = (x.w.dHi)) ∧ (((x.w.dStep) = (x.w.dStep)) ∧ (((x.w.dErr) = (x.w.dErr)) ∧ (((x.w.count + (1 : Nat)) = (x.w.count + (1 : Nat))) ∧ ((∀ i : Nat, ((i < x.w.count + (1 : Nat)) → (AVEqs [(.v (.int Go.IntKind.i64 (x.w.path i)))] [(.v (.int Go.IntKind.i64 (x.w.path i)))]))) ∧ (((x.w.count) = (x.w.count)) ∧ ((∀ i : Nat, ((i < x.w.count) → (AVEqs [(.v (.int Go.IntKind.i64 (x.w.reading i)))] [(.v (.int Go.IntKind.i64 (x.w.reading i)))]))) ∧ (((((x.safe z k).see (x.w.reading (↑k : Int).toNat)).lo) = ((x.safe z (k + (1 : Nat))).lo)) ∧ (((((x.safe z k).see (x.w.reading (↑k : Int).toNat)).hi) = ((x.safe z (k + (1 : Nat))).hi)) ∧ (((((x.safe z k).see (x.w.reading (↑k : Int).toNat)).step) = ((x.safe z (k + (1 : Nat))).step)) ∧ (((((x.safe z k).see (x.w.reading (↑k : Int).toNat)).err) = ((x.safe z (k + (1 : Nat))).err)) ∧ (((((x.safe z k).see (x.w.reading (↑k : Int).toNat)).least) = ((x.safe z (k + (1 : Nat))).least)) ∧ (((((x.safe z k).see (x.w.reading (↑k : Int).toNat)).most) = ((x.safe z (k + (1 : Nat))).most)) ∧ (((((x.safe z k).see (x.w.reading (↑k : Int).toNat)).stopped) = ((x.safe z (k + (1 : Nat))).stopped)) ∧ (The (k + (1 : Nat) < (F_safe x z).N))))))))))))))))))))))) (((z) = (z)) ∧ (((Bool.true) = (Bool.true)) ∧ ((((0 : Nat)) = ((0 : Nat))) ∧ ((((0 : Nat)) = ((0 : Nat))) ∧ (((Go.IntKind.i64.wrap ((↑k : Int) + (1 : Int))) = ((↑(k + (1 : Nat)) : Int))) ∧ (((x.w.dLo) = (x.w.dLo)) ∧ (((x.w.dHi) = (x.w.dHi)) ∧ (((x.w.dStep) = (x.w.dStep)) ∧ (((x.w.dErr) = (x.w.dErr)) ∧ (((x.w.count + (1 : Nat)) = (x.w.count + (1 : Nat))) ∧ ((∀ i : Nat, ((i < x.w.count + (1 : Nat)) → (AVEqs [(.v (.int Go.IntKind.i64 (x.w.path i)))] [(.v (.int Go.IntKind.i64 (x.w.path i)))]))) ∧ (((x.w.count) = (x.w.count)) ∧ ((∀ i : Nat, ((i < x.w.count) → (AVEqs [(.v (.int Go.IntKind.i64 (x.w.reading i)))] [(.v (.int Go.IntKind.i64 (x.w.reading i)))]))) ∧ (((((x.safe z k).see (x.w.reading (↑k : Int).toNat)).lo) = ((x.safe z (k + (1 : Nat))).lo)) ∧ (((((x.safe z k).see (x.w.reading (↑k : Int).toNat)).hi) = ((x.safe z (k + (1 : Nat))).hi)) ∧ (((((x.safe z k).see (x.w.reading (↑k : Int).toNat)).step) = ((x.safe z (k + (1 : Nat))).step)) ∧ (((((x.safe z k).see (x.w.reading (↑k : Int).toNat)).err) = ((x.safe z (k + (1 : Nat))).err)) ∧ (((((x.safe z k).see (x.w.reading (↑k : Int).toNat)).least) = ((x.safe z (k + (1 : Nat))).least)) ∧ (((((x.safe z k).see (x.w.reading (↑k : Int).toNat)).most) = ((x.safe z (k + (1 : Nat))).most)) ∧ (((((x.safe z k).see (x.w.reading (↑k : Int).toNat)).stopped) = ((x.safe z (k + (1 : Nat))).stopped)) ∧ (The (k + (1 : Nat) < (F_safe x z).N))))))))))))))))))))))))))))))))))))))) False)) := by kernel_rfl

theorem lok_safe (x : Raw45) (z : Int) (hyp : x.good ∧ 0 ≤ z ∧ z ≤ 65535) : LoopOk Try.prog (6, 8, (F_safe x z).go) := by
  refine lp_ok (F_safe x z) mix [c_See, c_Valid, c_Agrees, c_Miss] [] [] (by
    intro c hc
    simp only [List.mem_cons, List.not_mem_nil, or_false] at hc
    rcases hc with rfl | rfl | rfl | rfl
    · exact ok_See
    · exact ok_Valid
    · exact ok_Agrees
    · exact ok_Miss
    ) (fuel := 10) (d := 6) (by kernel_rfl) fun k hk => ⟨[], (fun c hc => by cases hc), ?_⟩
  refine (vl_safe x z k).mpr ?_
  obtain ⟨hx, hz⟩ := hyp
  have hk : k < x.w.count + 1 := hk
  have hc := x.w.count_le
  have a := x.safe_at hx z k
  have hp := a.p
  have hr := fun h => Mon.running a.v h
  have hag := fun h => x.safe_agrees hx a h
  have ua := Mon.see_valid a.v (x.w.reading k)
  have um := Mon.miss_valid a.v
  have ra := ua.r
  have rm := um.r
  have hpk := x.w.path_in hx.w k
  have hss := x.w.dStep_in hx.w
  have es := a.s
  have av := a.v
  have hst : (x.safe z k).stopped = true → (x.safe z k).see (x.w.reading k) = x.safe z k ∧ (x.safe z k).miss = x.safe z k := fun h => ⟨by simp [Mon.see, h], by simp [Mon.miss, h]⟩
  have i1 : (k : Int).toNat = k := rfl
  have iu : 0 ≤ Go.IntKind.u64.wrap ((k : Int).tmod 16) := by rw [tmod_in _ _ (by omega), Go.IntWalk.u64_in _ (by omega)]; omega
  have i2 : k < x.w.count → k + 1 < (F_safe x z).N := fun h => by show k + 1 < x.w.count + 1; omega
  have em : (Go.Ev.intBitsV Go.BinOp.and Go.IntKind.u16 (z.fdiv ((2 : Int) ^ Min.min (Go.IntKind.u64.wrap ((k : Int).tmod (16 : Int))).toNat Go.IntKind.u16.bits)) (1 : Int) == (1 : Int)) = missed z k := rfl
  have en1 : missed z k = true → x.safe z (k + 1) = (x.safe z k).miss := fun h => by simp [Raw45.safe, h]
  have en2 : missed z k = false → x.safe z (k + 1) = (x.safe z k).see (x.w.reading k) := fun h => by simp [Raw45.safe, h]
  have oLo : (x.safe z k).oLo = max 1 ((x.safe z k).lo - (x.safe z k).step) := rfl
  have oHi : (x.safe z k).oHi = (x.safe z k).hi + (x.safe z k).step := rfl
  simp (disch := omega) only [w64_in, i1, em]
  clear em
  generalize x.safe z k = m at *
  generalize x.safe z (k + 1) = m' at *
  generalize m.see (x.w.reading k) = ms at *
  generalize m.miss = mm at *
  repeat' (first | exact trivial | refine Br.intro (fun _ => ?_) (fun _ => ?_) | refine And.intro ?_ ?_)
  all_goals first | exact av.ok | exact ua.ok | exact um.ok | exact fun _ _ => .refl _ | exact iu | omega | rfl | exact ⟨rfl⟩ | skip
  all_goals first | (refine ⟨i2 ?_⟩) | skip
  all_goals grind
def g_Safe : List AV → Option (Prop × AV)
  | [.agg [.v (.int .u8 x_0), .v (.int .u8 x_1), .v (.int .u8 x_2), .v (.int .u8 x_3), .rs 1 x_4 x_5 x_6, .v (.int .u8 x_7), .v (.int .u8 x_8)], .v (.int .u16 z)] => some ((∀ i, i < x_4 → x_6 i = [.v (.int .u8 (intAt (x_6 i)))]) ∧ ((⟨⟨x_0, x_1, x_2, x_3, x_4, fun i => intAt (x_6 i)⟩, x_7, x_8⟩ : Raw45).good ∧ 0 ≤ z ∧ z ≤ 65535), .v (.bool true))
  | _ => none
theorem g_Safe_of {args : List AV} {p : Prop} {v : AV} (h : g_Safe  args = some (p, v)) : ∃ x_0 x_1 x_2 x_3 x_4 x_5 x_6 x_7 x_8 z, args = [.agg [.v (.int .u8 x_0), .v (.int .u8 x_1), .v (.int .u8 x_2), .v (.int .u8 x_3), .rs 1 x_4 x_5 x_6, .v (.int .u8 x_7), .v (.int .u8 x_8)], .v (.int .u16 z)] ∧ p = ((∀ i, i < x_4 → x_6 i = [.v (.int .u8 (intAt (x_6 i)))]) ∧ ((⟨⟨x_0, x_1, x_2, x_3, x_4, fun i => intAt (x_6 i)⟩, x_7, x_8⟩ : Raw45).good ∧ 0 ≤ z ∧ z ≤ 65535)) ∧ v = .v (.bool true) := by
  unfold g_Safe at h
  split at h
  · cases h; exact ⟨_, _, _, _, _, _, _, _, _, _, rfl, rfl, rfl⟩
  · cases h
set_option maxRecDepth 100000 in
theorem vc_Safe (x : Raw45) (z : Int) : (callN Try.prog (mkCfg Try.prog [c_examples, c_Made44, c_Made45, c_See, c_Valid, c_Agrees, c_Miss, c_Possible] [6] [(6, 8, (F_safe x z).go)] []) 10 6 6 [x.av, .v (.int .u16 z)] [] 0 (Reads (.v (.bool true)))) =
    ((True ∧ (((∀ i : Nat, ((i < x.w.n) → (([(.v (.int Go.IntKind.u8 (x.w.b i)))] : List AV) = [(.v (.int Go.IntKind.u8 (x.w.b i)))]))) ∧ (x.w.good)) ∧ (((∀ i : Nat, ((i < x.w.n) → (([(.v (.int Go.IntKind.u8 (x.w.b i)))] : List AV) = [(.v (.int Go.IntKind.u8 (x.w.b i)))]))) ∧ (x.good)) ∧ (((∀ i : Nat, ((i < x.w.count) → (([(.v (.int Go.IntKind.i64 (x.w.reading i)))] : List AV) = [(.v (.int Go.IntKind.i64 (x.w.reading i)))]))) ∧ ((∀ i : Nat, ((i < x.w.count + (1 : Nat)) → (([(.v (.int Go.IntKind.i64 (x.w.path i)))] : List AV) = [(.v (.int Go.IntKind.i64 (x.w.path i)))]))) ∧ (((Dr.mk x.w.dLo x.w.dHi x.w.dStep x.w.dErr).ok) ∧ ((x.w.count ≤ (1000 : Nat)) ∧ (∀ i : Nat, ((i < x.w.count + (1 : Nat)) → (((-1000000000000 : Int) ≤ (IL.mk (x.w.count + (1 : Nat)) x.w.path).g i) ∧ ((IL.mk (x.w.count + (1 : Nat)) x.w.path).g i ≤ (1000000000000 : Int))))))))) ∧ (Br (!possB (Dr.mk x.w.dLo x.w.dHi x.w.dStep x.w.dErr) (IL.mk x.w.count x.w.reading) (IL.mk (x.w.count + (1 : Nat)) x.w.path)) (((Bool.false) = (Bool.true)) ∧ True) ((((z) = (z)) ∧ (((Bool.true) = (Bool.true)) ∧ ((((0 : Nat)) = ((0 : Nat))) ∧ ((((0 : Nat)) = ((0 : Nat))) ∧ ((((0 : Int)) = ((↑(0 : Nat) : Int))) ∧ (((x.w.dLo) = (x.w.dLo)) ∧ (((x.w.dHi) = (x.w.dHi)) ∧ (((x.w.dStep) = (x.w.dStep)) ∧ (((x.w.dErr) = (x.w.dErr)) ∧ (((x.w.count + (1 : Nat)) = (x.w.count + (1 : Nat))) ∧ ((∀ i : Nat, ((i < x.w.count + (1 : Nat)) → (AVEqs [(.v (.int Go.IntKind.i64 (x.w.path i)))] [(.v (.int Go.IntKind.i64 (x.w.path i)))]))) ∧ (((x.w.count) = (x.w.count)) ∧ ((∀ i : Nat, ((i < x.w.count) → (AVEqs [(.v (.int Go.IntKind.i64 (x.w.reading i)))] [(.v (.int Go.IntKind.i64 (x.w.reading i)))]))) ∧ (((x.mon.lo) = ((x.safe z (0 : Nat)).lo)) ∧ (((x.mon.hi) = ((x.safe z (0 : Nat)).hi)) ∧ (((x.mon.step) = ((x.safe z (0 : Nat)).step)) ∧ (((x.mon.err) = ((x.safe z (0 : Nat)).err)) ∧ (((x.mon.least) = ((x.safe z (0 : Nat)).least)) ∧ (((x.mon.most) = ((x.safe z (0 : Nat)).most)) ∧ (((x.mon.stopped) = ((x.safe z (0 : Nat)).stopped)) ∧ (The ((0 : Nat) < (F_safe x z).N)))))))))))))))))))))) ∧ (((Bool.true) = (Bool.true)) ∧ True)))))))) := by kernel_rfl

def c_Safe : Ctr := ⟨6, g_Safe ⟩
theorem ok_Safe : CtrOk Try.prog (c_Safe ) := by
  refine ctr_of'' mix [c_examples,  c_Made44,  c_Made45,  c_See,  c_Valid,  c_Agrees,  c_Miss,  c_Possible] [6] [] (by
    intro c hc
    simp only [List.mem_cons, List.not_mem_nil, or_false] at hc
    rcases hc with rfl | rfl | rfl | rfl | rfl | rfl | rfl | rfl
    · exact ok_examples
    · exact ok_Made44
    · exact ok_Made45
    · exact ok_See
    · exact ok_Valid
    · exact ok_Agrees
    · exact ok_Miss
    · exact ok_Possible
    ) (fuel := 10) (d := 6) ⟨_, Try.func6, by kernel_rfl, by kernel_rfl⟩ fun args p v h hp => ?_
  obtain ⟨x_0, x_1, x_2, x_3, x_4, x_5, x_6, x_7, x_8, z, rfl, rfl, rfl⟩ := g_Safe_of  h
  obtain ⟨e_0, hp⟩ := hp
  refine ⟨[(⟨⟨x_0, x_1, x_2, x_3, x_4, fun i => intAt (x_6 i)⟩, x_7, x_8⟩ : Raw45).av, .v (.int .u16 z)], (.cons _ _ _ _ (Raw45.eqv e_0) (.cons _ _ _ _ (.refl _) .nil)), ?_⟩
  generalize hx_x : (⟨⟨x_0, x_1, x_2, x_3, x_4, fun i => intAt (x_6 i)⟩, x_7, x_8⟩ : Raw45) = x at *
  clear h
  clear hx_x
  refine ⟨[(6, 8, (F_safe x z).go)], (by
    intro c hc
    simp only [List.mem_cons, List.not_mem_nil, or_false] at hc
    rcases hc with rfl
    · exact lok_safe x z hp
    ), ?_⟩
  refine (vc_Safe  x z).mpr ?_
  obtain ⟨hx, hz⟩ := hp
  have hc := x.w.count_le
  have hP : possB (Dr.mk x.w.dLo x.w.dHi x.w.dStep x.w.dErr) (IL.mk x.w.count x.w.reading) (IL.mk (x.w.count + 1) x.w.path) = true := x.w.poss hx.w
  have hpi := x.w.path_in hx.w
  have i2 : 0 < (F_safe x z).N := by show 0 < x.w.count + 1; omega
  rw [hP]
  repeat' (first | exact trivial | refine Br.intro (fun _ => ?_) (fun _ => ?_) | refine And.intro ?_ ?_)
  all_goals first | exact hx | exact hx.w | exact x.w.dr_ok hx.w | exact fun _ _ => .refl _ | exact fun _ _ => rfl | exact fun i hi => ⟨by have := hpi i; show _ ≤ x.w.path i; omega, by have := hpi i; show x.w.path i ≤ _; omega⟩ | omega | rfl | exact ⟨i2⟩ | exact ⟨rfl⟩ | skip
  all_goals grind
end Go.Proofs.Ytlofmgdjnaajjaa
