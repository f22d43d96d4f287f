/- Own text: the drift, the path and the readings of a description. -/
import Derived.Test.YtlofmgdjnaajjaaBs
namespace Go.Proofs.Ytlofmgdjnaajjaa
open Go Go.Ev Go.Proofs
set_option linter.unusedVariables false
set_option linter.unusedSimpArgs false
attribute [local irreducible] Go.Ev.callN Go.Ev.codeE
structure Raw44 where
  lo : Int
  wide : Int
  step : Int
  err : Int
  n : Nat
  b : Nat → Int
namespace Raw44
abbrev av (x : Raw44) : AV := .agg [.v (.int .u8 x.lo), .v (.int .u8 x.wide), .v (.int .u8 x.step), .v (.int .u8 x.err), .rs 1 x.n none (fun i => [.v (.int .u8 (x.b i))])]
theorem eqv {a b c d : Int} {n : Nat} {k : Option Nat} {f : Nat → List AV} (h : ∀ i, i < n → f i = [.v (.int .u8 (intAt (f i)))]) : AVEq (.agg [.v (.int .u8 a), .v (.int .u8 b), .v (.int .u8 c), .v (.int .u8 d), .rs 1 n k f]) (Raw44.av ⟨a, b, c, d, n, fun i => intAt (f i)⟩) :=
  .agg _ _ (.cons _ _ _ _ (.refl _) (.cons _ _ _ _ (.refl _) (.cons _ _ _ _ (.refl _) (.cons _ _ _ _ (.refl _) (.cons _ _ _ _ (.rs _ _ _ _ _ _ rfl fun i hi => .of_eq (h i hi)) .nil)))))
structure good (x : Raw44) : Prop where
  b : ∀ i, i < x.n → 0 ≤ x.b i ∧ x.b i ≤ 255
  lo : 0 ≤ x.lo ∧ x.lo ≤ 255
  wide : 0 ≤ x.wide ∧ x.wide ≤ 255
  step : 0 ≤ x.step ∧ x.step ≤ 255
  err : 0 ≤ x.err ∧ x.err ≤ 255
def dLo (x : Raw44) : Int := 1 + x.lo % 40
def dHi (x : Raw44) : Int := x.dLo + x.wide % 8
def dStep (x : Raw44) : Int := x.step % 6
def dErr (x : Raw44) : Int := x.err % 6
def start (x : Raw44) : Int := x.dLo + x.lo % (1 + x.wide % 8)
def path (x : Raw44) : Nat → Int
  | 0 => x.start
  | k + 1 => max 1 (x.path k + x.b (2 * k) % (2 * x.dStep + 1) - x.dStep)
def reading (x : Raw44) (k : Nat) : Int := x.path (k + 1) + x.b (2 * k + 1) % (2 * x.dErr + 1) - x.dErr
def count (x : Raw44) : Nat := min (x.n / 2) 12
theorem count_le (x : Raw44) : x.count ≤ 12 := Nat.min_le_right _ _
theorem count_n {x : Raw44} {k : Nat} (h : k < x.count) : 2 * k + 1 < x.n := by unfold count at h; omega
theorem dStep_in (x : Raw44) (h : x.good) : 0 ≤ x.dStep ∧ x.dStep ≤ 5 := by have := h.step; unfold dStep; omega
theorem dErr_in (x : Raw44) (h : x.good) : 0 ≤ x.dErr ∧ x.dErr ≤ 5 := by have := h.err; unfold dErr; omega
theorem dLo_in (x : Raw44) (h : x.good) : 1 ≤ x.dLo ∧ x.dLo ≤ 40 := by have := h.lo; unfold dLo; omega
theorem dHi_in (x : Raw44) (h : x.good) : x.dLo ≤ x.dHi ∧ x.dHi ≤ x.dLo + 7 := by have := h.wide; unfold dHi; omega
theorem mod_le (a b : Int) (hb : 0 < b) : 0 ≤ a % b ∧ a % b < b := ⟨Int.emod_nonneg _ (by omega), Int.emod_lt_of_pos _ hb⟩
theorem start_in (x : Raw44) (h : x.good) : x.dLo ≤ x.start ∧ x.start ≤ x.dHi := by
  have h1 := h.wide
  have := mod_le x.lo (1 + x.wide % 8) (by omega)
  unfold start dHi; omega
theorem move_in (x : Raw44) (h : x.good) (c : Int) : -5 ≤ c % (2 * x.dStep + 1) - x.dStep ∧ c % (2 * x.dStep + 1) - x.dStep ≤ 5 := by
  have h1 := x.dStep_in h
  have := mod_le c (2 * x.dStep + 1) (by omega)
  omega
theorem path_in (x : Raw44) (h : x.good) : ∀ k, 1 ≤ x.path k ∧ x.path k ≤ 47 + 5 * k
  | 0 => by have := x.start_in h; have := x.dLo_in h; have := x.dHi_in h; simp only [path]; omega
  | k + 1 => by
    have h1 := x.path_in h k
    have h2 := x.move_in h (x.b (2 * k))
    simp only [path]; omega
end Raw44
abbrev ints (n : Nat) (f : Nat → Int) : AV := .rs 1 n none (fun i => [.v (.int .i64 (f i))])
def F_Made (x : Raw44) : Lp where
  m := 0
  I := fun k => { env := [(1, .ptr 0 0), (2, .ptr 1 0), (4, .ptr 2 0), (5, .v (.int .i64 (x.path k))), (6, .v (.int .i64 (2 * (k : Int))))]
                  heap := [(0, some (.cells [.v (.int .u8 x.lo), .v (.int .u8 x.wide), .v (.int .u8 x.step), .v (.int .u8 x.err), .rs 1 x.n none (fun i => [.v (.int .u8 (x.b i))])])),
                    (1, some (.cells [.v (.int .i64 0), .v (.int .i64 0), .v (.int .i64 0), .v (.int .i64 0), .v (.slice none 0 0), .v (.slice none 0 0)])),
                    (2, some (.cells [.v (.int .i64 x.dLo), .v (.int .i64 x.dHi), .v (.int .i64 x.dStep), .v (.int .i64 x.dErr), .sl 1 3 0 (k + 1), .sl 1 4 0 k])),
                    (3, some (.arr 1 (k + 1) (fun i => [.v (.int .i64 (x.path i))]))), (4, some (.arr 1 k (fun i => [.v (.int .i64 (x.reading i))])))]
                  next := 5 }
  N := x.count + 1
  r := fun s => fun
    | 3 => bk s 0 (atC s 2 4)
    | 4 => bk s 1 (atC s 2 5)
    | n => n
  b := true
  e1 := .exit 0
  s1 := { env := [(2, .ptr 1 0), (4, .ptr 2 0)]
          heap := [(1, some (.cells [.any, .any, .any, .any, .any, .any])),
                    (2, some (.cells [.v (.int .i64 x.dLo), .v (.int .i64 x.dHi), .v (.int .i64 x.dStep), .v (.int .i64 x.dErr), .sl 1 3 0 (x.count + 1), .sl 1 4 0 x.count])),
                    (3, some (.arr 1 (x.count + 1) (fun i => [.v (.int .i64 (x.path i))]))), (4, some (.arr 1 x.count (fun i => [.v (.int .i64 (x.reading i))])))]
          next := 5 }
  e2 := .exit 0
  s2 := { env := [], heap := [], next := 0 }
set_option maxRecDepth 100000 in
theorem vl_Made (x : Raw44) (k : Nat) : (codeE Try.prog (callN Try.prog (mkCfg Try.prog [] [] [] [(23, 41)]) 10 6) (mkCfg Try.prog [] [] [] [(23, 41)]) 23 10 (F_Made x).m (loopB Try.prog 23 6) ((F_Made x).I k) ((F_Made x).nxt k)) =
    ((Br (Decidable.decide (Go.IntKind.i64.wrap ((2 : Int) * (↑k : Int) + (1 : Int)) < (↑x.n : Int))) (Br (Decidable.decide ((2 : Int) * (↑k : Int) < (24 : Int))) (((0 : Int) ≤ (2 : Int) * (↑k : Int)) ∧ (((2 : Int) * (↑k : Int) < (↑x.n : Int)) ∧ ((((Go.IntKind.i64.wrap (Go.IntKind.i64.wrap ((2 : Int) * x.dStep) + (1 : Int))) = ((0 : Int))) → False) ∧ (((k + (1 : Nat)) = (k + (1 : Nat))) ∧ (((k + (1 : Nat) + (1 : Nat)) * (8 : Nat) ≤ (140737488355328 : Nat)) ∧ ((k + (1 : Nat) + (1 : Nat) ≤ Go.maxLen) ∧ (((0 : Int) ≤ Go.IntKind.i64.wrap ((2 : Int) * (↑k : Int) + (1 : Int))) ∧ ((Go.IntKind.i64.wrap ((2 : Int) * (↑k : Int) + (1 : Int)) < (↑x.n : Int)) ∧ ((((Go.IntKind.i64.wrap (Go.IntKind.i64.wrap ((2 : Int) * x.dErr) + (1 : Int))) = ((0 : Int))) → False) ∧ (((k) = (k)) ∧ (((k + (1 : Nat)) * (8 : Nat) ≤ (140737488355328 : Nat)) ∧ ((k + (1 : Nat) ≤ Go.maxLen) ∧ ((((0 : Nat)) = ((0 : Nat))) ∧ ((((0 : Nat)) = ((0 : Nat))) ∧ ((((0 : Nat)) = ((0 : Nat))) ∧ (((Max.max (1 : Int) (Go.IntKind.i64.wrap (Go.IntKind.i64.wrap (x.path k + (Go.IntKind.i64.wrap (x.b ((2 : Int) * (↑k : Int)).toNat)).tmod (Go.IntKind.i64.wrap (Go.IntKind.i64.wrap ((2 : Int) * x.dStep) + (1 : Int)))) - x.dStep))) = (x.path (k + (1 : Nat)))) ∧ (((Go.IntKind.i64.wrap ((2 : Int) * (↑k : Int) + (2 : Int))) = ((2 : Int) * (↑(k + (1 : Nat)) : Int))) ∧ (((x.lo) = (x.lo)) ∧ (((x.wide) = (x.wide)) ∧ (((x.step) = (x.step)) ∧ (((x.err) = (x.err)) ∧ (((x.n) = (x.n)) ∧ ((∀ i : Nat, ((i < x.n) → (AVEqs [(.v (.int Go.IntKind.u8 (x.b i)))] [(.v (.int Go.IntKind.u8 (x.b i)))]))) ∧ ((((0 : Int)) = ((0 : Int))) ∧ ((((0 : Int)) = ((0 : Int))) ∧ ((((0 : Int)) = ((0 : Int))) ∧ ((((0 : Int)) = ((0 : Int))) ∧ (((Go.Value.slice Option.none (0 : Nat) (0 : Nat)) = (Go.Value.slice Option.none (0 : Nat) (0 : Nat))) ∧ (((Go.Value.slice Option.none (0 : Nat) (0 : Nat)) = (Go.Value.slice Option.none (0 : Nat) (0 : Nat))) ∧ (((x.dLo) = (x.dLo)) ∧ (((x.dHi) = (x.dHi)) ∧ (((x.dStep) = (x.dStep)) ∧ (((x.dErr) = (x.dErr)) ∧ ((((0 : Nat)) = ((0 : Nat))) ∧ (((k + (1 : Nat) + (1 : Nat)) = (k + (1 : Nat) + (1 : Nat))) ∧ ((((0 : Nat)) = ((0 : Nat))) ∧ (((k + (1 : Nat)) = (k + (1 : Nat))) ∧ (((k + (1 : Nat) + (1 : Nat)) = (k + (1 : Nat) + (1 : Nat))) ∧ ((∀ i : Nat, ((i < k + (1 : Nat) + (1 : Nat)) → (AVEqs (if i < k + (1 : Nat) then [AV.v (Go.Value.int Go.IntKind.i64 (x.path i))] else [(AV.v (Go.Value.int Go.IntKind.i64 (Max.max (1 : Int) (Go.IntKind.i64.wrap (Go.IntKind.i64.wrap (x.path k + (Go.IntKind.i64.wrap (x.b ((2 : Int) * (↑k : Int)).toNat)).tmod (Go.IntKind.i64.wrap (Go.IntKind.i64.wrap ((2 : Int) * x.dStep) + (1 : Int)))) - x.dStep))))).cells].getD (i - (k + (1 : Nat))) []) [(.v (.int Go.IntKind.i64 (x.path i)))]))) ∧ (((k + (1 : Nat)) = (k + (1 : Nat))) ∧ ((∀ i : Nat, ((i < k + (1 : Nat)) → (AVEqs (if i < k then [AV.v (Go.Value.int Go.IntKind.i64 (x.reading i))] else [(AV.v (Go.Value.int Go.IntKind.i64 (Go.IntKind.i64.wrap (Go.IntKind.i64.wrap (Max.max (1 : Int) (Go.IntKind.i64.wrap (Go.IntKind.i64.wrap (x.path k + (Go.IntKind.i64.wrap (x.b ((2 : Int) * (↑k : Int)).toNat)).tmod (Go.IntKind.i64.wrap (Go.IntKind.i64.wrap ((2 : Int) * x.dStep) + (1 : Int)))) - x.dStep)) + (Go.IntKind.i64.wrap (x.b (Go.IntKind.i64.wrap ((2 : Int) * (↑k : Int) + (1 : Int))).toNat)).tmod (Go.IntKind.i64.wrap (Go.IntKind.i64.wrap ((2 : Int) * x.dErr) + (1 : Int)))) - x.dErr)))).cells].getD (i - k) []) [(.v (.int Go.IntKind.i64 (x.reading i)))]))) ∧ (The (k + (1 : Nat) < (F_Made x).N))))))))))))))))))))))))))))))))))))))))))) ((((0 : Nat)) = ((0 : Nat))) ∧ ((((0 : Nat)) = ((0 : Nat))) ∧ (((x.dLo) = (x.dLo)) ∧ (((x.dHi) = (x.dHi)) ∧ (((x.dStep) = (x.dStep)) ∧ (((x.dErr) = (x.dErr)) ∧ ((((0 : Nat)) = ((0 : Nat))) ∧ (((k + (1 : Nat)) = (x.count + (1 : Nat))) ∧ ((((0 : Nat)) = ((0 : Nat))) ∧ (((k) = (x.count)) ∧ (((k + (1 : Nat)) = (x.count + (1 : Nat))) ∧ ((∀ i : Nat, ((i < k + (1 : Nat)) → (AVEqs [(.v (.int Go.IntKind.i64 (x.path i)))] [(.v (.int Go.IntKind.i64 (x.path i)))]))) ∧ (((k) = (x.count)) ∧ ((∀ i : Nat, ((i < k) → (AVEqs [(.v (.int Go.IntKind.i64 (x.reading i)))] [(.v (.int Go.IntKind.i64 (x.reading i)))]))) ∧ (The ((F_Made x).b = Bool.true))))))))))))))))) ((((0 : Nat)) = ((0 : Nat))) ∧ ((((0 : Nat)) = ((0 : Nat))) ∧ (((x.dLo) = (x.dLo)) ∧ (((x.dHi) = (x.dHi)) ∧ (((x.dStep) = (x.dStep)) ∧ (((x.dErr) = (x.dErr)) ∧ ((((0 : Nat)) = ((0 : Nat))) ∧ (((k + (1 : Nat)) = (x.count + (1 : Nat))) ∧ ((((0 : Nat)) = ((0 : Nat))) ∧ (((k) = (x.count)) ∧ (((k + (1 : Nat)) = (x.count + (1 : Nat))) ∧ ((∀ i : Nat, ((i < k + (1 : Nat)) → (AVEqs [(.v (.int Go.IntKind.i64 (x.path i)))] [(.v (.int Go.IntKind.i64 (x.path i)))]))) ∧ (((k) = (x.count)) ∧ ((∀ i : Nat, ((i < k) → (AVEqs [(.v (.int Go.IntKind.i64 (x.reading i)))] [(.v (.int Go.IntKind.i64 (x.reading i)))]))) ∧ (The ((F_Made x).b = Bool.true)))))))))))))))))) := by kernel_rfl

theorem lok_Made (x : Raw44) (hyp : x.good) : LoopOk Try.prog (23, 6, (F_Made x).go) := by
  refine lp_ok (F_Made x) mix [] [] [(23, 41)] (fun c hc => by cases hc) (fuel := 10) (d := 6) (by kernel_rfl) fun k hk => ⟨[], (fun c hc => by cases hc), ?_⟩
  refine (vl_Made x k).mpr ?_
  have hk : k < x.count + 1 := hk
  have hc := x.count_le
  have hs := x.dStep_in hyp
  have he := x.dErr_in hyp
  have hpk := x.path_in hyp k
  have hM := maxLen_eq
  have i1 : (2 * (k : Int)).toNat = 2 * k := by omega
  have i2 : (2 * (k : Int) + 1).toNat = 2 * k + 1 := by omega
  simp (disch := omega) only [w64_in, i1, i2]
  refine Br.intro (fun h => Br.intro (fun h' => ?_) (fun h' => ?_)) (fun h => ?_)
  · have h1 := dec_t h
    have h2 := dec_t h'
    have hkc : k < x.count := by unfold Raw44.count; omega
    have hb := hyp.b (2 * k) (by omega)
    have hb1 := hyp.b (2 * k + 1) (by omega)
    have hm := Raw44.mod_le (x.b (2 * k)) (2 * x.dStep + 1) (by omega)
    have hm1 := Raw44.mod_le (x.b (2 * k + 1)) (2 * x.dErr + 1) (by omega)
    simp (disch := omega) only [w64_in, tmod_in]
    repeat' (refine And.intro ?_ ?_)
    all_goals first | exact trivial | omega | (intro h; omega) | rfl | exact fun _ _ => .refl _ | exact ⟨by show k + 1 < x.count + 1; omega⟩ | exact rows_snoc (fun _ _ => rfl) rfl | skip
  · have h2 := dec_f h'
    have hkc : k = x.count := by have h1 := dec_t h; unfold Raw44.count at hk ⊢; omega
    repeat' (refine And.intro ?_ ?_)
    all_goals first | exact trivial | omega | rfl | exact fun _ _ => .refl _ | exact ⟨rfl⟩
  · have h2 := dec_f h
    have hkc : k = x.count := by unfold Raw44.count at hk ⊢; omega
    repeat' (refine And.intro ?_ ?_)
    all_goals first | exact trivial | omega | rfl | exact fun _ _ => .refl _ | exact ⟨rfl⟩
def g_Made44 : List AV → Option (Prop × AV)
  | [.agg [.v (.int .u8 x_0), .v (.int .u8 x_1), .v (.int .u8 x_2), .v (.int .u8 x_3), .rs 1 x_4 x_5 x_6]] => some ((∀ i, i < x_4 → x_6 i = [.v (.int .u8 (intAt (x_6 i)))]) ∧ ((⟨x_0, x_1, x_2, x_3, x_4, fun i => intAt (x_6 i)⟩ : Raw44).good), .agg [.v (.int .i64 (⟨x_0, x_1, x_2, x_3, x_4, fun i => intAt (x_6 i)⟩ : Raw44).dLo), .v (.int .i64 (⟨x_0, x_1, x_2, x_3, x_4, fun i => intAt (x_6 i)⟩ : Raw44).dHi), .v (.int .i64 (⟨x_0, x_1, x_2, x_3, x_4, fun i => intAt (x_6 i)⟩ : Raw44).dStep), .v (.int .i64 (⟨x_0, x_1, x_2, x_3, x_4, fun i => intAt (x_6 i)⟩ : Raw44).dErr), ints ((⟨x_0, x_1, x_2, x_3, x_4, fun i => intAt (x_6 i)⟩ : Raw44).count + 1) (⟨x_0, x_1, x_2, x_3, x_4, fun i => intAt (x_6 i)⟩ : Raw44).path, ints (⟨x_0, x_1, x_2, x_3, x_4, fun i => intAt (x_6 i)⟩ : Raw44).count (⟨x_0, x_1, x_2, x_3, x_4, fun i => intAt (x_6 i)⟩ : Raw44).reading])
  | _ => none
theorem g_Made44_of {args : List AV} {p : Prop} {v : AV} (h : g_Made44  args = some (p, v)) : ∃ x_0 x_1 x_2 x_3 x_4 x_5 x_6, args = [.agg [.v (.int .u8 x_0), .v (.int .u8 x_1), .v (.int .u8 x_2), .v (.int .u8 x_3), .rs 1 x_4 x_5 x_6]] ∧ p = ((∀ i, i < x_4 → x_6 i = [.v (.int .u8 (intAt (x_6 i)))]) ∧ ((⟨x_0, x_1, x_2, x_3, x_4, fun i => intAt (x_6 i)⟩ : Raw44).good)) ∧ v = .agg [.v (.int .i64 (⟨x_0, x_1, x_2, x_3, x_4, fun i => intAt (x_6 i)⟩ : Raw44).dLo), .v (.int .i64 (⟨x_0, x_1, x_2, x_3, x_4, fun i => intAt (x_6 i)⟩ : Raw44).dHi), .v (.int .i64 (⟨x_0, x_1, x_2, x_3, x_4, fun i => intAt (x_6 i)⟩ : Raw44).dStep), .v (.int .i64 (⟨x_0, x_1, x_2, x_3, x_4, fun i => intAt (x_6 i)⟩ : Raw44).dErr), ints ((⟨x_0, x_1, x_2, x_3, x_4, fun i => intAt (x_6 i)⟩ : Raw44).count + 1) (⟨x_0, x_1, x_2, x_3, x_4, fun i => intAt (x_6 i)⟩ : Raw44).path, ints (⟨x_0, x_1, x_2, x_3, x_4, fun i => intAt (x_6 i)⟩ : Raw44).count (⟨x_0, x_1, x_2, x_3, x_4, fun i => intAt (x_6 i)⟩ : Raw44).reading] := by
  unfold g_Made44 at h
  split at h
  · cases h; exact ⟨_, _, _, _, _, _, _, rfl, rfl, rfl⟩
  · cases h
set_option maxRecDepth 100000 in
theorem vc_Made44 (x : Raw44) : (callN Try.prog (mkCfg Try.prog [] [23] [(23, 6, (F_Made x).go)] [(23, 41)]) 10 6 23 [x.av] [] 0 (Reads (.agg [.v (.int .i64 x.dLo), .v (.int .i64 x.dHi), .v (.int .i64 x.dStep), .v (.int .i64 x.dErr), ints (x.count + 1) x.path, ints x.count x.reading]))) =
    ((((((40 : Int)) = ((0 : Int))) → False) ∧ (((((8 : Int)) = ((0 : Int))) → False) ∧ (((((6 : Int)) = ((0 : Int))) → False) ∧ (((((6 : Int)) = ((0 : Int))) → False) ∧ (((((8 : Int)) = ((0 : Int))) → False) ∧ ((((Go.IntKind.i64.wrap ((1 : Int) + Go.IntKind.i64.wrap (x.wide.tmod (8 : Int)))) = ((0 : Int))) → False) ∧ (((((0 : Nat)) = ((0 : Nat))) ∧ ((((0 : Nat)) = ((0 : Nat))) ∧ ((((0 : Nat)) = ((0 : Nat))) ∧ (((Go.IntKind.i64.wrap (Go.IntKind.i64.wrap ((1 : Int) + Go.IntKind.i64.wrap (x.lo.tmod (40 : Int))) + (Go.IntKind.i64.wrap x.lo).tmod (Go.IntKind.i64.wrap ((1 : Int) + Go.IntKind.i64.wrap (x.wide.tmod (8 : Int)))))) = (x.path (0 : Nat))) ∧ ((((0 : Int)) = ((2 : Int) * (↑(0 : Nat) : Int))) ∧ (((x.lo) = (x.lo)) ∧ (((x.wide) = (x.wide)) ∧ (((x.step) = (x.step)) ∧ (((x.err) = (x.err)) ∧ (((x.n) = (x.n)) ∧ ((∀ i : Nat, ((i < x.n) → (AVEqs [(.v (.int Go.IntKind.u8 (x.b i)))] [(.v (.int Go.IntKind.u8 (x.b i)))]))) ∧ ((((0 : Int)) = ((0 : Int))) ∧ ((((0 : Int)) = ((0 : Int))) ∧ ((((0 : Int)) = ((0 : Int))) ∧ ((((0 : Int)) = ((0 : Int))) ∧ (((Go.Value.slice Option.none (0 : Nat) (0 : Nat)) = (Go.Value.slice Option.none (0 : Nat) (0 : Nat))) ∧ (((Go.Value.slice Option.none (0 : Nat) (0 : Nat)) = (Go.Value.slice Option.none (0 : Nat) (0 : Nat))) ∧ (((Go.IntKind.i64.wrap ((1 : Int) + Go.IntKind.i64.wrap (x.lo.tmod (40 : Int)))) = (x.dLo)) ∧ (((Go.IntKind.i64.wrap (Go.IntKind.i64.wrap ((1 : Int) + Go.IntKind.i64.wrap (x.lo.tmod (40 : Int))) + Go.IntKind.i64.wrap (x.wide.tmod (8 : Int)))) = (x.dHi)) ∧ (((Go.IntKind.i64.wrap (x.step.tmod (6 : Int))) = (x.dStep)) ∧ (((Go.IntKind.i64.wrap (x.err.tmod (6 : Int))) = (x.dErr)) ∧ ((((0 : Nat)) = ((0 : Nat))) ∧ ((((1 : Nat)) = ((0 : Nat) + (1 : Nat))) ∧ ((((0 : Nat)) = ((0 : Nat))) ∧ ((((1 : Nat)) = ((0 : Nat) + (1 : Nat))) ∧ ((∀ i : Nat, ((i < (1 : Nat)) → (AVEqs ([(AV.v (Go.Value.int Go.IntKind.i64 (Go.IntKind.i64.wrap (Go.IntKind.i64.wrap ((1 : Int) + Go.IntKind.i64.wrap (x.lo.tmod (40 : Int))) + (Go.IntKind.i64.wrap x.lo).tmod (Go.IntKind.i64.wrap ((1 : Int) + Go.IntKind.i64.wrap (x.wide.tmod (8 : Int)))))))).cells].getD i []) [(.v (.int Go.IntKind.i64 (x.path i)))]))) ∧ ((((0 : Nat)) = ((0 : Nat))) ∧ (The ((0 : Nat) < (F_Made x).N))))))))))))))))))))))))))))) ∧ ((x.count + (1 : Nat) ≤ x.count + (1 : Nat)) ∧ ((x.count ≤ x.count) ∧ (((x.dLo) = (x.dLo)) ∧ (((x.dHi) = (x.dHi)) ∧ (((x.dStep) = (x.dStep)) ∧ (((x.dErr) = (x.dErr)) ∧ (((x.count + (1 : Nat)) = (x.count + (1 : Nat))) ∧ ((∀ i : Nat, ((i < x.count + (1 : Nat)) → (AVEqs [(.v (.int Go.IntKind.i64 (x.path i)))] [(.v (.int Go.IntKind.i64 (x.path i)))]))) ∧ (((x.count) = (x.count)) ∧ ((∀ i : Nat, ((i < x.count) → (AVEqs [(.v (.int Go.IntKind.i64 (x.reading i)))] [(.v (.int Go.IntKind.i64 (x.reading i)))]))) ∧ True)))))))))))))))))) := by kernel_rfl

def c_Made44 : Ctr := ⟨23, g_Made44 ⟩
theorem ok_Made44 : CtrOk Try.prog (c_Made44 ) := by
  refine ctr_of'' mix [] [23] [(23, 41)] (fun c hc => by cases hc) (fuel := 10) (d := 6) ⟨_, Try.func23, by kernel_rfl, by kernel_rfl⟩ fun args p v h hp => ?_
  obtain ⟨x_0, x_1, x_2, x_3, x_4, x_5, x_6, rfl, rfl, rfl⟩ := g_Made44_of  h
  obtain ⟨e_0, hp⟩ := hp
  refine ⟨[(⟨x_0, x_1, x_2, x_3, x_4, fun i => intAt (x_6 i)⟩ : Raw44).av], (.cons _ _ _ _ (Raw44.eqv e_0) .nil), ?_⟩
  generalize hx_x : (⟨x_0, x_1, x_2, x_3, x_4, fun i => intAt (x_6 i)⟩ : Raw44) = x at *
  clear h
  clear hx_x
  refine ⟨[(23, 6, (F_Made x).go)], (by
    intro c hc
    simp only [List.mem_cons, List.not_mem_nil, or_false] at hc
    rcases hc with rfl
    · exact lok_Made x hp
    ), ?_⟩
  refine (vc_Made44  x).mpr ?_
  have h1 := hp.lo
  have h2 := hp.wide
  have h3 := hp.step
  have h4 := hp.err
  have hm := Raw44.mod_le x.lo (1 + x.wide % 8) (by omega)
  simp (disch := omega) only [w64_in, tmod_in]
  repeat' (refine And.intro ?_ ?_)
  all_goals first | exact trivial | omega | (intro h; omega) | rfl | exact fun _ _ => .refl _ | exact ⟨by show 0 < x.count + 1; omega⟩ | exact rows_one rfl
end Go.Proofs.Ytlofmgdjnaajjaa
