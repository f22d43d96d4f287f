/- Own text: words for all that follows. -/
import Derived.Test.YtlofmgdjnaajjaaEv29
import Derived.Test.YtlofmgdjnaajjaaProg
import Derived.KernelRfl
import Derived.IntWalk
namespace Go.Proofs.Ytlofmgdjnaajjaa
open Go Go.Ev Go.Proofs
set_option linter.unusedVariables false
theorem mix : Try.prog.follows .mixedOrders = true := by kernel_rfl
abbrev w64 (n : Int) : Int := IntKind.i64.wrap n
theorem w64_in (n : Int) (h : -9223372036854775808 ≤ n ∧ n ≤ 9223372036854775807) : IntKind.i64.wrap n = n := Go.IntWalk.i64_in n h
/-- The whole number in a row of one cell. -/
def intAt : List AV → Int
  | [.v (.int _ x)] => x
  | _ => 0
/-- A list of whole numbers. -/
structure IL where
  n : Nat
  g : Nat → Int
abbrev IL.av (x : IL) : AV := .rs 1 x.n none (fun i => [.v (.int .i64 (x.g i))])
theorem IL.eqv {n : Nat} {k : Option Nat} {f : Nat → List AV} (h : ∀ i, i < n → f i = [.v (.int .i64 (intAt (f i)))]) : AVEq (.rs 1 n k f) (IL.av ⟨n, fun i => intAt (f i)⟩) :=
  .rs _ _ _ _ _ _ rfl fun i hi => .of_eq (h i hi)
theorem Br_dec {p : Prop} {_ : Decidable p} {A B : Prop} : Br (decide p) A B ↔ (p → A) ∧ (¬ p → B) := by
  by_cases h : p <;> simp [Br, h]
theorem Br_not {b : Bool} {A B : Prop} : Br (!b) A B ↔ Br b B A := by cases b <;> simp [Br]
theorem Br_iff {b : Bool} {A B : Prop} : Br b A B ↔ (b = true → A) ∧ (b = false → B) := by cases b <;> simp [Br]
theorem maxLen_eq : Go.maxLen = 9223372036854775807 := by decide
theorem tmod_in (a b : Int) (h : 0 ≤ a) : a.tmod b = a % b := Int.tmod_eq_emod_of_nonneg h
/-- One more row. -/
theorem rows_snoc {n : Nat} {f g : Nat → List AV} {r : List AV} (hf : ∀ i, i < n → f i = g i) (hr : r = g n) : ∀ i, i < n + 1 → AVEqs (if i < n then f i else [r].getD (i - n) []) (g i) := fun i hi => by
  by_cases h : i < n
  · rw [if_pos h]; exact .of_eq (hf i h)
  · obtain rfl : i = n := by omega
    rw [if_neg h, Nat.sub_self]; exact .of_eq hr
theorem rows_one {g : Nat → List AV} {r : List AV} (hr : r = g 0) : ∀ i, i < 1 → AVEqs ([r].getD i []) (g i) := fun i hi => by
  obtain rfl : i = 0 := by omega
  exact .of_eq hr
theorem row_i64 {a b : Int} (h : a = b) : ([.v (.int .i64 a)] : List AV) = [.v (.int .i64 b)] := by rw [h]
theorem row_int {k : IntKind} {l : List AV} (h : okShs [.int k] l) : l = [.v (.int k (intAt l))] ∧ (Lit.int k (intAt l)).wf = true := by
  simp only [okShs, okSh] at h
  obtain ⟨a, as', rfl, ⟨n, rfl, hn⟩, rfl⟩ := h
  exact ⟨rfl, hn⟩
/-- How many of the first n hold, up to the first one that does not. -/
def lead (c : Nat → Bool) : Nat → Nat
  | 0 => 0
  | n + 1 => if lead c n = n ∧ c n = true then n + 1 else lead c n
theorem lead_le (c : Nat → Bool) : ∀ n, lead c n ≤ n
  | 0 => Nat.le_refl _
  | n + 1 => by have := lead_le c n; simp only [lead]; split <;> omega
theorem lead_pass {c : Nat → Bool} : ∀ {n k : Nat}, k < lead c n → c k = true
  | 0, k, h => by simp [lead] at h
  | n + 1, k, h => by
    simp only [lead] at h
    split at h
    · rename_i hh
      by_cases e : k = n
      · subst e; exact hh.2
      · exact lead_pass (n := n) (by rw [hh.1]; omega)
    · exact lead_pass h
theorem lead_stop {c : Nat → Bool} : ∀ {n : Nat}, lead c n < n → c (lead c n) = false
  | 0, h => by simp [lead] at h
  | n + 1, h => by
    simp only [lead] at h ⊢
    split at h
    · omega
    · rename_i hh
      rw [if_neg hh]
      by_cases e : lead c n = n
      · rw [e]
        cases hc : c n with
        | false => rfl
        | true => exact absurd ⟨e, hc⟩ hh
      · exact lead_stop (by have := lead_le c n; omega)
theorem lead_all {c : Nat → Bool} {n : Nat} : lead c n = n ↔ ∀ i, i < n → c i = true :=
  ⟨fun h i hi => lead_pass (n := n) (by omega), fun h => by
    by_cases e : lead c n = n
    · exact e
    · have := lead_stop (c := c) (n := n) (by have := lead_le c n; omega)
      rw [h _ (by have := lead_le c n; omega)] at this
      cases this⟩
theorem lead_step {c : Nat → Bool} {n k : Nat} (h : k ≤ lead c n) (hk : k < n) : (c k = true → k < lead c n) ∧ (c k = false → k = lead c n) :=
  ⟨fun hc => by
    by_cases e : k = lead c n
    · rw [e] at hc hk; rw [lead_stop hk] at hc; cases hc
    · omega, fun hc => by
    by_cases e : k = lead c n
    · exact e
    · have := lead_pass (c := c) (n := n) (k := k) (by omega); rw [hc] at this; cases this⟩
theorem dec_t {p : Prop} {_ : Decidable p} (h : decide p = true) : p := of_decide_eq_true h
theorem dec_f {p : Prop} {_ : Decidable p} (h : decide p = false) : ¬ p := of_decide_eq_false h
end Go.Proofs.Ytlofmgdjnaajjaa
