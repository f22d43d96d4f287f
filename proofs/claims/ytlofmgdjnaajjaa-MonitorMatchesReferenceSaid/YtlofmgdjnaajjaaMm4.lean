/- Own text, packed by pack.py, part 4: words, functions with their walks, plain lemmas. -/
import Derived.Test.YtlofmgdjnaajjaaProg
import Derived.Below
import Derived.Deep.Draws
import Derived.Deep.AppendLies
import Derived.Maps.AppendAt
import Derived.OwnWalk
import Derived.Laws.BytesArg
import Derived.Laws.MakeOwn
import Derived.Laws.OwnMore
import Derived.Deep.OwnRows
import Derived.Tactics
import Derived.Lib.ConvBytes
import Derived.Laws.Slices
import Derived.WalkKit
import Derived.KernelRfl
import Derived.RowKit3
import Derived.Deep.LoopGhost
import Derived.Deep.QuietTactic
import Derived.BigQuiet
import Derived.WideLaws
import Derived.Deep.DeepCutAuto
import Derived.Deep.CutBlock
import Derived.Deep.RegionHeld3
import Derived.Laws.Rows
import Derived.Lib.AppendStr
import Derived.ArgAppend
import Derived.Laws.IdiomCopy
import Derived.OrdersHeld
import Derived.Laws.BitsLemmas
import Derived.RowKit
import Derived.Test.YtlofmgdjnaajjaaMm3
namespace Go.Proofs.Ytlofmgdjnaajjaa.Q
open Go.RowKit Go.Proofs.YtlofmgdjnaajjaaW.PrintWords Go.Proofs.YtlofmgdjnaajjaaW.PrintLast Go.Proofs.YtlofmgdjnaajjaaW.PrintMore
attribute [local go_sem] run_makeFunc_own max2_int min2_int max_two min_two max_three min_three max_four min_four   -- for this text's walks alone
set_option linter.unusedVariables false
set_option linter.unusedSimpArgs false



def errW : Option Int → Value
  | none => .nilIface
  | some c => .iface 0 (.int .i64 c)
theorem errW_none : errW none = .nilIface := rfl
theorem errW_some (c : Int) : errW (some c) = .iface 0 (.int .i64 c) := rfl

theorem info3 : (Try.prog.info? 3).map (fun i => (i.zero, i.size, i.bytes)) = some (some (.int .i64 0), 1, 8) := by kernel_rfl
theorem info28 : (Try.prog.info? 28).map (fun i => (i.zero, i.size, i.bytes)) = some (some (.agg #[(.int .i64 0), (.int .i64 0), (.int .i64 0), (.int .i64 0), (.int .i64 0), (.int .i64 0), (.bool false)]), 7, 56) := by kernel_rfl
-- the values' own types
/-! #### struct type 28 -/
structure S28 where
  f0 : Int
  f1 : Int
  f2 : Int
  f3 : Int
  f4 : Int
  f5 : Int
  f6 : Bool
def z28 : S28 := ⟨(0 : Int), (0 : Int), (0 : Int), (0 : Int), (0 : Int), (0 : Int), false⟩
def k28 : Kd S28 := Kd.iso (Kd.pair (Kd.int .i64) (Kd.pair (Kd.int .i64) (Kd.pair (Kd.int .i64) (Kd.pair (Kd.int .i64) (Kd.pair (Kd.int .i64) (Kd.pair (Kd.int .i64) Kd.bool)))))) (fun x : S28 => (x.f0, x.f1, x.f2, x.f3, x.f4, x.f5, x.f6))
theorem k28_open {w : World} {x : S28} {cs : List Value} (h : k28.K w x cs) : cs = [.int .i64 x.f0, .int .i64 x.f1, .int .i64 x.f2, .int .i64 x.f3, .int .i64 x.f4, .int .i64 x.f5, .bool x.f6] := by
  obtain ⟨_, _, rfl, rfl, ⟨_, _, rfl, rfl, ⟨_, _, rfl, rfl, ⟨_, _, rfl, rfl, ⟨_, _, rfl, rfl, ⟨_, _, rfl, rfl, rfl⟩⟩⟩⟩⟩⟩ := h
  exact rfl
theorem k28_openM {w : World} {base : Nat} {ok : Nat → Prop} {x : S28} {cs : List Value} (h : k28.M w base ok x cs) : cs = [.int .i64 x.f0, .int .i64 x.f1, .int .i64 x.f2, .int .i64 x.f3, .int .i64 x.f4, .int .i64 x.f5, .bool x.f6] := by
  obtain ⟨_, _, rfl, rfl, ⟨_, _, rfl, rfl, ⟨_, _, rfl, rfl, ⟨_, _, rfl, rfl, ⟨_, _, rfl, rfl, ⟨_, _, rfl, rfl, rfl⟩⟩⟩⟩⟩⟩ := h
  exact rfl
theorem k28_mk (w : World) (x : S28)  : k28.K w x [.int .i64 x.f0, .int .i64 x.f1, .int .i64 x.f2, .int .i64 x.f3, .int .i64 x.f4, .int .i64 x.f5, .bool x.f6] := ⟨[.int .i64 x.f0], [.int .i64 x.f1, .int .i64 x.f2, .int .i64 x.f3, .int .i64 x.f4, .int .i64 x.f5, .bool x.f6], rfl, rfl, ⟨[.int .i64 x.f1], [.int .i64 x.f2, .int .i64 x.f3, .int .i64 x.f4, .int .i64 x.f5, .bool x.f6], rfl, rfl, ⟨[.int .i64 x.f2], [.int .i64 x.f3, .int .i64 x.f4, .int .i64 x.f5, .bool x.f6], rfl, rfl, ⟨[.int .i64 x.f3], [.int .i64 x.f4, .int .i64 x.f5, .bool x.f6], rfl, rfl, ⟨[.int .i64 x.f4], [.int .i64 x.f5, .bool x.f6], rfl, rfl, ⟨[.int .i64 x.f5], [.bool x.f6], rfl, rfl, rfl⟩⟩⟩⟩⟩⟩
theorem k28_mkM (w : World) (base : Nat) (ok : Nat → Prop) (x : S28)  : k28.M w base ok x [.int .i64 x.f0, .int .i64 x.f1, .int .i64 x.f2, .int .i64 x.f3, .int .i64 x.f4, .int .i64 x.f5, .bool x.f6] := ⟨[.int .i64 x.f0], [.int .i64 x.f1, .int .i64 x.f2, .int .i64 x.f3, .int .i64 x.f4, .int .i64 x.f5, .bool x.f6], rfl, rfl, ⟨[.int .i64 x.f1], [.int .i64 x.f2, .int .i64 x.f3, .int .i64 x.f4, .int .i64 x.f5, .bool x.f6], rfl, rfl, ⟨[.int .i64 x.f2], [.int .i64 x.f3, .int .i64 x.f4, .int .i64 x.f5, .bool x.f6], rfl, rfl, ⟨[.int .i64 x.f3], [.int .i64 x.f4, .int .i64 x.f5, .bool x.f6], rfl, rfl, ⟨[.int .i64 x.f4], [.int .i64 x.f5, .bool x.f6], rfl, rfl, ⟨[.int .i64 x.f5], [.bool x.f6], rfl, rfl, rfl⟩⟩⟩⟩⟩⟩
def rd_T28 (xs : List S28) (i : Int) : S28 := xs.getD i.toNat z28
theorem at_T28 {w : World} {A : Option Addr} {n : Nat} {xs : List S28} (h : Kd.C k28 w A n xs) (i : Int) (h0 : 0 ≤ i) (h1 : i < n) : ∃ ad , A = some ad ∧ w.cell? (ad.add (i.toNat * 7)) = some (.int .i64 (rd_T28 xs i).f0) ∧ w.cell? ⟨(ad.add (i.toNat * 7)).block, (ad.add (i.toNat * 7)).off + 1, none⟩ = some (.int .i64 (rd_T28 xs i).f1) ∧ w.cell? ⟨(ad.add (i.toNat * 7)).block, (ad.add (i.toNat * 7)).off + 2, none⟩ = some (.int .i64 (rd_T28 xs i).f2) ∧ w.cell? ⟨(ad.add (i.toNat * 7)).block, (ad.add (i.toNat * 7)).off + 3, none⟩ = some (.int .i64 (rd_T28 xs i).f3) ∧ w.cell? ⟨(ad.add (i.toNat * 7)).block, (ad.add (i.toNat * 7)).off + 4, none⟩ = some (.int .i64 (rd_T28 xs i).f4) ∧ w.cell? ⟨(ad.add (i.toNat * 7)).block, (ad.add (i.toNat * 7)).off + 5, none⟩ = some (.int .i64 (rd_T28 xs i).f5) ∧ w.cell? ⟨(ad.add (i.toNat * 7)).block, (ad.add (i.toNat * 7)).off + 6, none⟩ = some (.bool (rd_T28 xs i).f6) := by
  obtain ⟨ad, c, e, _, hK, hc0⟩ := Kd.C_get h z28 i h0 h1
  have hc : ∀ j u, c[j]? = some u → w.cell? (ad.add (i.toNat * 7 + j)) = some u := hc0
  obtain rfl := k28_open hK
  exact ⟨ad, e, hc 0 _ rfl, by rw [← add_field _ _ 1 (by omega)]; exact hc 1 _ rfl, by rw [← add_field _ _ 2 (by omega)]; exact hc 2 _ rfl, by rw [← add_field _ _ 3 (by omega)]; exact hc 3 _ rfl, by rw [← add_field _ _ 4 (by omega)]; exact hc 4 _ rfl, by rw [← add_field _ _ 5 (by omega)]; exact hc 5 _ rfl, by rw [← add_field _ _ 6 (by omega)]; exact hc 6 _ rfl⟩

def rd_L4 (xs : List (List Int)) (i : Int) : (List Int) := xs.getD i.toNat ([] : List Int)
theorem at_L4 {w : World} {A : Option Addr} {n : Nat} {xs : List (List Int)} (h : Kd.C (Kd.slice 5 (Kd.int .u8)) w A n xs) (i : Int) (h0 : 0 ≤ i) (h1 : i < n) : ∃ ad A0 c0, A = some ad ∧ w.cell? (ad.add i.toNat) = some (.slice A0 (rd_L4 xs i).length c0) ∧ (rd_L4 xs i).length ≤ c0 ∧ (Kd.int .u8).C w A0 (rd_L4 xs i).length (rd_L4 xs i) := by
  obtain ⟨ad, c, e, _, hK, hc0⟩ := Kd.C_get h ([] : List Int) i h0 h1
  have hc : ∀ j u, c[j]? = some u → w.cell? (ad.add (i.toNat * 1 + j)) = some u := hc0
  obtain ⟨A0, c0, rfl, l0, g0⟩ := hK
  exact ⟨ad, A0, c0, e, by have hq := hc 0 _ rfl; rwa [Nat.mul_one, Nat.add_zero] at hq, l0, g0⟩

/-! #### struct type 24 -/
structure S24 where
  f0 : Int
  f1 : Int
  f2 : Int
  f3 : Int
  f4 : (List Int)
def z24 : S24 := ⟨(0 : Int), (0 : Int), (0 : Int), (0 : Int), ([] : List Int)⟩
def k24 : Kd S24 := Kd.iso (Kd.pair (Kd.int .u8) (Kd.pair (Kd.int .u8) (Kd.pair (Kd.int .u8) (Kd.pair (Kd.int .u8) (Kd.slice 5 (Kd.int .u8)))))) (fun x : S24 => (x.f0, x.f1, x.f2, x.f3, x.f4))
theorem k24_open {w : World} {x : S24} {cs : List Value} (h : k24.K w x cs) : ∃ A4 c4, cs = [.int .u8 x.f0, .int .u8 x.f1, .int .u8 x.f2, .int .u8 x.f3, .slice A4 x.f4.length c4] ∧ x.f4.length ≤ c4 ∧ (Kd.int .u8).C w A4 x.f4.length x.f4 := by
  obtain ⟨_, _, rfl, rfl, ⟨_, _, rfl, rfl, ⟨_, _, rfl, rfl, ⟨_, _, rfl, rfl, ⟨A4, c4, rfl, l4, g4⟩⟩⟩⟩⟩ := h
  exact ⟨A4, c4, rfl, l4, g4⟩
theorem k24_openM {w : World} {base : Nat} {ok : Nat → Prop} {x : S24} {cs : List Value} (h : k24.M w base ok x cs) : ∃ v4, cs = [.int .u8 x.f0, .int .u8 x.f1, .int .u8 x.f2, .int .u8 x.f3, v4] ∧ (Kd.int .u8).R 5 w base ok v4 x.f4 := by
  obtain ⟨_, _, rfl, rfl, ⟨_, _, rfl, rfl, ⟨_, _, rfl, rfl, ⟨_, _, rfl, rfl, ⟨v4, rfl, g4⟩⟩⟩⟩⟩ := h
  exact ⟨v4, rfl, g4⟩
theorem k24_mk (w : World) (x : S24) {A4 : Option Addr} {c4 : Nat} (l4 : x.f4.length ≤ c4) (g4 : (Kd.int .u8).C w A4 x.f4.length x.f4) : k24.K w x [.int .u8 x.f0, .int .u8 x.f1, .int .u8 x.f2, .int .u8 x.f3, .slice A4 x.f4.length c4] := ⟨[.int .u8 x.f0], [.int .u8 x.f1, .int .u8 x.f2, .int .u8 x.f3, .slice A4 x.f4.length c4], rfl, rfl, ⟨[.int .u8 x.f1], [.int .u8 x.f2, .int .u8 x.f3, .slice A4 x.f4.length c4], rfl, rfl, ⟨[.int .u8 x.f2], [.int .u8 x.f3, .slice A4 x.f4.length c4], rfl, rfl, ⟨[.int .u8 x.f3], [.slice A4 x.f4.length c4], rfl, rfl, ⟨A4, c4, rfl, l4, g4⟩⟩⟩⟩⟩
theorem k24_mkM (w : World) (base : Nat) (ok : Nat → Prop) (x : S24) {v4 : Value} (g4 : (Kd.int .u8).R 5 w base ok v4 x.f4) : k24.M w base ok x [.int .u8 x.f0, .int .u8 x.f1, .int .u8 x.f2, .int .u8 x.f3, v4] := ⟨[.int .u8 x.f0], [.int .u8 x.f1, .int .u8 x.f2, .int .u8 x.f3, v4], rfl, rfl, ⟨[.int .u8 x.f1], [.int .u8 x.f2, .int .u8 x.f3, v4], rfl, rfl, ⟨[.int .u8 x.f2], [.int .u8 x.f3, v4], rfl, rfl, ⟨[.int .u8 x.f3], [v4], rfl, rfl, ⟨v4, rfl, g4⟩⟩⟩⟩⟩
def rd_T24 (xs : List S24) (i : Int) : S24 := xs.getD i.toNat z24
theorem at_T24 {w : World} {A : Option Addr} {n : Nat} {xs : List S24} (h : Kd.C k24 w A n xs) (i : Int) (h0 : 0 ≤ i) (h1 : i < n) : ∃ ad A4 c4, A = some ad ∧ w.cell? (ad.add (i.toNat * 5)) = some (.int .u8 (rd_T24 xs i).f0) ∧ w.cell? ⟨(ad.add (i.toNat * 5)).block, (ad.add (i.toNat * 5)).off + 1, none⟩ = some (.int .u8 (rd_T24 xs i).f1) ∧ w.cell? ⟨(ad.add (i.toNat * 5)).block, (ad.add (i.toNat * 5)).off + 2, none⟩ = some (.int .u8 (rd_T24 xs i).f2) ∧ w.cell? ⟨(ad.add (i.toNat * 5)).block, (ad.add (i.toNat * 5)).off + 3, none⟩ = some (.int .u8 (rd_T24 xs i).f3) ∧ w.cell? ⟨(ad.add (i.toNat * 5)).block, (ad.add (i.toNat * 5)).off + 4, none⟩ = some (.slice A4 (rd_T24 xs i).f4.length c4) ∧ (rd_T24 xs i).f4.length ≤ c4 ∧ (Kd.int .u8).C w A4 (rd_T24 xs i).f4.length (rd_T24 xs i).f4 := by
  obtain ⟨ad, c, e, _, hK, hc0⟩ := Kd.C_get h z24 i h0 h1
  have hc : ∀ j u, c[j]? = some u → w.cell? (ad.add (i.toNat * 5 + j)) = some u := hc0
  obtain ⟨A4, c4, rfl, l4, g4⟩ := k24_open hK
  exact ⟨ad, A4, c4, e, hc 0 _ rfl, by rw [← add_field _ _ 1 (by omega)]; exact hc 1 _ rfl, by rw [← add_field _ _ 2 (by omega)]; exact hc 2 _ rfl, by rw [← add_field _ _ 3 (by omega)]; exact hc 3 _ rfl, by rw [← add_field _ _ 4 (by omega)]; exact hc 4 _ rfl, l4, g4⟩

/-! #### struct type 26 -/
structure S26 where
  f0 : S24
  f1 : Int
  f2 : Int
def z26 : S26 := ⟨z24, (0 : Int), (0 : Int)⟩
def k26 : Kd S26 := Kd.iso (Kd.pair k24 (Kd.pair (Kd.int .u8) (Kd.int .u8))) (fun x : S26 => (x.f0, x.f1, x.f2))
theorem k26_open {w : World} {x : S26} {cs : List Value} (h : k26.K w x cs) : ∃ A4 c4, cs = [.int .u8 x.f0.f0, .int .u8 x.f0.f1, .int .u8 x.f0.f2, .int .u8 x.f0.f3, .slice A4 x.f0.f4.length c4, .int .u8 x.f1, .int .u8 x.f2] ∧ x.f0.f4.length ≤ c4 ∧ (Kd.int .u8).C w A4 x.f0.f4.length x.f0.f4 := by
  obtain ⟨_, _, rfl, s0, ⟨_, _, rfl, rfl, rfl⟩⟩ := h
  obtain ⟨A4, c4, rfl, l4, g4⟩ := k24_open s0
  exact ⟨A4, c4, rfl, l4, g4⟩
theorem k26_openM {w : World} {base : Nat} {ok : Nat → Prop} {x : S26} {cs : List Value} (h : k26.M w base ok x cs) : ∃ v4, cs = [.int .u8 x.f0.f0, .int .u8 x.f0.f1, .int .u8 x.f0.f2, .int .u8 x.f0.f3, v4, .int .u8 x.f1, .int .u8 x.f2] ∧ (Kd.int .u8).R 5 w base ok v4 x.f0.f4 := by
  obtain ⟨_, _, rfl, s0, ⟨_, _, rfl, rfl, rfl⟩⟩ := h
  obtain ⟨v4, rfl, g4⟩ := k24_openM s0
  exact ⟨v4, rfl, g4⟩
theorem k26_mk (w : World) (x : S26) {A4 : Option Addr} {c4 : Nat} (l4 : x.f0.f4.length ≤ c4) (g4 : (Kd.int .u8).C w A4 x.f0.f4.length x.f0.f4) : k26.K w x [.int .u8 x.f0.f0, .int .u8 x.f0.f1, .int .u8 x.f0.f2, .int .u8 x.f0.f3, .slice A4 x.f0.f4.length c4, .int .u8 x.f1, .int .u8 x.f2] := ⟨[.int .u8 x.f0.f0, .int .u8 x.f0.f1, .int .u8 x.f0.f2, .int .u8 x.f0.f3, .slice A4 x.f0.f4.length c4], [.int .u8 x.f1, .int .u8 x.f2], rfl, (k24_mk w x.f0 l4 g4), ⟨[.int .u8 x.f1], [.int .u8 x.f2], rfl, rfl, rfl⟩⟩
theorem k26_mkM (w : World) (base : Nat) (ok : Nat → Prop) (x : S26) {v4 : Value} (g4 : (Kd.int .u8).R 5 w base ok v4 x.f0.f4) : k26.M w base ok x [.int .u8 x.f0.f0, .int .u8 x.f0.f1, .int .u8 x.f0.f2, .int .u8 x.f0.f3, v4, .int .u8 x.f1, .int .u8 x.f2] := ⟨[.int .u8 x.f0.f0, .int .u8 x.f0.f1, .int .u8 x.f0.f2, .int .u8 x.f0.f3, v4], [.int .u8 x.f1, .int .u8 x.f2], rfl, (k24_mkM w base ok x.f0 g4), ⟨[.int .u8 x.f1], [.int .u8 x.f2], rfl, rfl, rfl⟩⟩
def rd_T26 (xs : List S26) (i : Int) : S26 := xs.getD i.toNat z26
theorem at_T26 {w : World} {A : Option Addr} {n : Nat} {xs : List S26} (h : Kd.C k26 w A n xs) (i : Int) (h0 : 0 ≤ i) (h1 : i < n) : ∃ ad A4 c4, A = some ad ∧ w.cell? (ad.add (i.toNat * 7)) = some (.int .u8 (rd_T26 xs i).f0.f0) ∧ w.cell? ⟨(ad.add (i.toNat * 7)).block, (ad.add (i.toNat * 7)).off + 1, none⟩ = some (.int .u8 (rd_T26 xs i).f0.f1) ∧ w.cell? ⟨(ad.add (i.toNat * 7)).block, (ad.add (i.toNat * 7)).off + 2, none⟩ = some (.int .u8 (rd_T26 xs i).f0.f2) ∧ w.cell? ⟨(ad.add (i.toNat * 7)).block, (ad.add (i.toNat * 7)).off + 3, none⟩ = some (.int .u8 (rd_T26 xs i).f0.f3) ∧ w.cell? ⟨(ad.add (i.toNat * 7)).block, (ad.add (i.toNat * 7)).off + 4, none⟩ = some (.slice A4 (rd_T26 xs i).f0.f4.length c4) ∧ w.cell? ⟨(ad.add (i.toNat * 7)).block, (ad.add (i.toNat * 7)).off + 5, none⟩ = some (.int .u8 (rd_T26 xs i).f1) ∧ w.cell? ⟨(ad.add (i.toNat * 7)).block, (ad.add (i.toNat * 7)).off + 6, none⟩ = some (.int .u8 (rd_T26 xs i).f2) ∧ (rd_T26 xs i).f0.f4.length ≤ c4 ∧ (Kd.int .u8).C w A4 (rd_T26 xs i).f0.f4.length (rd_T26 xs i).f0.f4 := by
  obtain ⟨ad, c, e, _, hK, hc0⟩ := Kd.C_get h z26 i h0 h1
  have hc : ∀ j u, c[j]? = some u → w.cell? (ad.add (i.toNat * 7 + j)) = some u := hc0
  obtain ⟨A4, c4, rfl, l4, g4⟩ := k26_open hK
  exact ⟨ad, A4, c4, e, hc 0 _ rfl, by rw [← add_field _ _ 1 (by omega)]; exact hc 1 _ rfl, by rw [← add_field _ _ 2 (by omega)]; exact hc 2 _ rfl, by rw [← add_field _ _ 3 (by omega)]; exact hc 3 _ rfl, by rw [← add_field _ _ 4 (by omega)]; exact hc 4 _ rfl, by rw [← add_field _ _ 5 (by omega)]; exact hc 5 _ rfl, by rw [← add_field _ _ 6 (by omega)]; exact hc 6 _ rfl, l4, g4⟩

end Go.Proofs.Ytlofmgdjnaajjaa.Q

namespace Go.Proofs.Ytlofmgdjnaajjaa.Q
open Go.RowKit Go.Proofs.YtlofmgdjnaajjaaW.PrintWords Go.Proofs.YtlofmgdjnaajjaaW.PrintLast Go.Proofs.YtlofmgdjnaajjaaW.PrintMore
attribute [local go_sem] run_makeFunc_own max2_int min2_int max_two min_two max_three min_three max_four min_four   -- for this text's walks alone
set_option linter.unusedVariables false
set_option linter.unusedSimpArgs false

theorem eqA28 (d : Nat) (w : World) (x0 y0 : Int) (x1 y1 : Int) (x2 y2 : Int) (x3 y3 : Int) (x4 y4 : Int) (x5 y5 : Int) (x6 y6 : Bool) :
    (Op.equalIn (d + 2) 28 (.agg #[.int .i64 x0, .int .i64 x1, .int .i64 x2, .int .i64 x3, .int .i64 x4, .int .i64 x5, .bool x6]) (.agg #[.int .i64 y0, .int .i64 y1, .int .i64 y2, .int .i64 y3, .int .i64 y4, .int .i64 y5, .bool y6])).run Try.prog w = .ok (x0 == y0 && (x1 == y1 && (x2 == y2 && (x3 == y3 && (x4 == y4 && (x5 == y5 && (x6 == y6))))))) w := by
  refine eqA_of Try.underlying28 (by kernel_rfl) ?_
  refine eqf_cons (by rfl) (by go_simp; rfl) (by go_simp; rfl) (by go_simp) ?_
  refine eqf_cons (by rfl) (by go_simp; rfl) (by go_simp; rfl) (by go_simp) ?_
  refine eqf_cons (by rfl) (by go_simp; rfl) (by go_simp; rfl) (by go_simp) ?_
  refine eqf_cons (by rfl) (by go_simp; rfl) (by go_simp; rfl) (by go_simp) ?_
  refine eqf_cons (by rfl) (by go_simp; rfl) (by go_simp; rfl) (by go_simp) ?_
  refine eqf_cons (by rfl) (by go_simp; rfl) (by go_simp; rfl) (by go_simp) ?_
  exact eqf_last (by rfl) (by go_simp; rfl) (by go_simp; rfl) (by go_simp)
end Go.Proofs.Ytlofmgdjnaajjaa.Q

namespace Go.Proofs.Ytlofmgdjnaajjaa.Q
open Go.RowKit Go.Proofs.YtlofmgdjnaajjaaW.PrintWords Go.Proofs.YtlofmgdjnaajjaaW.PrintLast Go.Proofs.YtlofmgdjnaajjaaW.PrintMore
attribute [local go_sem] run_makeFunc_own max2_int min2_int max_two min_two max_three min_three max_four min_four   -- for this text's walks alone
set_option linter.unusedVariables false
set_option linter.unusedSimpArgs false

theorem eqA34 (d : Nat) (w : World) (x0 y0 : Int) (x1 y1 : Int) (x2 y2 : Int) (x3 y3 : Int) (x4 y4 : Int) (x5 y5 : Int) (x6 y6 : Bool) (x7 y7 : Int) :
    (Op.equalIn (d + 3) 34 (.agg #[.int .i64 x0, .int .i64 x1, .int .i64 x2, .int .i64 x3, .int .i64 x4, .int .i64 x5, .bool x6, .int .i64 x7]) (.agg #[.int .i64 y0, .int .i64 y1, .int .i64 y2, .int .i64 y3, .int .i64 y4, .int .i64 y5, .bool y6, .int .i64 y7])).run Try.prog w = .ok ((x0 == y0 && (x1 == y1 && (x2 == y2 && (x3 == y3 && (x4 == y4 && (x5 == y5 && (x6 == y6))))))) && (x7 == y7)) w := by
  refine eqA_of Try.underlying34 (by kernel_rfl) ?_
  refine eqf_cons (by rfl) (by go_simp) (by go_simp) (eqA28 (d + 0) w _ _ _ _ _ _ _ _ _ _ _ _ _ _) ?_
  exact eqf_last (by rfl) (by go_simp; rfl) (by go_simp; rfl) (by go_simp)
end Go.Proofs.Ytlofmgdjnaajjaa.Q

namespace Go.Proofs.Ytlofmgdjnaajjaa.Q
open Go.RowKit Go.Proofs.YtlofmgdjnaajjaaW.PrintWords Go.Proofs.YtlofmgdjnaajjaaW.PrintLast Go.Proofs.YtlofmgdjnaajjaaW.PrintMore
attribute [local go_sem] run_makeFunc_own max2_int min2_int max_two min_two max_three min_three max_four min_four   -- for this text's walks alone
set_option linter.unusedVariables false
set_option linter.unusedSimpArgs false

theorem eqA40 (d : Nat) (w : World) (x0 y0 : Int) (x1 y1 : Int) :
    (Op.equalIn (d + 2) 40 (.agg #[.int .i64 x0, .int .i64 x1]) (.agg #[.int .i64 y0, .int .i64 y1])).run Try.prog w = .ok (x0 == y0 && (x1 == y1)) w := by
  refine eqA_of Try.underlying40 (by kernel_rfl) ?_
  refine eqf_cons (by rfl) (by go_simp; rfl) (by go_simp; rfl) (by go_simp) ?_
  exact eqf_last (by rfl) (by go_simp; rfl) (by go_simp; rfl) (by go_simp)
end Go.Proofs.Ytlofmgdjnaajjaa.Q

namespace Go.Proofs.Ytlofmgdjnaajjaa.Q
open Go.RowKit Go.Proofs.YtlofmgdjnaajjaaW.PrintWords Go.Proofs.YtlofmgdjnaajjaaW.PrintLast Go.Proofs.YtlofmgdjnaajjaaW.PrintMore
attribute [local go_sem] run_makeFunc_own max2_int min2_int max_two min_two max_three min_three max_four min_four   -- for this text's walks alone
set_option linter.unusedVariables false
set_option linter.unusedSimpArgs false

theorem eqA64 (d : Nat) (w : World) (x0 y0 : Int) (x1 y1 : Int) :
    (Op.equalIn (d + 2) 64 (.agg #[.int .i64 x0, .int .i64 x1]) (.agg #[.int .i64 y0, .int .i64 y1])).run Try.prog w = .ok (x0 == y0 && (x1 == y1)) w := by
  refine eqA_of Try.underlying64 (by kernel_rfl) ?_
  refine eqf_cons (by rfl) (by go_simp; rfl) (by go_simp; rfl) (by go_simp) ?_
  exact eqf_last (by rfl) (by go_simp; rfl) (by go_simp; rfl) (by go_simp)
end Go.Proofs.Ytlofmgdjnaajjaa.Q

namespace Go.Proofs.Ytlofmgdjnaajjaa.Q
open Go.RowKit Go.Proofs.YtlofmgdjnaajjaaW.PrintWords Go.Proofs.YtlofmgdjnaajjaaW.PrintLast Go.Proofs.YtlofmgdjnaajjaaW.PrintMore
attribute [local go_sem] run_makeFunc_own max2_int min2_int max_two min_two max_three min_three max_four min_four   -- for this text's walks alone
set_option linter.unusedVariables false
set_option linter.unusedSimpArgs false

/-! ### monitor_look: function 27 -/
def monitor_look.f (a0_0 : Int) (a0_1 : Int) (a0_2 : Int) (a0_3 : Int) (a0_4 : Int) (a0_5 : Int) (a0_6 : Bool) : Option (Int × Int × Int × Int × Int × Int × Bool × Int × Int) := some (a0_0, a0_1, a0_2, a0_3, a0_4, a0_5, a0_6, mx 1 (wrap64 (a0_0 - a0_2)), wrap64 (a0_1 + a0_2))
set_option maxHeartbeats 8000000 in
set_option maxRecDepth 100000 in
theorem monitor_look.calls (a0_0 : Int) (a0_1 : Int) (a0_2 : Int) (a0_3 : Int) (a0_4 : Int) (a0_5 : Int) (a0_6 : Bool) (r1 : Int) (r2 : Int) (r3 : Int) (r4 : Int) (r5 : Int) (r6 : Int) (r7 : Bool) (r8 : Int) (r9 : Int) (w : World) (h : monitor_look.f a0_0 a0_1 a0_2 a0_3 a0_4 a0_5 a0_6 = some (r1, r2, r3, r4, r5, r6, r7, r8, r9)) :
    Calls Try.prog 27 #[.agg #[.int .i64 a0_0, .int .i64 a0_1, .int .i64 a0_2, .int .i64 a0_3, .int .i64 a0_4, .int .i64 a0_5, .bool a0_6]] w fun e w' => e = .returned (.agg #[.int .i64 r1, .int .i64 r2, .int .i64 r3, .int .i64 r4, .int .i64 r5, .int .i64 r6, .bool r7, .int .i64 r8, .int .i64 r9]) ∧ Below w.heap.size w w' := by
  have hu28 := Try.underlying28
  have hu66 := Try.underlying66
  have hu64 := Try.underlying64
  have HB := Aside0.mk (Below.refl w.heap.size w)
  have H : (some (a0_0, a0_1, a0_2, a0_3, a0_4, a0_5, a0_6, mx 1 (wrap64 (a0_0 - a0_2)), wrap64 (a0_1 + a0_2))) = some (r1, r2, r3, r4, r5, r6, r7, r8, r9) := h
  clear h
  obtain ⟨ji2, hji2⟩ : ∃ j_ : Int, (mx 1 (wrap64 (a0_0 - a0_2))) = j_ := ⟨_, rfl⟩
  replace H : (some (a0_0, a0_1, a0_2, a0_3, a0_4, a0_5, a0_6, ji2, wrap64 (a0_1 + a0_2))) = some (r1, r2, r3, r4, r5, r6, r7, r8, r9) := by first | (rw [hji2] at H; exact H) | (simp only [hji2] at H ⊢; exact H)
  (try (have hji2l : 1 ≤ ji2 := by (rw [← hji2]; unfold mx; (repeat' split) <;> omega)))
  (try (have hji2m : 0 ≤ ji2 := by omega))
  have hji2_ : (if 1 < (wrap64 (a0_0 - a0_2)) then (wrap64 (a0_0 - a0_2)) else 1) = ji2 := hji2
  simp only [Option.some.injEq, Prod.mk.injEq] at H
  obtain ⟨rfl, rfl, rfl, rfl, rfl, rfl, rfl, rfl, rfl⟩ := H
  go_enter Try.func27, Try.ntmps27
  go_wp2_with (first | ((with_reducible refine gate_dst (N := 1) rfl ?_); refine box_event ?hg (N := 1) ?hd (cs := #[.int .i64 a0_0, .int .i64 a0_1, .int .i64 a0_2, .int .i64 a0_3, .int .i64 a0_4, .int .i64 a0_5, .bool a0_6]) (t := 28) ?hr ?_; (case hd => rfl); (case hg => rfl); (case hr => first | (go_simp; done) | (go_simp; rfl)); intro gb101 hg w3 hbox hb; have n0_ := Aside0.mk (below_step (by repeat (first | (with_reducible first | exact HB.out | apply below_alloc | apply pw_below_drewN | apply below_drew1) | exact HB.out)) hb); have n1_ := Aside0.mk (hbox); have n2_ := Aside0.mk ((by rw [hg]; exact (below_size (by repeat (first | (with_reducible first | exact HB.out | apply below_alloc | apply pw_below_drewN | apply below_drew1) | exact HB.out))) : w.heap.size ≤ gb101)); have n3_ := Aside0.mk ((by rw [hg]; exact (below_size (by repeat (first | (with_reducible first | exact HB.out | apply below_alloc | apply pw_below_drewN | apply below_drew1) | exact HB.out))) : w.heap.size ≤ gb101)); clear HB; have HB := n0_; have BK101 := n1_; have GW101 := n2_; have GE101 := n3_; clear n0_ n1_ n2_ n3_; clear hb hbox hg) | ((with_reducible refine gate_dst (N := 2) rfl ?_); refine box_event ?hg (N := 2) ?hd (cs := #[.int .i64 0, .int .i64 0, .int .i64 0, .int .i64 0, .int .i64 0, .int .i64 0, .bool false, .int .i64 0, .int .i64 0]) (t := 66) ?hr ?_; (case hd => rfl); (case hg => rfl); (case hr => first | (go_simp; done) | (go_simp; rfl)); intro gb102 hg w4 hbox hb; have n0_ := bxb BK101 hb; have n1_ := Aside0.mk (below_step (bwt HB) hb); have n2_ := Aside0.mk (hbox); have n3_ := Aside0.mk ((by rw [hg]; exact (below_size (bwt HB)) : w.heap.size ≤ gb102)); have n4_ := Aside0.mk ((by rw [hg]; exact (below_size (bwt HB)) : w.heap.size ≤ gb102)); have n5_ := nlt_ BK101 hg; have n6_ := ngt_ BK101 hg; clear BK101; clear HB; have BK101 := n0_; have HB := n1_; have BK102 := n2_; have GW102 := n3_; have GE102 := n4_; have NB101_102 := n5_; have NB102_101 := n6_; clear n0_ n1_ n2_ n3_ n4_ n5_ n6_; clear hb hbox hg; have hnb5 := NB101_102.out; have hnc5 := NB102_101.out; have hcz6_0 : w4.cell? ⟨gb101, 0, none⟩ = some (.int .i64 a0_0) := bc BK101 0; have hcz6_1 : w4.cell? ⟨gb101, 1, none⟩ = some (.int .i64 a0_1) := bc BK101 1; have hcz6_2 : w4.cell? ⟨gb101, 2, none⟩ = some (.int .i64 a0_2) := bc BK101 2; have hcz6_3 : w4.cell? ⟨gb101, 3, none⟩ = some (.int .i64 a0_3) := bc BK101 3; have hcz6_4 : w4.cell? ⟨gb101, 4, none⟩ = some (.int .i64 a0_4) := bc BK101 4; have hcz6_5 : w4.cell? ⟨gb101, 5, none⟩ = some (.int .i64 a0_5) := bc BK101 5; have hcz6_6 : w4.cell? ⟨gb101, 6, none⟩ = some (.bool a0_6) := bc BK101 6; have hfz6_0 := blk_frozen BK101.out 0; have hfz6_1 := blk_frozen BK101.out 1; have hfz6_2 := blk_frozen BK101.out 2; have hfz6_3 := blk_frozen BK101.out 3; have hfz6_4 := blk_frozen BK101.out 4; have hfz6_5 := blk_frozen BK101.out 5; have hfz6_6 := blk_frozen BK101.out 6; have hcz7_0 : w4.cell? ⟨gb102, 0, none⟩ = some (.int .i64 0) := bc BK102 0; have hcz7_1 : w4.cell? ⟨gb102, 1, none⟩ = some (.int .i64 0) := bc BK102 1; have hcz7_2 : w4.cell? ⟨gb102, 2, none⟩ = some (.int .i64 0) := bc BK102 2; have hcz7_3 : w4.cell? ⟨gb102, 3, none⟩ = some (.int .i64 0) := bc BK102 3; have hcz7_4 : w4.cell? ⟨gb102, 4, none⟩ = some (.int .i64 0) := bc BK102 4; have hcz7_5 : w4.cell? ⟨gb102, 5, none⟩ = some (.int .i64 0) := bc BK102 5; have hcz7_6 : w4.cell? ⟨gb102, 6, none⟩ = some (.bool false) := bc BK102 6; have hcz7_7 : w4.cell? ⟨gb102, 7, none⟩ = some (.int .i64 0) := bc BK102 7; have hcz7_8 : w4.cell? ⟨gb102, 8, none⟩ = some (.int .i64 0) := bc BK102 8; have hfz7_0 := blk_frozen BK102.out 0; have hfz7_1 := blk_frozen BK102.out 1; have hfz7_2 := blk_frozen BK102.out 2; have hfz7_3 := blk_frozen BK102.out 3; have hfz7_4 := blk_frozen BK102.out 4; have hfz7_5 := blk_frozen BK102.out 5; have hfz7_6 := blk_frozen BK102.out 6; have hfz7_7 := blk_frozen BK102.out 7; have hfz7_8 := blk_frozen BK102.out 8))
  refine bodyPost_ret (results_cell_row rfl _ _ gb102 66 #[.int .i64 a0_0, .int .i64 a0_1, .int .i64 a0_2, .int .i64 a0_3, .int .i64 a0_4, .int .i64 a0_5, .bool a0_6, .int .i64 ji2, .int .i64 (wrap64 (a0_1 + a0_2))] (0, 0) _ rfl (by (with_reducible repeat refine bp_ ?_); refine blk_put (cs := #[.int .i64 a0_0, .int .i64 a0_1, .int .i64 a0_2, .int .i64 a0_3, .int .i64 a0_4, .int .i64 a0_5, .bool a0_6, .int .i64 ji2, .int .i64 0]) ?_ 8 _ rfl; (with_reducible repeat refine bp_ ?_); refine blk_put (cs := #[.int .i64 a0_0, .int .i64 a0_1, .int .i64 a0_2, .int .i64 a0_3, .int .i64 a0_4, .int .i64 a0_5, .bool a0_6, .int .i64 0, .int .i64 0]) ?_ 7 _ rfl; (with_reducible repeat refine bp_ ?_); refine blk_put (cs := #[.int .i64 a0_0, .int .i64 a0_1, .int .i64 a0_2, .int .i64 a0_3, .int .i64 a0_4, .int .i64 a0_5, .bool false, .int .i64 0, .int .i64 0]) ?_ 6 _ rfl; (with_reducible repeat refine bp_ ?_); refine blk_put (cs := #[.int .i64 a0_0, .int .i64 a0_1, .int .i64 a0_2, .int .i64 a0_3, .int .i64 a0_4, .int .i64 0, .bool false, .int .i64 0, .int .i64 0]) ?_ 5 _ rfl; (with_reducible repeat refine bp_ ?_); refine blk_put (cs := #[.int .i64 a0_0, .int .i64 a0_1, .int .i64 a0_2, .int .i64 a0_3, .int .i64 0, .int .i64 0, .bool false, .int .i64 0, .int .i64 0]) ?_ 4 _ rfl; (with_reducible repeat refine bp_ ?_); refine blk_put (cs := #[.int .i64 a0_0, .int .i64 a0_1, .int .i64 a0_2, .int .i64 0, .int .i64 0, .int .i64 0, .bool false, .int .i64 0, .int .i64 0]) ?_ 3 _ rfl; (with_reducible repeat refine bp_ ?_); refine blk_put (cs := #[.int .i64 a0_0, .int .i64 a0_1, .int .i64 0, .int .i64 0, .int .i64 0, .int .i64 0, .bool false, .int .i64 0, .int .i64 0]) ?_ 2 _ rfl; (with_reducible repeat refine bp_ ?_); refine blk_put (cs := #[.int .i64 a0_0, .int .i64 0, .int .i64 0, .int .i64 0, .int .i64 0, .int .i64 0, .bool false, .int .i64 0, .int .i64 0]) ?_ 1 _ rfl; (with_reducible repeat refine bp_ ?_); refine blk_put (cs := #[.int .i64 0, .int .i64 0, .int .i64 0, .int .i64 0, .int .i64 0, .int .i64 0, .bool false, .int .i64 0, .int .i64 0]) ?_ 0 _ rfl; (with_reducible repeat refine bp_ ?_); exact BK102.out) Try.underlying66 rfl (by kernel_rfl)) rfl ?_
  exact ⟨by first | rfl | (simp [errW_none, errW_some] <;> rfl) | (simp only [← hji2]; first | rfl | (simp [errW_none, errW_some] <;> rfl)) | (simp [*, errW_none, errW_some] <;> rfl), by repeat (first | (with_reducible first | exact HB.out | apply below_alloc | apply pw_below_drewN | apply below_drew1 | refine below_set ?_ GE101.out | refine below_set ?_ GE102.out) | exact HB.out)⟩

end Go.Proofs.Ytlofmgdjnaajjaa.Q

namespace Go.Proofs.Ytlofmgdjnaajjaa.Q
open Go.RowKit Go.Proofs.YtlofmgdjnaajjaaW.PrintWords Go.Proofs.YtlofmgdjnaajjaaW.PrintLast Go.Proofs.YtlofmgdjnaajjaaW.PrintMore
attribute [local go_sem] run_makeFunc_own max2_int min2_int max_two min_two max_three min_three max_four min_four   -- for this text's walks alone
set_option linter.unusedVariables false
set_option linter.unusedSimpArgs false

/-! ### monitor_span_meet: function 42 -/
def monitor_span_meet.f (a0_0 : Int) (a0_1 : Int) (a1_0 : Int) (a1_1 : Int) : Option (Int × Int) := some (mx a0_0 a1_0, mn a0_1 a1_1)
set_option maxHeartbeats 8000000 in
set_option maxRecDepth 100000 in
theorem monitor_span_meet.calls (a0_0 : Int) (a0_1 : Int) (a1_0 : Int) (a1_1 : Int) (r1 : Int) (r2 : Int) (w : World) (h : monitor_span_meet.f a0_0 a0_1 a1_0 a1_1 = some (r1, r2)) :
    Calls Try.prog 42 #[.agg #[.int .i64 a0_0, .int .i64 a0_1], .agg #[.int .i64 a1_0, .int .i64 a1_1]] w fun e w' => e = .returned (.agg #[.int .i64 r1, .int .i64 r2]) ∧ Below w.heap.size w w' := by
  have hu64 := Try.underlying64
  have HB := Aside0.mk (Below.refl w.heap.size w)
  have H : (some (mx a0_0 a1_0, mn a0_1 a1_1)) = some (r1, r2) := h
  clear h
  obtain ⟨ji3, hji3⟩ : ∃ j_ : Int, (mx a0_0 a1_0) = j_ := ⟨_, rfl⟩
  replace H : (some (ji3, mn a0_1 a1_1)) = some (r1, r2) := by first | (rw [hji3] at H; exact H) | (simp only [hji3] at H ⊢; exact H)
  have hji3_ : (if a0_0 < a1_0 then a1_0 else a0_0) = ji3 := hji3
  obtain ⟨ji4, hji4⟩ : ∃ j_ : Int, (mn a0_1 a1_1) = j_ := ⟨_, rfl⟩
  replace H : (some (ji3, ji4)) = some (r1, r2) := by first | (rw [hji4] at H; exact H) | (simp only [hji4] at H ⊢; exact H)
  have hji4_ : (if a1_1 < a0_1 then a1_1 else a0_1) = ji4 := hji4
  simp only [Option.some.injEq, Prod.mk.injEq] at H
  obtain ⟨rfl, rfl⟩ := H
  go_enter Try.func42, Try.ntmps42
  go_wp2_with (first | ((with_reducible refine gate_dst (N := 2) rfl ?_); refine box_event ?hg (N := 2) ?hd (cs := #[.int .i64 a0_0, .int .i64 a0_1]) (t := 64) ?hr ?_; (case hd => rfl); (case hg => rfl); (case hr => first | (go_simp; done) | (go_simp; rfl)); intro gb157 hg w5 hbox hb; have n0_ := Aside0.mk (below_step (by repeat (first | (with_reducible first | exact HB.out | apply below_alloc | apply pw_below_drewN | apply below_drew1) | exact HB.out)) hb); have n1_ := Aside0.mk (hbox); have n2_ := Aside0.mk ((by rw [hg]; exact (below_size (by repeat (first | (with_reducible first | exact HB.out | apply below_alloc | apply pw_below_drewN | apply below_drew1) | exact HB.out))) : w.heap.size ≤ gb157)); have n3_ := Aside0.mk ((by rw [hg]; exact (below_size (by repeat (first | (with_reducible first | exact HB.out | apply below_alloc | apply pw_below_drewN | apply below_drew1) | exact HB.out))) : w.heap.size ≤ gb157)); clear HB; have HB := n0_; have BK157 := n1_; have GW157 := n2_; have GE157 := n3_; clear n0_ n1_ n2_ n3_; clear hb hbox hg) | ((with_reducible refine gate_dst (N := 3) rfl ?_); refine box_event ?hg (N := 3) ?hd (cs := #[.int .i64 a1_0, .int .i64 a1_1]) (t := 64) ?hr ?_; (case hd => rfl); (case hg => rfl); (case hr => first | (go_simp; done) | (go_simp; rfl)); intro gb158 hg w6 hbox hb; have n0_ := bxb BK157 hb; have n1_ := Aside0.mk (below_step (bwt HB) hb); have n2_ := Aside0.mk (hbox); have n3_ := Aside0.mk ((by rw [hg]; exact (below_size (bwt HB)) : w.heap.size ≤ gb158)); have n4_ := Aside0.mk ((by rw [hg]; exact (below_size (bwt HB)) : w.heap.size ≤ gb158)); have n5_ := nlt_ BK157 hg; have n6_ := ngt_ BK157 hg; clear BK157; clear HB; have BK157 := n0_; have HB := n1_; have BK158 := n2_; have GW158 := n3_; have GE158 := n4_; have NB157_158 := n5_; have NB158_157 := n6_; clear n0_ n1_ n2_ n3_ n4_ n5_ n6_; clear hb hbox hg) | ((with_reducible refine gate_dst (N := 4) rfl ?_); refine box_event ?hg (N := 4) ?hd (cs := #[.int .i64 0, .int .i64 0]) (t := 64) ?hr ?_; (case hd => rfl); (case hg => rfl); (case hr => first | (go_simp; done) | (go_simp; rfl)); intro gb159 hg w7 hbox hb; have n0_ := bxb BK157 hb; have n1_ := bxb BK158 hb; have n2_ := Aside0.mk (below_step (bwt HB) hb); have n3_ := Aside0.mk (hbox); have n4_ := Aside0.mk ((by rw [hg]; exact (below_size (bwt HB)) : w.heap.size ≤ gb159)); have n5_ := Aside0.mk ((by rw [hg]; exact (below_size (bwt HB)) : w.heap.size ≤ gb159)); have n6_ := nlt_ BK157 hg; have n7_ := ngt_ BK157 hg; have n8_ := nlt_ BK158 hg; have n9_ := ngt_ BK158 hg; clear BK157; clear BK158; clear HB; have BK157 := n0_; have BK158 := n1_; have HB := n2_; have BK159 := n3_; have GW159 := n4_; have GE159 := n5_; have NB157_159 := n6_; have NB159_157 := n7_; have NB158_159 := n8_; have NB159_158 := n9_; clear n0_ n1_ n2_ n3_ n4_ n5_ n6_ n7_ n8_ n9_; clear hb hbox hg; have hnb8 := NB157_158.out; have hnc8 := NB158_157.out; have hnb9 := NB157_159.out; have hnc9 := NB159_157.out; have hcz10_0 : w7.cell? ⟨gb157, 0, none⟩ = some (.int .i64 a0_0) := bc BK157 0; have hcz10_1 : w7.cell? ⟨gb157, 1, none⟩ = some (.int .i64 a0_1) := bc BK157 1; have hfz10_0 := blk_frozen BK157.out 0; have hfz10_1 := blk_frozen BK157.out 1; have hnb11 := NB158_159.out; have hnc11 := NB159_158.out; have hcz12_0 : w7.cell? ⟨gb158, 0, none⟩ = some (.int .i64 a1_0) := bc BK158 0; have hcz12_1 : w7.cell? ⟨gb158, 1, none⟩ = some (.int .i64 a1_1) := bc BK158 1; have hfz12_0 := blk_frozen BK158.out 0; have hfz12_1 := blk_frozen BK158.out 1; have hcz13_0 : w7.cell? ⟨gb159, 0, none⟩ = some (.int .i64 0) := bc BK159 0; have hcz13_1 : w7.cell? ⟨gb159, 1, none⟩ = some (.int .i64 0) := bc BK159 1; have hfz13_0 := blk_frozen BK159.out 0; have hfz13_1 := blk_frozen BK159.out 1))
  refine bodyPost_ret (results_cell_row rfl _ _ gb159 64 #[.int .i64 ji3, .int .i64 ji4] (0, 0) _ rfl (by (with_reducible repeat refine bp_ ?_); refine blk_put (cs := #[.int .i64 ji3, .int .i64 0]) ?_ 1 _ rfl; (with_reducible repeat refine bp_ ?_); refine blk_put (cs := #[.int .i64 0, .int .i64 0]) ?_ 0 _ rfl; (with_reducible repeat refine bp_ ?_); exact BK159.out) Try.underlying64 rfl (by kernel_rfl)) rfl ?_
  exact ⟨by first | rfl | (simp [errW_none, errW_some] <;> rfl) | (simp only [← hji3, ← hji4]; first | rfl | (simp [errW_none, errW_some] <;> rfl)) | (simp [*, errW_none, errW_some] <;> rfl), by repeat (first | (with_reducible first | exact HB.out | apply below_alloc | apply pw_below_drewN | apply below_drew1 | refine below_set ?_ GE157.out | refine below_set ?_ GE158.out | refine below_set ?_ GE159.out) | exact HB.out)⟩

end Go.Proofs.Ytlofmgdjnaajjaa.Q

namespace Go.Proofs.Ytlofmgdjnaajjaa.Q
open Go.RowKit Go.Proofs.YtlofmgdjnaajjaaW.PrintWords Go.Proofs.YtlofmgdjnaajjaaW.PrintLast Go.Proofs.YtlofmgdjnaajjaaW.PrintMore
attribute [local go_sem] run_makeFunc_own max2_int min2_int max_two min_two max_three min_three max_four min_four   -- for this text's walks alone
set_option linter.unusedVariables false
set_option linter.unusedSimpArgs false

/-! ### monitor_view_explained: function 33 -/
def monitor_view_explained.f (a0_0 : Int) (a0_1 : Int) (a0_2 : Int) (a0_3 : Int) (a0_4 : Int) (a0_5 : Int) (a0_6 : Bool) (a0_7 : Int) (a0_8 : Int) (a1 : Int) : Option (Int × Int) := if a1 < (-4000000) then (some (1, 0)) else (if a1 > 4000000 then (some (1, 0)) else ((monitor_span_meet.f a0_7 a0_8 (wrap64 (a1 - a0_3)) (wrap64 (a1 + a0_3))).bind fun bt162 => (some (bt162.1, bt162.2))))
set_option maxHeartbeats 8000000 in
set_option maxRecDepth 100000 in
theorem monitor_view_explained.calls (a0_0 : Int) (a0_1 : Int) (a0_2 : Int) (a0_3 : Int) (a0_4 : Int) (a0_5 : Int) (a0_6 : Bool) (a0_7 : Int) (a0_8 : Int) (a1 : Int) (r1 : Int) (r2 : Int) (w : World) (h : monitor_view_explained.f a0_0 a0_1 a0_2 a0_3 a0_4 a0_5 a0_6 a0_7 a0_8 a1 = some (r1, r2)) :
    Calls Try.prog 33 #[.agg #[.int .i64 a0_0, .int .i64 a0_1, .int .i64 a0_2, .int .i64 a0_3, .int .i64 a0_4, .int .i64 a0_5, .bool a0_6, .int .i64 a0_7, .int .i64 a0_8], .int .i64 a1] w fun e w' => e = .returned (.agg #[.int .i64 r1, .int .i64 r2]) ∧ Below w.heap.size w w' := by
  have hu66 := Try.underlying66
  have hu64 := Try.underlying64
  have hu28 := Try.underlying28
  have HB := Aside0.mk (Below.refl w.heap.size w)
  have H : (if a1 < (-4000000) then (some (1, 0)) else (if a1 > 4000000 then (some (1, 0)) else ((monitor_span_meet.f a0_7 a0_8 (wrap64 (a1 - a0_3)) (wrap64 (a1 + a0_3))).bind fun bt162 => (some (bt162.1, bt162.2))))) = some (r1, r2) := h
  clear h
  by_cases c3 : a1 < (-4000000)
  · rw [if_pos c3] at H
    have c3b0 : decide (a1 < (-4000000)) = true := decide_eq_true c3
    clear c3
    simp only [Option.some.injEq, Prod.mk.injEq] at H
    obtain ⟨rfl, rfl⟩ := H
    go_enter Try.func33, Try.ntmps33
    go_wp2_with (first | ((with_reducible refine gate_dst (N := 2) rfl ?_); refine box_event ?hg (N := 2) ?hd (cs := #[.int .i64 a0_0, .int .i64 a0_1, .int .i64 a0_2, .int .i64 a0_3, .int .i64 a0_4, .int .i64 a0_5, .bool a0_6, .int .i64 a0_7, .int .i64 a0_8]) (t := 66) ?hr ?_; (case hd => rfl); (case hg => rfl); (case hr => first | (go_simp; done) | (go_simp; rfl)); intro gb160 hg w4 hbox hb; have n0_ := Aside0.mk (below_step (by repeat (first | (with_reducible first | exact HB.out | apply below_alloc | apply pw_below_drewN | apply below_drew1) | exact HB.out)) hb); have n1_ := Aside0.mk (hbox); have n2_ := Aside0.mk ((by rw [hg]; exact (below_size (by repeat (first | (with_reducible first | exact HB.out | apply below_alloc | apply pw_below_drewN | apply below_drew1) | exact HB.out))) : w.heap.size ≤ gb160)); have n3_ := Aside0.mk ((by rw [hg]; exact (below_size (by repeat (first | (with_reducible first | exact HB.out | apply below_alloc | apply pw_below_drewN | apply below_drew1) | exact HB.out))) : w.heap.size ≤ gb160)); clear HB; have HB := n0_; have BK160 := n1_; have GW160 := n2_; have GE160 := n3_; clear n0_ n1_ n2_ n3_; clear hb hbox hg) | ((with_reducible refine gate_dst (N := 4) rfl ?_); refine box_event ?hg (N := 4) ?hd (cs := #[.int .i64 0, .int .i64 0]) (t := 64) ?hr ?_; (case hd => rfl); (case hg => rfl); (case hr => first | (go_simp; done) | (go_simp; rfl)); intro gb161 hg w5 hbox hb; have n0_ := bxb BK160 hb; have n1_ := Aside0.mk (below_step (bwt HB) hb); have n2_ := Aside0.mk (hbox); have n3_ := Aside0.mk ((by rw [hg]; exact (below_size (bwt HB)) : w.heap.size ≤ gb161)); have n4_ := Aside0.mk ((by rw [hg]; exact (below_size (bwt HB)) : w.heap.size ≤ gb161)); have n5_ := nlt_ BK160 hg; have n6_ := ngt_ BK160 hg; clear BK160; clear HB; have BK160 := n0_; have HB := n1_; have BK161 := n2_; have GW161 := n3_; have GE161 := n4_; have NB160_161 := n5_; have NB161_160 := n6_; clear n0_ n1_ n2_ n3_ n4_ n5_ n6_; clear hb hbox hg; have hnb6 := NB161_160.out; have hnc6 := NB160_161.out; have hcz7_0 : w5.cell? ⟨gb161, 0, none⟩ = some (.int .i64 0) := bc BK161 0; have hcz7_1 : w5.cell? ⟨gb161, 1, none⟩ = some (.int .i64 0) := bc BK161 1; have hfz7_0 := blk_frozen BK161.out 0; have hfz7_1 := blk_frozen BK161.out 1))
    refine bodyPost_ret (results_cell_row rfl _ _ gb161 64 #[.int .i64 1, .int .i64 0] (0, 0) _ rfl (by (with_reducible repeat refine bp_ ?_); refine blk_put (cs := #[.int .i64 1, .int .i64 0]) ?_ 1 _ rfl; (with_reducible repeat refine bp_ ?_); refine blk_put (cs := #[.int .i64 0, .int .i64 0]) ?_ 0 _ rfl; (with_reducible repeat refine bp_ ?_); exact BK161.out) Try.underlying64 rfl (by kernel_rfl)) rfl ?_
    exact ⟨by first | rfl | (simp [errW_none, errW_some] <;> rfl) | (simp [*, errW_none, errW_some] <;> rfl), by repeat (first | (with_reducible first | exact HB.out | apply below_alloc | apply pw_below_drewN | apply below_drew1 | refine below_set ?_ GE160.out | refine below_set ?_ GE161.out) | exact HB.out)⟩
  · rw [if_neg c3] at H
    have c3b0 : decide (a1 < (-4000000)) = false := decide_eq_false c3
    clear c3
    by_cases c8 : a1 > 4000000
    · rw [if_pos c8] at H
      have c8b0 : decide (4000000 < a1) = true := decide_eq_true c8
      clear c8
      simp only [Option.some.injEq, Prod.mk.injEq] at H
      obtain ⟨rfl, rfl⟩ := H
      go_enter Try.func33, Try.ntmps33
      go_wp2_with (first | ((with_reducible refine gate_dst (N := 2) rfl ?_); refine box_event ?hg (N := 2) ?hd (cs := #[.int .i64 a0_0, .int .i64 a0_1, .int .i64 a0_2, .int .i64 a0_3, .int .i64 a0_4, .int .i64 a0_5, .bool a0_6, .int .i64 a0_7, .int .i64 a0_8]) (t := 66) ?hr ?_; (case hd => rfl); (case hg => rfl); (case hr => first | (go_simp; done) | (go_simp; rfl)); intro gb160 hg w9 hbox hb; have n0_ := Aside0.mk (below_step (by repeat (first | (with_reducible first | exact HB.out | apply below_alloc | apply pw_below_drewN | apply below_drew1) | exact HB.out)) hb); have n1_ := Aside0.mk (hbox); have n2_ := Aside0.mk ((by rw [hg]; exact (below_size (by repeat (first | (with_reducible first | exact HB.out | apply below_alloc | apply pw_below_drewN | apply below_drew1) | exact HB.out))) : w.heap.size ≤ gb160)); have n3_ := Aside0.mk ((by rw [hg]; exact (below_size (by repeat (first | (with_reducible first | exact HB.out | apply below_alloc | apply pw_below_drewN | apply below_drew1) | exact HB.out))) : w.heap.size ≤ gb160)); clear HB; have HB := n0_; have BK160 := n1_; have GW160 := n2_; have GE160 := n3_; clear n0_ n1_ n2_ n3_; clear hb hbox hg) | ((with_reducible refine gate_dst (N := 4) rfl ?_); refine box_event ?hg (N := 4) ?hd (cs := #[.int .i64 0, .int .i64 0]) (t := 64) ?hr ?_; (case hd => rfl); (case hg => rfl); (case hr => first | (go_simp; done) | (go_simp; rfl)); intro gb161 hg w10 hbox hb; have n0_ := bxb BK160 hb; have n1_ := Aside0.mk (below_step (bwt HB) hb); have n2_ := Aside0.mk (hbox); have n3_ := Aside0.mk ((by rw [hg]; exact (below_size (bwt HB)) : w.heap.size ≤ gb161)); have n4_ := Aside0.mk ((by rw [hg]; exact (below_size (bwt HB)) : w.heap.size ≤ gb161)); have n5_ := nlt_ BK160 hg; have n6_ := ngt_ BK160 hg; clear BK160; clear HB; have BK160 := n0_; have HB := n1_; have BK161 := n2_; have GW161 := n3_; have GE161 := n4_; have NB160_161 := n5_; have NB161_160 := n6_; clear n0_ n1_ n2_ n3_ n4_ n5_ n6_; clear hb hbox hg; have hnb11 := NB161_160.out; have hnc11 := NB160_161.out; have hcz12_0 : w10.cell? ⟨gb161, 0, none⟩ = some (.int .i64 0) := bc BK161 0; have hcz12_1 : w10.cell? ⟨gb161, 1, none⟩ = some (.int .i64 0) := bc BK161 1; have hfz12_0 := blk_frozen BK161.out 0; have hfz12_1 := blk_frozen BK161.out 1))
      refine bodyPost_ret (results_cell_row rfl _ _ gb161 64 #[.int .i64 1, .int .i64 0] (0, 0) _ rfl (by (with_reducible repeat refine bp_ ?_); refine blk_put (cs := #[.int .i64 1, .int .i64 0]) ?_ 1 _ rfl; (with_reducible repeat refine bp_ ?_); refine blk_put (cs := #[.int .i64 0, .int .i64 0]) ?_ 0 _ rfl; (with_reducible repeat refine bp_ ?_); exact BK161.out) Try.underlying64 rfl (by kernel_rfl)) rfl ?_
      exact ⟨by first | rfl | (simp [errW_none, errW_some] <;> rfl) | (simp [*, errW_none, errW_some] <;> rfl), by repeat (first | (with_reducible first | exact HB.out | apply below_alloc | apply pw_below_drewN | apply below_drew1 | refine below_set ?_ GE160.out | refine below_set ?_ GE161.out) | exact HB.out)⟩
    · rw [if_neg c8] at H
      have c8b0 : decide (4000000 < a1) = false := decide_eq_false c8
      clear c8
      replace H := Option.bind_eq_some_iff.mp H
      obtain ⟨⟨t162, t163⟩, A130, H⟩ := H
      replace H : (some (t162, t163)) = some (r1, r2) := H
      have A13 := Aside0.mk A130
      clear A130
      simp only [Option.some.injEq, Prod.mk.injEq] at H
      obtain ⟨rfl, rfl⟩ := H
      go_enter Try.func33, Try.ntmps33
      go_wp2_with (first | ((with_reducible refine gate_dst (N := 2) rfl ?_); refine box_event ?hg (N := 2) ?hd (cs := #[.int .i64 a0_0, .int .i64 a0_1, .int .i64 a0_2, .int .i64 a0_3, .int .i64 a0_4, .int .i64 a0_5, .bool a0_6, .int .i64 a0_7, .int .i64 a0_8]) (t := 66) ?hr ?_; (case hd => rfl); (case hg => rfl); (case hr => first | (go_simp; done) | (go_simp; rfl)); intro gb160 hg w14 hbox hb; have n0_ := Aside0.mk (below_step (by repeat (first | (with_reducible first | exact HB.out | apply below_alloc | apply pw_below_drewN | apply below_drew1) | exact HB.out)) hb); have n1_ := Aside0.mk (hbox); have n2_ := Aside0.mk ((by rw [hg]; exact (below_size (by repeat (first | (with_reducible first | exact HB.out | apply below_alloc | apply pw_below_drewN | apply below_drew1) | exact HB.out))) : w.heap.size ≤ gb160)); have n3_ := Aside0.mk ((by rw [hg]; exact (below_size (by repeat (first | (with_reducible first | exact HB.out | apply below_alloc | apply pw_below_drewN | apply below_drew1) | exact HB.out))) : w.heap.size ≤ gb160)); clear HB; have HB := n0_; have BK160 := n1_; have GW160 := n2_; have GE160 := n3_; clear n0_ n1_ n2_ n3_; clear hb hbox hg) | ((with_reducible refine gate_dst (N := 4) rfl ?_); refine box_event ?hg (N := 4) ?hd (cs := #[.int .i64 0, .int .i64 0]) (t := 64) ?hr ?_; (case hd => rfl); (case hg => rfl); (case hr => first | (go_simp; done) | (go_simp; rfl)); intro gb161 hg w15 hbox hb; have n0_ := bxb BK160 hb; have n1_ := Aside0.mk (below_step (bwt HB) hb); have n2_ := Aside0.mk (hbox); have n3_ := Aside0.mk ((by rw [hg]; exact (below_size (bwt HB)) : w.heap.size ≤ gb161)); have n4_ := Aside0.mk ((by rw [hg]; exact (below_size (bwt HB)) : w.heap.size ≤ gb161)); have n5_ := nlt_ BK160 hg; have n6_ := ngt_ BK160 hg; clear BK160; clear HB; have BK160 := n0_; have HB := n1_; have BK161 := n2_; have GW161 := n3_; have GE161 := n4_; have NB160_161 := n5_; have NB161_160 := n6_; clear n0_ n1_ n2_ n3_ n4_ n5_ n6_; clear hb hbox hg; have hnb16 := NB160_161.out; have hnc16 := NB161_160.out; have hcz17_0 : w15.cell? ⟨gb160, 0, none⟩ = some (.int .i64 a0_0) := bc BK160 0; have hcz17_1 : w15.cell? ⟨gb160, 1, none⟩ = some (.int .i64 a0_1) := bc BK160 1; have hcz17_2 : w15.cell? ⟨gb160, 2, none⟩ = some (.int .i64 a0_2) := bc BK160 2; have hcz17_3 : w15.cell? ⟨gb160, 3, none⟩ = some (.int .i64 a0_3) := bc BK160 3; have hcz17_4 : w15.cell? ⟨gb160, 4, none⟩ = some (.int .i64 a0_4) := bc BK160 4; have hcz17_5 : w15.cell? ⟨gb160, 5, none⟩ = some (.int .i64 a0_5) := bc BK160 5; have hcz17_6 : w15.cell? ⟨gb160, 6, none⟩ = some (.bool a0_6) := bc BK160 6; have hcz17_7 : w15.cell? ⟨gb160, 7, none⟩ = some (.int .i64 a0_7) := bc BK160 7; have hcz17_8 : w15.cell? ⟨gb160, 8, none⟩ = some (.int .i64 a0_8) := bc BK160 8; have hfz17_0 := blk_frozen BK160.out 0; have hfz17_1 := blk_frozen BK160.out 1; have hfz17_2 := blk_frozen BK160.out 2; have hfz17_3 := blk_frozen BK160.out 3; have hfz17_4 := blk_frozen BK160.out 4; have hfz17_5 := blk_frozen BK160.out 5; have hfz17_6 := blk_frozen BK160.out 6; have hfz17_7 := blk_frozen BK160.out 7; have hfz17_8 := blk_frozen BK160.out 8) | ((with_reducible refine gate_callee (f := 42) rfl ?_); refine goesL_ (some 25) rfl rfl Try.func42 (by kernel_rfl) rfl #[.agg #[.int .i64 a0_7, .int .i64 a0_8], .agg #[.int .i64 (wrap64 (a1 - a0_3)), .int .i64 (wrap64 (a1 + a0_3))]] rfl (by (try simp only [List.map_toArray, List.map_cons, List.map_nil]); first | done | rfl | (simp only [List.length_drop, List.length_take]; rfl)) ?_; (with_reducible refine (monitor_span_meet.calls a0_7 a0_8 (wrap64 (a1 - a0_3)) (wrap64 (a1 + a0_3)) t162 t163 _ A13.out).mono ?_); rintro e w18 ⟨rfl, hb⟩; refine ⟨_, rfl, ?_⟩; have n0_ := bxb BK160 hb; have n1_ := bxb BK161 hb; have n2_ := Aside0.mk (below_step (bwt HB) hb); clear BK160; clear BK161; clear HB; have BK160 := n0_; have BK161 := n1_; have HB := n2_; clear n0_ n1_ n2_; (try clear hb); (try clear hb2); (try clear hk); (try clear hi); have hcz19_0 : w18.cell? ⟨gb161, 0, none⟩ = some (.int .i64 0) := bc BK161 0; have hcz19_1 : w18.cell? ⟨gb161, 1, none⟩ = some (.int .i64 0) := bc BK161 1; have hfz19_0 := blk_frozen BK161.out 0; have hfz19_1 := blk_frozen BK161.out 1))
      refine bodyPost_ret (results_cell_row rfl _ _ gb161 64 #[.int .i64 t162, .int .i64 t163] (0, 0) _ rfl (by (with_reducible repeat refine bp_ ?_); refine blk_put (cs := #[.int .i64 t162, .int .i64 0]) ?_ 1 _ rfl; (with_reducible repeat refine bp_ ?_); refine blk_put (cs := #[.int .i64 0, .int .i64 0]) ?_ 0 _ rfl; (with_reducible repeat refine bp_ ?_); exact BK161.out) Try.underlying64 rfl (by kernel_rfl)) rfl ?_
      exact ⟨by first | rfl | (simp [errW_none, errW_some] <;> rfl) | (simp [*, errW_none, errW_some] <;> rfl), by repeat (first | (with_reducible first | exact HB.out | apply below_alloc | apply pw_below_drewN | apply below_drew1 | refine below_set ?_ GE160.out | refine below_set ?_ GE161.out) | exact HB.out)⟩

end Go.Proofs.Ytlofmgdjnaajjaa.Q

namespace Go.Proofs.Ytlofmgdjnaajjaa.Q
open Go.RowKit Go.Proofs.YtlofmgdjnaajjaaW.PrintWords Go.Proofs.YtlofmgdjnaajjaaW.PrintLast Go.Proofs.YtlofmgdjnaajjaaW.PrintMore
attribute [local go_sem] run_makeFunc_own max2_int min2_int max_two min_two max_three min_three max_four min_four   -- for this text's walks alone
set_option linter.unusedVariables false
set_option linter.unusedSimpArgs false

attribute [local go_sem high] eqA64
/-! ### monitor_Agrees: function 19 -/
def monitor_Agrees.f (a0_0 : Int) (a0_1 : Int) (a0_2 : Int) (a0_3 : Int) (a0_4 : Int) (a0_5 : Int) (a0_6 : Bool) (a1 : Int) : Option (Bool) := (monitor_look.f a0_0 a0_1 a0_2 a0_3 a0_4 a0_5 a0_6).bind fun bt165 => ((monitor_view_explained.f bt165.1 bt165.2.1 bt165.2.2.1 bt165.2.2.2.1 bt165.2.2.2.2.1 bt165.2.2.2.2.2.1 bt165.2.2.2.2.2.2.1 bt165.2.2.2.2.2.2.2.1 bt165.2.2.2.2.2.2.2.2 a1).bind fun bt174 => (if (!(bt174.1 == 1) || (!(bt174.2 == 0))) = true then (some (decide (bt174.1 ≤ bt174.2))) else (some false)))
set_option maxHeartbeats 8000000 in
set_option maxRecDepth 100000 in
theorem monitor_Agrees.calls (a0_0 : Int) (a0_1 : Int) (a0_2 : Int) (a0_3 : Int) (a0_4 : Int) (a0_5 : Int) (a0_6 : Bool) (a1 : Int) (r : Bool) (w : World) (h : monitor_Agrees.f a0_0 a0_1 a0_2 a0_3 a0_4 a0_5 a0_6 a1 = some r) :
    Calls Try.prog 19 #[.agg #[.int .i64 a0_0, .int .i64 a0_1, .int .i64 a0_2, .int .i64 a0_3, .int .i64 a0_4, .int .i64 a0_5, .bool a0_6], .int .i64 a1] w fun e w' => e = .returned (.bool r) ∧ Below w.heap.size w w' := by
  have hu28 := Try.underlying28
  have hu64 := Try.underlying64
  have HB := Aside0.mk (Below.refl w.heap.size w)
  have H : ((monitor_look.f a0_0 a0_1 a0_2 a0_3 a0_4 a0_5 a0_6).bind fun bt165 => ((monitor_view_explained.f bt165.1 bt165.2.1 bt165.2.2.1 bt165.2.2.2.1 bt165.2.2.2.2.1 bt165.2.2.2.2.2.1 bt165.2.2.2.2.2.2.1 bt165.2.2.2.2.2.2.2.1 bt165.2.2.2.2.2.2.2.2 a1).bind fun bt174 => (if (!(bt174.1 == 1) || (!(bt174.2 == 0))) = true then (some (decide (bt174.1 ≤ bt174.2))) else (some false)))) = some r := h
  clear h
  replace H := Option.bind_eq_some_iff.mp H
  obtain ⟨⟨t165, t166, t167, t168, t169, t170, t171, t172, t173⟩, A30, H⟩ := H
  replace H : ((monitor_view_explained.f t165 t166 t167 t168 t169 t170 t171 t172 t173 a1).bind fun bt174 => (if (!(bt174.1 == 1) || (!(bt174.2 == 0))) = true then (some (decide (bt174.1 ≤ bt174.2))) else (some false))) = some r := H
  have A3 := Aside0.mk A30
  clear A30
  replace H := Option.bind_eq_some_iff.mp H
  obtain ⟨⟨t174, t175⟩, A40, H⟩ := H
  replace H : (if (!(t174 == 1) || (!(t175 == 0))) = true then (some (decide (t174 ≤ t175))) else (some false)) = some r := H
  have A4 := Aside0.mk A40
  clear A40
  by_cases c5 : (!(t174 == 1) || (!(t175 == 0))) = true
  · rw [if_pos c5] at H
    have c5b0 : (!(t174 == 1) || (!(t175 == 0))) = true := c5
    clear c5
    obtain rfl := Option.some.inj H
    go_enter Try.func19, Try.ntmps19
    go_wp2_with (first | ((with_reducible refine gate_dst (N := 2) rfl ?_); refine box_event ?hg (N := 2) ?hd (cs := #[.int .i64 a0_0, .int .i64 a0_1, .int .i64 a0_2, .int .i64 a0_3, .int .i64 a0_4, .int .i64 a0_5, .bool a0_6]) (t := 28) ?hr ?_; (case hd => rfl); (case hg => rfl); (case hr => first | (go_simp; done) | (go_simp; rfl)); intro gb164 hg w6 hbox hb; have n0_ := Aside0.mk (below_step (by repeat (first | (with_reducible first | exact HB.out | apply below_alloc | apply pw_below_drewN | apply below_drew1) | exact HB.out)) hb); have n1_ := Aside0.mk (hbox); have n2_ := Aside0.mk ((by rw [hg]; exact (below_size (by repeat (first | (with_reducible first | exact HB.out | apply below_alloc | apply pw_below_drewN | apply below_drew1) | exact HB.out))) : w.heap.size ≤ gb164)); have n3_ := Aside0.mk ((by rw [hg]; exact (below_size (by repeat (first | (with_reducible first | exact HB.out | apply below_alloc | apply pw_below_drewN | apply below_drew1) | exact HB.out))) : w.heap.size ≤ gb164)); clear HB; have HB := n0_; have BK164 := n1_; have GW164 := n2_; have GE164 := n3_; clear n0_ n1_ n2_ n3_; clear hb hbox hg; have hcz7_0 : w6.cell? ⟨gb164, 0, none⟩ = some (.int .i64 a0_0) := bc BK164 0; have hcz7_1 : w6.cell? ⟨gb164, 1, none⟩ = some (.int .i64 a0_1) := bc BK164 1; have hcz7_2 : w6.cell? ⟨gb164, 2, none⟩ = some (.int .i64 a0_2) := bc BK164 2; have hcz7_3 : w6.cell? ⟨gb164, 3, none⟩ = some (.int .i64 a0_3) := bc BK164 3; have hcz7_4 : w6.cell? ⟨gb164, 4, none⟩ = some (.int .i64 a0_4) := bc BK164 4; have hcz7_5 : w6.cell? ⟨gb164, 5, none⟩ = some (.int .i64 a0_5) := bc BK164 5; have hcz7_6 : w6.cell? ⟨gb164, 6, none⟩ = some (.bool a0_6) := bc BK164 6; have hfz7_0 := blk_frozen BK164.out 0; have hfz7_1 := blk_frozen BK164.out 1; have hfz7_2 := blk_frozen BK164.out 2; have hfz7_3 := blk_frozen BK164.out 3; have hfz7_4 := blk_frozen BK164.out 4; have hfz7_5 := blk_frozen BK164.out 5; have hfz7_6 := blk_frozen BK164.out 6) | ((with_reducible refine gate_callee (f := 27) rfl ?_); refine goesL_ (some 7) rfl rfl Try.func27 (by kernel_rfl) rfl #[.agg #[.int .i64 a0_0, .int .i64 a0_1, .int .i64 a0_2, .int .i64 a0_3, .int .i64 a0_4, .int .i64 a0_5, .bool a0_6]] rfl (by (try simp only [List.map_toArray, List.map_cons, List.map_nil]); first | done | rfl | (simp only [List.length_drop, List.length_take]; rfl)) ?_; (with_reducible refine (monitor_look.calls a0_0 a0_1 a0_2 a0_3 a0_4 a0_5 a0_6 t165 t166 t167 t168 t169 t170 t171 t172 t173 _ A3.out).mono ?_); rintro e w8 ⟨rfl, hb⟩; refine ⟨_, rfl, ?_⟩; have n0_ := bxb BK164 hb; have n1_ := Aside0.mk (below_step (bwt HB) hb); clear BK164; clear HB; have BK164 := n0_; have HB := n1_; clear n0_ n1_; (try clear hb); (try clear hb2); (try clear hk); (try clear hi)) | ((with_reducible refine gate_callee (f := 33) rfl ?_); refine goesL_ (some 9) rfl rfl Try.func33 (by kernel_rfl) rfl #[.agg #[.int .i64 t165, .int .i64 t166, .int .i64 t167, .int .i64 t168, .int .i64 t169, .int .i64 t170, .bool t171, .int .i64 t172, .int .i64 t173], .int .i64 a1] rfl (by (try simp only [List.map_toArray, List.map_cons, List.map_nil]); first | done | rfl | (simp only [List.length_drop, List.length_take]; rfl)) ?_; (with_reducible refine (monitor_view_explained.calls t165 t166 t167 t168 t169 t170 t171 t172 t173 a1 t174 t175 _ A4.out).mono ?_); rintro e w9 ⟨rfl, hb⟩; refine ⟨_, rfl, ?_⟩; have n0_ := bxb BK164 hb; have n1_ := Aside0.mk (below_step (bwt HB) hb); clear BK164; clear HB; have BK164 := n0_; have HB := n1_; clear n0_ n1_; (try clear hb); (try clear hb2); (try clear hk); (try clear hi)) | ((with_reducible refine gate_dst (N := 5) rfl ?_); refine box_event ?hg (N := 5) ?hd (cs := #[.int .i64 0, .int .i64 0]) (t := 64) ?hr ?_; (case hd => rfl); (case hg => rfl); (case hr => first | (go_simp; done) | (go_simp; rfl)); intro gb176 hg w10 hbox hb; have n0_ := bxb BK164 hb; have n1_ := Aside0.mk (below_step (bwt HB) hb); have n2_ := Aside0.mk (hbox); have n3_ := Aside0.mk ((by rw [hg]; exact (below_size (bwt HB)) : w.heap.size ≤ gb176)); have n4_ := Aside0.mk ((by rw [hg]; exact (below_size (bwt HB)) : w.heap.size ≤ gb176)); have n5_ := nlt_ BK164 hg; have n6_ := ngt_ BK164 hg; clear BK164; clear HB; have BK164 := n0_; have HB := n1_; have BK176 := n2_; have GW176 := n3_; have GE176 := n4_; have NB164_176 := n5_; have NB176_164 := n6_; clear n0_ n1_ n2_ n3_ n4_ n5_ n6_; clear hb hbox hg; have hnb11 := NB176_164.out; have hnc11 := NB164_176.out; have hcz12_0 : w10.cell? ⟨gb176, 0, none⟩ = some (.int .i64 0) := bc BK176 0; have hcz12_1 : w10.cell? ⟨gb176, 1, none⟩ = some (.int .i64 0) := bc BK176 1; have hfz12_0 := blk_frozen BK176.out 0; have hfz12_1 := blk_frozen BK176.out 1))
    go_ret
    exact ⟨by first | rfl | (simp [errW_none, errW_some] <;> rfl) | (simp [*, errW_none, errW_some] <;> rfl), by repeat (first | (with_reducible first | exact HB.out | apply below_alloc | apply pw_below_drewN | apply below_drew1 | refine below_set ?_ GE164.out | refine below_set ?_ GE176.out) | exact HB.out)⟩
  · rw [if_neg c5] at H
    have c5b0 : (!(t174 == 1) || (!(t175 == 0))) = false := by simpa using c5
    clear c5
    obtain rfl := Option.some.inj H
    go_enter Try.func19, Try.ntmps19
    go_wp2_with (first | ((with_reducible refine gate_dst (N := 2) rfl ?_); refine box_event ?hg (N := 2) ?hd (cs := #[.int .i64 a0_0, .int .i64 a0_1, .int .i64 a0_2, .int .i64 a0_3, .int .i64 a0_4, .int .i64 a0_5, .bool a0_6]) (t := 28) ?hr ?_; (case hd => rfl); (case hg => rfl); (case hr => first | (go_simp; done) | (go_simp; rfl)); intro gb164 hg w13 hbox hb; have n0_ := Aside0.mk (below_step (by repeat (first | (with_reducible first | exact HB.out | apply below_alloc | apply pw_below_drewN | apply below_drew1) | exact HB.out)) hb); have n1_ := Aside0.mk (hbox); have n2_ := Aside0.mk ((by rw [hg]; exact (below_size (by repeat (first | (with_reducible first | exact HB.out | apply below_alloc | apply pw_below_drewN | apply below_drew1) | exact HB.out))) : w.heap.size ≤ gb164)); have n3_ := Aside0.mk ((by rw [hg]; exact (below_size (by repeat (first | (with_reducible first | exact HB.out | apply below_alloc | apply pw_below_drewN | apply below_drew1) | exact HB.out))) : w.heap.size ≤ gb164)); clear HB; have HB := n0_; have BK164 := n1_; have GW164 := n2_; have GE164 := n3_; clear n0_ n1_ n2_ n3_; clear hb hbox hg; have hcz14_0 : w13.cell? ⟨gb164, 0, none⟩ = some (.int .i64 a0_0) := bc BK164 0; have hcz14_1 : w13.cell? ⟨gb164, 1, none⟩ = some (.int .i64 a0_1) := bc BK164 1; have hcz14_2 : w13.cell? ⟨gb164, 2, none⟩ = some (.int .i64 a0_2) := bc BK164 2; have hcz14_3 : w13.cell? ⟨gb164, 3, none⟩ = some (.int .i64 a0_3) := bc BK164 3; have hcz14_4 : w13.cell? ⟨gb164, 4, none⟩ = some (.int .i64 a0_4) := bc BK164 4; have hcz14_5 : w13.cell? ⟨gb164, 5, none⟩ = some (.int .i64 a0_5) := bc BK164 5; have hcz14_6 : w13.cell? ⟨gb164, 6, none⟩ = some (.bool a0_6) := bc BK164 6; have hfz14_0 := blk_frozen BK164.out 0; have hfz14_1 := blk_frozen BK164.out 1; have hfz14_2 := blk_frozen BK164.out 2; have hfz14_3 := blk_frozen BK164.out 3; have hfz14_4 := blk_frozen BK164.out 4; have hfz14_5 := blk_frozen BK164.out 5; have hfz14_6 := blk_frozen BK164.out 6) | ((with_reducible refine gate_callee (f := 27) rfl ?_); refine goesL_ (some 7) rfl rfl Try.func27 (by kernel_rfl) rfl #[.agg #[.int .i64 a0_0, .int .i64 a0_1, .int .i64 a0_2, .int .i64 a0_3, .int .i64 a0_4, .int .i64 a0_5, .bool a0_6]] rfl (by (try simp only [List.map_toArray, List.map_cons, List.map_nil]); first | done | rfl | (simp only [List.length_drop, List.length_take]; rfl)) ?_; (with_reducible refine (monitor_look.calls a0_0 a0_1 a0_2 a0_3 a0_4 a0_5 a0_6 t165 t166 t167 t168 t169 t170 t171 t172 t173 _ A3.out).mono ?_); rintro e w15 ⟨rfl, hb⟩; refine ⟨_, rfl, ?_⟩; have n0_ := bxb BK164 hb; have n1_ := Aside0.mk (below_step (bwt HB) hb); clear BK164; clear HB; have BK164 := n0_; have HB := n1_; clear n0_ n1_; (try clear hb); (try clear hb2); (try clear hk); (try clear hi)) | ((with_reducible refine gate_callee (f := 33) rfl ?_); refine goesL_ (some 9) rfl rfl Try.func33 (by kernel_rfl) rfl #[.agg #[.int .i64 t165, .int .i64 t166, .int .i64 t167, .int .i64 t168, .int .i64 t169, .int .i64 t170, .bool t171, .int .i64 t172, .int .i64 t173], .int .i64 a1] rfl (by (try simp only [List.map_toArray, List.map_cons, List.map_nil]); first | done | rfl | (simp only [List.length_drop, List.length_take]; rfl)) ?_; (with_reducible refine (monitor_view_explained.calls t165 t166 t167 t168 t169 t170 t171 t172 t173 a1 t174 t175 _ A4.out).mono ?_); rintro e w16 ⟨rfl, hb⟩; refine ⟨_, rfl, ?_⟩; have n0_ := bxb BK164 hb; have n1_ := Aside0.mk (below_step (bwt HB) hb); clear BK164; clear HB; have BK164 := n0_; have HB := n1_; clear n0_ n1_; (try clear hb); (try clear hb2); (try clear hk); (try clear hi)) | ((with_reducible refine gate_dst (N := 5) rfl ?_); refine box_event ?hg (N := 5) ?hd (cs := #[.int .i64 0, .int .i64 0]) (t := 64) ?hr ?_; (case hd => rfl); (case hg => rfl); (case hr => first | (go_simp; done) | (go_simp; rfl)); intro gb176 hg w17 hbox hb; have n0_ := bxb BK164 hb; have n1_ := Aside0.mk (below_step (bwt HB) hb); have n2_ := Aside0.mk (hbox); have n3_ := Aside0.mk ((by rw [hg]; exact (below_size (bwt HB)) : w.heap.size ≤ gb176)); have n4_ := Aside0.mk ((by rw [hg]; exact (below_size (bwt HB)) : w.heap.size ≤ gb176)); have n5_ := nlt_ BK164 hg; have n6_ := ngt_ BK164 hg; clear BK164; clear HB; have BK164 := n0_; have HB := n1_; have BK176 := n2_; have GW176 := n3_; have GE176 := n4_; have NB164_176 := n5_; have NB176_164 := n6_; clear n0_ n1_ n2_ n3_ n4_ n5_ n6_; clear hb hbox hg; have hnb18 := NB176_164.out; have hnc18 := NB164_176.out; have hcz19_0 : w17.cell? ⟨gb176, 0, none⟩ = some (.int .i64 0) := bc BK176 0; have hcz19_1 : w17.cell? ⟨gb176, 1, none⟩ = some (.int .i64 0) := bc BK176 1; have hfz19_0 := blk_frozen BK176.out 0; have hfz19_1 := blk_frozen BK176.out 1))
    go_ret
    exact ⟨by first | rfl | (simp [errW_none, errW_some] <;> rfl) | (simp [*, errW_none, errW_some] <;> rfl), by repeat (first | (with_reducible first | exact HB.out | apply below_alloc | apply pw_below_drewN | apply below_drew1 | refine below_set ?_ GE164.out | refine below_set ?_ GE176.out) | exact HB.out)⟩

end Go.Proofs.Ytlofmgdjnaajjaa.Q

namespace Go.Proofs.Ytlofmgdjnaajjaa.Q
open Go.RowKit Go.Proofs.YtlofmgdjnaajjaaW.PrintWords Go.Proofs.YtlofmgdjnaajjaaW.PrintLast Go.Proofs.YtlofmgdjnaajjaaW.PrintMore
attribute [local go_sem] run_makeFunc_own max2_int min2_int max_two min_two max_three min_three max_four min_four   -- for this text's walks alone
set_option linter.unusedVariables false
set_option linter.unusedSimpArgs false

/-! ### monitor_view_all: function 35 -/
def monitor_view_all.f (a0_0 : Int) (a0_1 : Int) (a0_2 : Int) (a0_3 : Int) (a0_4 : Int) (a0_5 : Int) (a0_6 : Bool) (a0_7 : Int) (a0_8 : Int) (a1 : Int) : Option (Int × Int) := some (a0_7, a0_8)
set_option maxHeartbeats 8000000 in
set_option maxRecDepth 100000 in
theorem monitor_view_all.calls (a0_0 : Int) (a0_1 : Int) (a0_2 : Int) (a0_3 : Int) (a0_4 : Int) (a0_5 : Int) (a0_6 : Bool) (a0_7 : Int) (a0_8 : Int) (a1 : Int) (r1 : Int) (r2 : Int) (w : World) (h : monitor_view_all.f a0_0 a0_1 a0_2 a0_3 a0_4 a0_5 a0_6 a0_7 a0_8 a1 = some (r1, r2)) :
    Calls Try.prog 35 #[.agg #[.int .i64 a0_0, .int .i64 a0_1, .int .i64 a0_2, .int .i64 a0_3, .int .i64 a0_4, .int .i64 a0_5, .bool a0_6, .int .i64 a0_7, .int .i64 a0_8], .int .i64 a1] w fun e w' => e = .returned (.agg #[.int .i64 r1, .int .i64 r2]) ∧ Below w.heap.size w w' := by
  have hu66 := Try.underlying66
  have hu64 := Try.underlying64
  have HB := Aside0.mk (Below.refl w.heap.size w)
  have H : (some (a0_7, a0_8)) = some (r1, r2) := h
  clear h
  simp only [Option.some.injEq, Prod.mk.injEq] at H
  obtain ⟨rfl, rfl⟩ := H
  go_enter Try.func35, Try.ntmps35
  go_wp2_with (first | ((with_reducible refine gate_dst (N := 2) rfl ?_); refine box_event ?hg (N := 2) ?hd (cs := #[.int .i64 a0_0, .int .i64 a0_1, .int .i64 a0_2, .int .i64 a0_3, .int .i64 a0_4, .int .i64 a0_5, .bool a0_6, .int .i64 a0_7, .int .i64 a0_8]) (t := 66) ?hr ?_; (case hd => rfl); (case hg => rfl); (case hr => first | (go_simp; done) | (go_simp; rfl)); intro gb210 hg w3 hbox hb; have n0_ := Aside0.mk (below_step (by repeat (first | (with_reducible first | exact HB.out | apply below_alloc | apply pw_below_drewN | apply below_drew1) | exact HB.out)) hb); have n1_ := Aside0.mk (hbox); have n2_ := Aside0.mk ((by rw [hg]; exact (below_size (by repeat (first | (with_reducible first | exact HB.out | apply below_alloc | apply pw_below_drewN | apply below_drew1) | exact HB.out))) : w.heap.size ≤ gb210)); have n3_ := Aside0.mk ((by rw [hg]; exact (below_size (by repeat (first | (with_reducible first | exact HB.out | apply below_alloc | apply pw_below_drewN | apply below_drew1) | exact HB.out))) : w.heap.size ≤ gb210)); clear HB; have HB := n0_; have BK210 := n1_; have GW210 := n2_; have GE210 := n3_; clear n0_ n1_ n2_ n3_; clear hb hbox hg) | ((with_reducible refine gate_dst (N := 4) rfl ?_); refine box_event ?hg (N := 4) ?hd (cs := #[.int .i64 0, .int .i64 0]) (t := 64) ?hr ?_; (case hd => rfl); (case hg => rfl); (case hr => first | (go_simp; done) | (go_simp; rfl)); intro gb211 hg w4 hbox hb; have n0_ := bxb BK210 hb; have n1_ := Aside0.mk (below_step (bwt HB) hb); have n2_ := Aside0.mk (hbox); have n3_ := Aside0.mk ((by rw [hg]; exact (below_size (bwt HB)) : w.heap.size ≤ gb211)); have n4_ := Aside0.mk ((by rw [hg]; exact (below_size (bwt HB)) : w.heap.size ≤ gb211)); have n5_ := nlt_ BK210 hg; have n6_ := ngt_ BK210 hg; clear BK210; clear HB; have BK210 := n0_; have HB := n1_; have BK211 := n2_; have GW211 := n3_; have GE211 := n4_; have NB210_211 := n5_; have NB211_210 := n6_; clear n0_ n1_ n2_ n3_ n4_ n5_ n6_; clear hb hbox hg; have hnb5 := NB210_211.out; have hnc5 := NB211_210.out; have hcz6_0 : w4.cell? ⟨gb210, 0, none⟩ = some (.int .i64 a0_0) := bc BK210 0; have hcz6_1 : w4.cell? ⟨gb210, 1, none⟩ = some (.int .i64 a0_1) := bc BK210 1; have hcz6_2 : w4.cell? ⟨gb210, 2, none⟩ = some (.int .i64 a0_2) := bc BK210 2; have hcz6_3 : w4.cell? ⟨gb210, 3, none⟩ = some (.int .i64 a0_3) := bc BK210 3; have hcz6_4 : w4.cell? ⟨gb210, 4, none⟩ = some (.int .i64 a0_4) := bc BK210 4; have hcz6_5 : w4.cell? ⟨gb210, 5, none⟩ = some (.int .i64 a0_5) := bc BK210 5; have hcz6_6 : w4.cell? ⟨gb210, 6, none⟩ = some (.bool a0_6) := bc BK210 6; have hcz6_7 : w4.cell? ⟨gb210, 7, none⟩ = some (.int .i64 a0_7) := bc BK210 7; have hcz6_8 : w4.cell? ⟨gb210, 8, none⟩ = some (.int .i64 a0_8) := bc BK210 8; have hfz6_0 := blk_frozen BK210.out 0; have hfz6_1 := blk_frozen BK210.out 1; have hfz6_2 := blk_frozen BK210.out 2; have hfz6_3 := blk_frozen BK210.out 3; have hfz6_4 := blk_frozen BK210.out 4; have hfz6_5 := blk_frozen BK210.out 5; have hfz6_6 := blk_frozen BK210.out 6; have hfz6_7 := blk_frozen BK210.out 7; have hfz6_8 := blk_frozen BK210.out 8; have hcz7_0 : w4.cell? ⟨gb211, 0, none⟩ = some (.int .i64 0) := bc BK211 0; have hcz7_1 : w4.cell? ⟨gb211, 1, none⟩ = some (.int .i64 0) := bc BK211 1; have hfz7_0 := blk_frozen BK211.out 0; have hfz7_1 := blk_frozen BK211.out 1))
  refine bodyPost_ret (results_cell_row rfl _ _ gb211 64 #[.int .i64 a0_7, .int .i64 a0_8] (0, 0) _ rfl (by (with_reducible repeat refine bp_ ?_); refine blk_put (cs := #[.int .i64 a0_7, .int .i64 0]) ?_ 1 _ rfl; (with_reducible repeat refine bp_ ?_); refine blk_put (cs := #[.int .i64 0, .int .i64 0]) ?_ 0 _ rfl; (with_reducible repeat refine bp_ ?_); exact BK211.out) Try.underlying64 rfl (by kernel_rfl)) rfl ?_
  exact ⟨by first | rfl | (simp [errW_none, errW_some] <;> rfl) | (simp [*, errW_none, errW_some] <;> rfl), by repeat (first | (with_reducible first | exact HB.out | apply below_alloc | apply pw_below_drewN | apply below_drew1 | refine below_set ?_ GE210.out | refine below_set ?_ GE211.out) | exact HB.out)⟩

end Go.Proofs.Ytlofmgdjnaajjaa.Q

namespace Go.Proofs.Ytlofmgdjnaajjaa.Q
open Go.RowKit Go.Proofs.YtlofmgdjnaajjaaW.PrintWords Go.Proofs.YtlofmgdjnaajjaaW.PrintLast Go.Proofs.YtlofmgdjnaajjaaW.PrintMore
attribute [local go_sem] run_makeFunc_own max2_int min2_int max_two min_two max_three min_three max_four min_four   -- for this text's walks alone
set_option linter.unusedVariables false
set_option linter.unusedSimpArgs false

/-! ### monitor_span_within: function 41 -/
def monitor_span_within.f (a0_0 : Int) (a0_1 : Int) (a1_0 : Int) (a1_1 : Int) : Option (Bool) := if a0_0 ≥ a1_0 then (some (decide (a0_1 ≤ a1_1))) else (some false)
set_option maxHeartbeats 8000000 in
set_option maxRecDepth 100000 in
theorem monitor_span_within.calls (a0_0 : Int) (a0_1 : Int) (a1_0 : Int) (a1_1 : Int) (r : Bool) (w : World) (h : monitor_span_within.f a0_0 a0_1 a1_0 a1_1 = some r) :
    Calls Try.prog 41 #[.agg #[.int .i64 a0_0, .int .i64 a0_1], .agg #[.int .i64 a1_0, .int .i64 a1_1]] w fun e w' => e = .returned (.bool r) ∧ Below w.heap.size w w' := by
  have hu64 := Try.underlying64
  have HB := Aside0.mk (Below.refl w.heap.size w)
  have H : (if a0_0 ≥ a1_0 then (some (decide (a0_1 ≤ a1_1))) else (some false)) = some r := h
  clear h
  by_cases c3 : a0_0 ≥ a1_0
  · rw [if_pos c3] at H
    have c3b0 : decide (a1_0 ≤ a0_0) = true := decide_eq_true c3
    clear c3
    obtain rfl := Option.some.inj H
    go_enter Try.func41, Try.ntmps41
    go_wp2_with (first | ((with_reducible refine gate_dst (N := 2) rfl ?_); refine box_event ?hg (N := 2) ?hd (cs := #[.int .i64 a0_0, .int .i64 a0_1]) (t := 64) ?hr ?_; (case hd => rfl); (case hg => rfl); (case hr => first | (go_simp; done) | (go_simp; rfl)); intro gb103 hg w4 hbox hb; have n0_ := Aside0.mk (below_step (by repeat (first | (with_reducible first | exact HB.out | apply below_alloc | apply pw_below_drewN | apply below_drew1) | exact HB.out)) hb); have n1_ := Aside0.mk (hbox); have n2_ := Aside0.mk ((by rw [hg]; exact (below_size (by repeat (first | (with_reducible first | exact HB.out | apply below_alloc | apply pw_below_drewN | apply below_drew1) | exact HB.out))) : w.heap.size ≤ gb103)); have n3_ := Aside0.mk ((by rw [hg]; exact (below_size (by repeat (first | (with_reducible first | exact HB.out | apply below_alloc | apply pw_below_drewN | apply below_drew1) | exact HB.out))) : w.heap.size ≤ gb103)); clear HB; have HB := n0_; have BK103 := n1_; have GW103 := n2_; have GE103 := n3_; clear n0_ n1_ n2_ n3_; clear hb hbox hg) | ((with_reducible refine gate_dst (N := 3) rfl ?_); refine box_event ?hg (N := 3) ?hd (cs := #[.int .i64 a1_0, .int .i64 a1_1]) (t := 64) ?hr ?_; (case hd => rfl); (case hg => rfl); (case hr => first | (go_simp; done) | (go_simp; rfl)); intro gb104 hg w5 hbox hb; have n0_ := bxb BK103 hb; have n1_ := Aside0.mk (below_step (bwt HB) hb); have n2_ := Aside0.mk (hbox); have n3_ := Aside0.mk ((by rw [hg]; exact (below_size (bwt HB)) : w.heap.size ≤ gb104)); have n4_ := Aside0.mk ((by rw [hg]; exact (below_size (bwt HB)) : w.heap.size ≤ gb104)); have n5_ := nlt_ BK103 hg; have n6_ := ngt_ BK103 hg; clear BK103; clear HB; have BK103 := n0_; have HB := n1_; have BK104 := n2_; have GW104 := n3_; have GE104 := n4_; have NB103_104 := n5_; have NB104_103 := n6_; clear n0_ n1_ n2_ n3_ n4_ n5_ n6_; clear hb hbox hg; have hnb6 := NB103_104.out; have hnc6 := NB104_103.out; have hcz7_0 : w5.cell? ⟨gb103, 0, none⟩ = some (.int .i64 a0_0) := bc BK103 0; have hcz7_1 : w5.cell? ⟨gb103, 1, none⟩ = some (.int .i64 a0_1) := bc BK103 1; have hfz7_0 := blk_frozen BK103.out 0; have hfz7_1 := blk_frozen BK103.out 1; have hcz8_0 : w5.cell? ⟨gb104, 0, none⟩ = some (.int .i64 a1_0) := bc BK104 0; have hcz8_1 : w5.cell? ⟨gb104, 1, none⟩ = some (.int .i64 a1_1) := bc BK104 1; have hfz8_0 := blk_frozen BK104.out 0; have hfz8_1 := blk_frozen BK104.out 1))
    go_ret
    exact ⟨by first | rfl | (simp [errW_none, errW_some] <;> rfl) | (simp [*, errW_none, errW_some] <;> rfl), by repeat (first | (with_reducible first | exact HB.out | apply below_alloc | apply pw_below_drewN | apply below_drew1 | refine below_set ?_ GE103.out | refine below_set ?_ GE104.out) | exact HB.out)⟩
  · rw [if_neg c3] at H
    have c3b0 : decide (a1_0 ≤ a0_0) = false := decide_eq_false c3
    clear c3
    obtain rfl := Option.some.inj H
    go_enter Try.func41, Try.ntmps41
    go_wp2_with (first | ((with_reducible refine gate_dst (N := 2) rfl ?_); refine box_event ?hg (N := 2) ?hd (cs := #[.int .i64 a0_0, .int .i64 a0_1]) (t := 64) ?hr ?_; (case hd => rfl); (case hg => rfl); (case hr => first | (go_simp; done) | (go_simp; rfl)); intro gb103 hg w9 hbox hb; have n0_ := Aside0.mk (below_step (by repeat (first | (with_reducible first | exact HB.out | apply below_alloc | apply pw_below_drewN | apply below_drew1) | exact HB.out)) hb); have n1_ := Aside0.mk (hbox); have n2_ := Aside0.mk ((by rw [hg]; exact (below_size (by repeat (first | (with_reducible first | exact HB.out | apply below_alloc | apply pw_below_drewN | apply below_drew1) | exact HB.out))) : w.heap.size ≤ gb103)); have n3_ := Aside0.mk ((by rw [hg]; exact (below_size (by repeat (first | (with_reducible first | exact HB.out | apply below_alloc | apply pw_below_drewN | apply below_drew1) | exact HB.out))) : w.heap.size ≤ gb103)); clear HB; have HB := n0_; have BK103 := n1_; have GW103 := n2_; have GE103 := n3_; clear n0_ n1_ n2_ n3_; clear hb hbox hg) | ((with_reducible refine gate_dst (N := 3) rfl ?_); refine box_event ?hg (N := 3) ?hd (cs := #[.int .i64 a1_0, .int .i64 a1_1]) (t := 64) ?hr ?_; (case hd => rfl); (case hg => rfl); (case hr => first | (go_simp; done) | (go_simp; rfl)); intro gb104 hg w10 hbox hb; have n0_ := bxb BK103 hb; have n1_ := Aside0.mk (below_step (bwt HB) hb); have n2_ := Aside0.mk (hbox); have n3_ := Aside0.mk ((by rw [hg]; exact (below_size (bwt HB)) : w.heap.size ≤ gb104)); have n4_ := Aside0.mk ((by rw [hg]; exact (below_size (bwt HB)) : w.heap.size ≤ gb104)); have n5_ := nlt_ BK103 hg; have n6_ := ngt_ BK103 hg; clear BK103; clear HB; have BK103 := n0_; have HB := n1_; have BK104 := n2_; have GW104 := n3_; have GE104 := n4_; have NB103_104 := n5_; have NB104_103 := n6_; clear n0_ n1_ n2_ n3_ n4_ n5_ n6_; clear hb hbox hg; have hnb11 := NB103_104.out; have hnc11 := NB104_103.out; have hcz12_0 : w10.cell? ⟨gb103, 0, none⟩ = some (.int .i64 a0_0) := bc BK103 0; have hcz12_1 : w10.cell? ⟨gb103, 1, none⟩ = some (.int .i64 a0_1) := bc BK103 1; have hfz12_0 := blk_frozen BK103.out 0; have hfz12_1 := blk_frozen BK103.out 1; have hcz13_0 : w10.cell? ⟨gb104, 0, none⟩ = some (.int .i64 a1_0) := bc BK104 0; have hcz13_1 : w10.cell? ⟨gb104, 1, none⟩ = some (.int .i64 a1_1) := bc BK104 1; have hfz13_0 := blk_frozen BK104.out 0; have hfz13_1 := blk_frozen BK104.out 1))
    go_ret
    exact ⟨by first | rfl | (simp [errW_none, errW_some] <;> rfl) | (simp [*, errW_none, errW_some] <;> rfl), by repeat (first | (with_reducible first | exact HB.out | apply below_alloc | apply pw_below_drewN | apply below_drew1 | refine below_set ?_ GE103.out | refine below_set ?_ GE104.out) | exact HB.out)⟩

end Go.Proofs.Ytlofmgdjnaajjaa.Q

namespace Go.Proofs.Ytlofmgdjnaajjaa.Q
open Go.RowKit Go.Proofs.YtlofmgdjnaajjaaW.PrintWords Go.Proofs.YtlofmgdjnaajjaaW.PrintLast Go.Proofs.YtlofmgdjnaajjaaW.PrintMore
attribute [local go_sem] run_makeFunc_own max2_int min2_int max_two min_two max_three min_three max_four min_four   -- for this text's walks alone
set_option linter.unusedVariables false
set_option linter.unusedSimpArgs false

/-! ### monitor_view_inRange: function 28 -/
def monitor_view_inRange.f (a0_0 : Int) (a0_1 : Int) (a0_2 : Int) (a0_3 : Int) (a0_4 : Int) (a0_5 : Int) (a0_6 : Bool) (a0_7 : Int) (a0_8 : Int) : Option (Bool) := (monitor_span_within.f a0_7 a0_8 a0_4 a0_5).bind fun t106 => (some t106)
set_option maxHeartbeats 8000000 in
set_option maxRecDepth 100000 in
theorem monitor_view_inRange.calls (a0_0 : Int) (a0_1 : Int) (a0_2 : Int) (a0_3 : Int) (a0_4 : Int) (a0_5 : Int) (a0_6 : Bool) (a0_7 : Int) (a0_8 : Int) (r : Bool) (w : World) (h : monitor_view_inRange.f a0_0 a0_1 a0_2 a0_3 a0_4 a0_5 a0_6 a0_7 a0_8 = some r) :
    Calls Try.prog 28 #[.agg #[.int .i64 a0_0, .int .i64 a0_1, .int .i64 a0_2, .int .i64 a0_3, .int .i64 a0_4, .int .i64 a0_5, .bool a0_6, .int .i64 a0_7, .int .i64 a0_8]] w fun e w' => e = .returned (.bool r) ∧ Below w.heap.size w w' := by
  have hu66 := Try.underlying66
  have hu64 := Try.underlying64
  have hu28 := Try.underlying28
  have HB := Aside0.mk (Below.refl w.heap.size w)
  have H : ((monitor_span_within.f a0_7 a0_8 a0_4 a0_5).bind fun t106 => (some t106)) = some r := h
  clear h
  replace H := Option.bind_eq_some_iff.mp H
  obtain ⟨t106, A20, H⟩ := H
  replace H : (some t106) = some r := H
  have A2 := Aside0.mk A20
  clear A20
  obtain rfl := Option.some.inj H
  go_enter Try.func28, Try.ntmps28
  go_wp2_with (first | ((with_reducible refine gate_dst (N := 1) rfl ?_); refine box_event ?hg (N := 1) ?hd (cs := #[.int .i64 a0_0, .int .i64 a0_1, .int .i64 a0_2, .int .i64 a0_3, .int .i64 a0_4, .int .i64 a0_5, .bool a0_6, .int .i64 a0_7, .int .i64 a0_8]) (t := 66) ?hr ?_; (case hd => rfl); (case hg => rfl); (case hr => first | (go_simp; done) | (go_simp; rfl)); intro gb105 hg w3 hbox hb; have n0_ := Aside0.mk (below_step (by repeat (first | (with_reducible first | exact HB.out | apply below_alloc | apply pw_below_drewN | apply below_drew1) | exact HB.out)) hb); have n1_ := Aside0.mk (hbox); have n2_ := Aside0.mk ((by rw [hg]; exact (below_size (by repeat (first | (with_reducible first | exact HB.out | apply below_alloc | apply pw_below_drewN | apply below_drew1) | exact HB.out))) : w.heap.size ≤ gb105)); have n3_ := Aside0.mk ((by rw [hg]; exact (below_size (by repeat (first | (with_reducible first | exact HB.out | apply below_alloc | apply pw_below_drewN | apply below_drew1) | exact HB.out))) : w.heap.size ≤ gb105)); clear HB; have HB := n0_; have BK105 := n1_; have GW105 := n2_; have GE105 := n3_; clear n0_ n1_ n2_ n3_; clear hb hbox hg; have hcz4_0 : w3.cell? ⟨gb105, 0, none⟩ = some (.int .i64 a0_0) := bc BK105 0; have hcz4_1 : w3.cell? ⟨gb105, 1, none⟩ = some (.int .i64 a0_1) := bc BK105 1; have hcz4_2 : w3.cell? ⟨gb105, 2, none⟩ = some (.int .i64 a0_2) := bc BK105 2; have hcz4_3 : w3.cell? ⟨gb105, 3, none⟩ = some (.int .i64 a0_3) := bc BK105 3; have hcz4_4 : w3.cell? ⟨gb105, 4, none⟩ = some (.int .i64 a0_4) := bc BK105 4; have hcz4_5 : w3.cell? ⟨gb105, 5, none⟩ = some (.int .i64 a0_5) := bc BK105 5; have hcz4_6 : w3.cell? ⟨gb105, 6, none⟩ = some (.bool a0_6) := bc BK105 6; have hcz4_7 : w3.cell? ⟨gb105, 7, none⟩ = some (.int .i64 a0_7) := bc BK105 7; have hcz4_8 : w3.cell? ⟨gb105, 8, none⟩ = some (.int .i64 a0_8) := bc BK105 8; have hfz4_0 := blk_frozen BK105.out 0; have hfz4_1 := blk_frozen BK105.out 1; have hfz4_2 := blk_frozen BK105.out 2; have hfz4_3 := blk_frozen BK105.out 3; have hfz4_4 := blk_frozen BK105.out 4; have hfz4_5 := blk_frozen BK105.out 5; have hfz4_6 := blk_frozen BK105.out 6; have hfz4_7 := blk_frozen BK105.out 7; have hfz4_8 := blk_frozen BK105.out 8) | ((with_reducible refine gate_callee (f := 41) rfl ?_); refine goesL_ (some 12) rfl rfl Try.func41 (by kernel_rfl) rfl #[.agg #[.int .i64 a0_7, .int .i64 a0_8], .agg #[.int .i64 a0_4, .int .i64 a0_5]] rfl (by (try simp only [List.map_toArray, List.map_cons, List.map_nil]); first | done | rfl | (simp only [List.length_drop, List.length_take]; rfl)) ?_; (with_reducible refine (monitor_span_within.calls a0_7 a0_8 a0_4 a0_5 t106 _ A2.out).mono ?_); rintro e w5 ⟨rfl, hb⟩; refine ⟨_, rfl, ?_⟩; have n0_ := bxb BK105 hb; have n1_ := Aside0.mk (below_step (bwt HB) hb); clear BK105; clear HB; have BK105 := n0_; have HB := n1_; clear n0_ n1_; (try clear hb); (try clear hb2); (try clear hk); (try clear hi)))
  go_ret
  exact ⟨by first | rfl | (simp [errW_none, errW_some] <;> rfl) | (simp [*, errW_none, errW_some] <;> rfl), by repeat (first | (with_reducible first | exact HB.out | apply below_alloc | apply pw_below_drewN | apply below_drew1 | refine below_set ?_ GE105.out) | exact HB.out)⟩

end Go.Proofs.Ytlofmgdjnaajjaa.Q

namespace Go.Proofs.Ytlofmgdjnaajjaa.Q
open Go.RowKit Go.Proofs.YtlofmgdjnaajjaaW.PrintWords Go.Proofs.YtlofmgdjnaajjaaW.PrintLast Go.Proofs.YtlofmgdjnaajjaaW.PrintMore
attribute [local go_sem] run_makeFunc_own max2_int min2_int max_two min_two max_three min_three max_four min_four   -- for this text's walks alone
set_option linter.unusedVariables false
set_option linter.unusedSimpArgs false

/-! ### monitor_update_monitor_view_all: function 34 -/
def monitor_update_monitor_view_all.f (a0_0 : Int) (a0_1 : Int) (a0_2 : Int) (a0_3 : Int) (a0_4 : Int) (a0_5 : Int) (a0_6 : Bool) (a1 : Int) (a2_0 : Int) (a2_1 : Int) (a2_2 : Int) (a2_3 : Int) (a2_4 : Int) (a2_5 : Int) (a2_6 : Bool) (a2_7 : Int) (a2_8 : Int) : Option (Int × Int × Int × Int × Int × Int × Bool) := if a0_6 = true then (some (a0_0, a0_1, a0_2, a0_3, a0_4, a0_5, a0_6)) else ((monitor_view_all.f a2_0 a2_1 a2_2 a2_3 a2_4 a2_5 a2_6 a2_7 a2_8 a1).bind fun bt214 => (if bt214.1 > bt214.2 then (some (a0_0, a0_1, a0_2, a0_3, a0_4, a0_5, true)) else ((monitor_look.f bt214.1 bt214.2 a0_2 a0_3 a0_4 a0_5 a0_6).bind fun bt217 => ((monitor_view_inRange.f bt217.1 bt217.2.1 bt217.2.2.1 bt217.2.2.2.1 bt217.2.2.2.2.1 bt217.2.2.2.2.2.1 bt217.2.2.2.2.2.2.1 bt217.2.2.2.2.2.2.2.1 bt217.2.2.2.2.2.2.2.2).bind fun t226 => (some (bt214.1, bt214.2, a0_2, a0_3, a0_4, a0_5, !t226))))))
def monitor_update_monitor_view_all.T7 : Bool × List (List Nat × List Nat) := (true, [([], []), ([0], [0]), ([], []), ([2], [2]), ([0, 1], []), ([4, 1, 0, 1], [1, 4]), ([0, 1, 2, 3, 4, 5], []), ([6, 3, 5, 0, 1, 2, 3, 4, 5], [3, 6])])
def monitor_update_monitor_view_all.B7 : List Nat := [0, 1, 0, 4, 3, 19, 63, 127]
theorem monitor_update_monitor_view_all.tab7 : rtab .any (opsOf Try.f34 7) = monitor_update_monitor_view_all.T7 := by kernel_rfl
theorem monitor_update_monitor_view_all.bits7 : waitsOk monitor_update_monitor_view_all.T7.2 monitor_update_monitor_view_all.B7 = true := by kernel_rfl
set_option maxHeartbeats 8000000 in
set_option maxRecDepth 100000 in
theorem monitor_update_monitor_view_all.calls (a0_0 : Int) (a0_1 : Int) (a0_2 : Int) (a0_3 : Int) (a0_4 : Int) (a0_5 : Int) (a0_6 : Bool) (a1 : Int) (a2_0 : Int) (a2_1 : Int) (a2_2 : Int) (a2_3 : Int) (a2_4 : Int) (a2_5 : Int) (a2_6 : Bool) (a2_7 : Int) (a2_8 : Int) (r1 : Int) (r2 : Int) (r3 : Int) (r4 : Int) (r5 : Int) (r6 : Int) (r7 : Bool) (w : World) (h : monitor_update_monitor_view_all.f a0_0 a0_1 a0_2 a0_3 a0_4 a0_5 a0_6 a1 a2_0 a2_1 a2_2 a2_3 a2_4 a2_5 a2_6 a2_7 a2_8 = some (r1, r2, r3, r4, r5, r6, r7)) :
    Calls Try.prog 34 #[.agg #[.int .i64 a0_0, .int .i64 a0_1, .int .i64 a0_2, .int .i64 a0_3, .int .i64 a0_4, .int .i64 a0_5, .bool a0_6], .int .i64 a1, .func (.func 35) #[.agg #[.int .i64 a2_0, .int .i64 a2_1, .int .i64 a2_2, .int .i64 a2_3, .int .i64 a2_4, .int .i64 a2_5, .bool a2_6, .int .i64 a2_7, .int .i64 a2_8]] #[]] w fun e w' => e = .returned (.agg #[.int .i64 r1, .int .i64 r2, .int .i64 r3, .int .i64 r4, .int .i64 r5, .int .i64 r6, .bool r7]) ∧ Below w.heap.size w w' := by
  have hu28 := Try.underlying28
  have hu64 := Try.underlying64
  have HB := Aside0.mk (Below.refl w.heap.size w)
  have H : (if a0_6 = true then (some (a0_0, a0_1, a0_2, a0_3, a0_4, a0_5, a0_6)) else ((monitor_view_all.f a2_0 a2_1 a2_2 a2_3 a2_4 a2_5 a2_6 a2_7 a2_8 a1).bind fun bt214 => (if bt214.1 > bt214.2 then (some (a0_0, a0_1, a0_2, a0_3, a0_4, a0_5, true)) else ((monitor_look.f bt214.1 bt214.2 a0_2 a0_3 a0_4 a0_5 a0_6).bind fun bt217 => ((monitor_view_inRange.f bt217.1 bt217.2.1 bt217.2.2.1 bt217.2.2.2.1 bt217.2.2.2.2.1 bt217.2.2.2.2.2.1 bt217.2.2.2.2.2.2.1 bt217.2.2.2.2.2.2.2.1 bt217.2.2.2.2.2.2.2.2).bind fun t226 => (some (bt214.1, bt214.2, a0_2, a0_3, a0_4, a0_5, !t226))))))) = some (r1, r2, r3, r4, r5, r6, r7) := h
  clear h
  by_cases c4 : a0_6 = true
  · subst c4
    have H1 : (some (a0_0, a0_1, a0_2, a0_3, a0_4, a0_5, true)) = some (r1, r2, r3, r4, r5, r6, r7) := by rw [if_pos rfl] at H; exact H
    clear H
    have H := H1
    clear H1
    simp only [Option.some.injEq, Prod.mk.injEq] at H
    obtain ⟨rfl, rfl, rfl, rfl, rfl, rfl, rfl⟩ := H
    go_enter Try.func34, Try.ntmps34
    go_wp2_with (first | ((with_reducible refine gate_dst (N := 3) rfl ?_); refine box_event ?hg (N := 3) ?hd (cs := #[.int .i64 a0_0, .int .i64 a0_1, .int .i64 a0_2, .int .i64 a0_3, .int .i64 a0_4, .int .i64 a0_5, .bool true]) (t := 28) ?hr ?_; (case hd => rfl); (case hg => rfl); (case hr => first | (go_simp; done) | (go_simp; rfl)); intro gb212 hg w5 hbox hb; have n0_ := Aside0.mk (below_step (by repeat (first | (with_reducible first | exact HB.out | apply below_alloc | apply pw_below_drewN | apply below_drew1) | exact HB.out)) hb); have n1_ := Aside0.mk (hbox); have n2_ := Aside0.mk ((by rw [hg]; exact (below_size (by repeat (first | (with_reducible first | exact HB.out | apply below_alloc | apply pw_below_drewN | apply below_drew1) | exact HB.out))) : w.heap.size ≤ gb212)); have n3_ := Aside0.mk ((by rw [hg]; exact (below_size (by repeat (first | (with_reducible first | exact HB.out | apply below_alloc | apply pw_below_drewN | apply below_drew1) | exact HB.out))) : w.heap.size ≤ gb212)); clear HB; have HB := n0_; have BK212 := n1_; have GW212 := n2_; have GE212 := n3_; clear n0_ n1_ n2_ n3_; clear hb hbox hg) | ((with_reducible refine gate_dst (N := 6) rfl ?_); refine box_event ?hg (N := 6) ?hd (cs := #[.int .i64 0, .int .i64 0, .int .i64 0, .int .i64 0, .int .i64 0, .int .i64 0, .bool false]) (t := 28) ?hr ?_; (case hd => rfl); (case hg => rfl); (case hr => first | (go_simp; done) | (go_simp; rfl)); intro gb213 hg w6 hbox hb; have n0_ := bxb BK212 hb; have n1_ := Aside0.mk (below_step (bwt HB) hb); have n2_ := Aside0.mk (hbox); have n3_ := Aside0.mk ((by rw [hg]; exact (below_size (bwt HB)) : w.heap.size ≤ gb213)); have n4_ := Aside0.mk ((by rw [hg]; exact (below_size (bwt HB)) : w.heap.size ≤ gb213)); have n5_ := nlt_ BK212 hg; have n6_ := ngt_ BK212 hg; clear BK212; clear HB; have BK212 := n0_; have HB := n1_; have BK213 := n2_; have GW213 := n3_; have GE213 := n4_; have NB212_213 := n5_; have NB213_212 := n6_; clear n0_ n1_ n2_ n3_ n4_ n5_ n6_; clear hb hbox hg; have hnb7 := NB212_213.out; have hnc7 := NB213_212.out; have hcz8_0 : w6.cell? ⟨gb212, 0, none⟩ = some (.int .i64 a0_0) := bc BK212 0; have hcz8_1 : w6.cell? ⟨gb212, 1, none⟩ = some (.int .i64 a0_1) := bc BK212 1; have hcz8_2 : w6.cell? ⟨gb212, 2, none⟩ = some (.int .i64 a0_2) := bc BK212 2; have hcz8_3 : w6.cell? ⟨gb212, 3, none⟩ = some (.int .i64 a0_3) := bc BK212 3; have hcz8_4 : w6.cell? ⟨gb212, 4, none⟩ = some (.int .i64 a0_4) := bc BK212 4; have hcz8_5 : w6.cell? ⟨gb212, 5, none⟩ = some (.int .i64 a0_5) := bc BK212 5; have hcz8_6 : w6.cell? ⟨gb212, 6, none⟩ = some (.bool true) := bc BK212 6; have hfz8_0 := blk_frozen BK212.out 0; have hfz8_1 := blk_frozen BK212.out 1; have hfz8_2 := blk_frozen BK212.out 2; have hfz8_3 := blk_frozen BK212.out 3; have hfz8_4 := blk_frozen BK212.out 4; have hfz8_5 := blk_frozen BK212.out 5; have hfz8_6 := blk_frozen BK212.out 6; have hcz9_0 : w6.cell? ⟨gb213, 0, none⟩ = some (.int .i64 0) := bc BK213 0; have hcz9_1 : w6.cell? ⟨gb213, 1, none⟩ = some (.int .i64 0) := bc BK213 1; have hcz9_2 : w6.cell? ⟨gb213, 2, none⟩ = some (.int .i64 0) := bc BK213 2; have hcz9_3 : w6.cell? ⟨gb213, 3, none⟩ = some (.int .i64 0) := bc BK213 3; have hcz9_4 : w6.cell? ⟨gb213, 4, none⟩ = some (.int .i64 0) := bc BK213 4; have hcz9_5 : w6.cell? ⟨gb213, 5, none⟩ = some (.int .i64 0) := bc BK213 5; have hcz9_6 : w6.cell? ⟨gb213, 6, none⟩ = some (.bool false) := bc BK213 6; have hfz9_0 := blk_frozen BK213.out 0; have hfz9_1 := blk_frozen BK213.out 1; have hfz9_2 := blk_frozen BK213.out 2; have hfz9_3 := blk_frozen BK213.out 3; have hfz9_4 := blk_frozen BK213.out 4; have hfz9_5 := blk_frozen BK213.out 5; have hfz9_6 := blk_frozen BK213.out 6))
    refine bodyPost_ret (results_cell_row rfl _ _ gb213 28 #[.int .i64 a0_0, .int .i64 a0_1, .int .i64 a0_2, .int .i64 a0_3, .int .i64 a0_4, .int .i64 a0_5, .bool true] (0, 0) _ rfl (by (with_reducible repeat refine bp_ ?_); refine blk_put (cs := #[.int .i64 a0_0, .int .i64 a0_1, .int .i64 a0_2, .int .i64 a0_3, .int .i64 a0_4, .int .i64 a0_5, .bool false]) ?_ 6 _ rfl; (with_reducible repeat refine bp_ ?_); refine blk_put (cs := #[.int .i64 a0_0, .int .i64 a0_1, .int .i64 a0_2, .int .i64 a0_3, .int .i64 a0_4, .int .i64 0, .bool false]) ?_ 5 _ rfl; (with_reducible repeat refine bp_ ?_); refine blk_put (cs := #[.int .i64 a0_0, .int .i64 a0_1, .int .i64 a0_2, .int .i64 a0_3, .int .i64 0, .int .i64 0, .bool false]) ?_ 4 _ rfl; (with_reducible repeat refine bp_ ?_); refine blk_put (cs := #[.int .i64 a0_0, .int .i64 a0_1, .int .i64 a0_2, .int .i64 0, .int .i64 0, .int .i64 0, .bool false]) ?_ 3 _ rfl; (with_reducible repeat refine bp_ ?_); refine blk_put (cs := #[.int .i64 a0_0, .int .i64 a0_1, .int .i64 0, .int .i64 0, .int .i64 0, .int .i64 0, .bool false]) ?_ 2 _ rfl; (with_reducible repeat refine bp_ ?_); refine blk_put (cs := #[.int .i64 a0_0, .int .i64 0, .int .i64 0, .int .i64 0, .int .i64 0, .int .i64 0, .bool false]) ?_ 1 _ rfl; (with_reducible repeat refine bp_ ?_); refine blk_put (cs := #[.int .i64 0, .int .i64 0, .int .i64 0, .int .i64 0, .int .i64 0, .int .i64 0, .bool false]) ?_ 0 _ rfl; (with_reducible repeat refine bp_ ?_); exact BK213.out) Try.underlying28 rfl (by kernel_rfl)) rfl ?_
    exact ⟨by first | rfl | (simp [errW_none, errW_some] <;> rfl) | (simp [*, errW_none, errW_some] <;> rfl), by repeat (first | (with_reducible first | exact HB.out | apply below_alloc | apply pw_below_drewN | apply below_drew1 | refine below_set ?_ GE212.out | refine below_set ?_ GE213.out) | exact HB.out)⟩
  · replace c4 := Bool.eq_false_iff.mpr c4
    subst c4
    have H1 : ((monitor_view_all.f a2_0 a2_1 a2_2 a2_3 a2_4 a2_5 a2_6 a2_7 a2_8 a1).bind fun bt214 => (if bt214.1 > bt214.2 then (some (a0_0, a0_1, a0_2, a0_3, a0_4, a0_5, true)) else ((monitor_look.f bt214.1 bt214.2 a0_2 a0_3 a0_4 a0_5 false).bind fun bt217 => ((monitor_view_inRange.f bt217.1 bt217.2.1 bt217.2.2.1 bt217.2.2.2.1 bt217.2.2.2.2.1 bt217.2.2.2.2.2.1 bt217.2.2.2.2.2.2.1 bt217.2.2.2.2.2.2.2.1 bt217.2.2.2.2.2.2.2.2).bind fun t226 => (some (bt214.1, bt214.2, a0_2, a0_3, a0_4, a0_5, !t226)))))) = some (r1, r2, r3, r4, r5, r6, r7) := by rw [if_neg (show ¬ (false = true) by decide)] at H; exact H
    clear H
    have H := H1
    clear H1
    replace H := Option.bind_eq_some_iff.mp H
    obtain ⟨⟨t214, t215⟩, A100, H⟩ := H
    replace H : (if t214 > t215 then (some (a0_0, a0_1, a0_2, a0_3, a0_4, a0_5, true)) else ((monitor_look.f t214 t215 a0_2 a0_3 a0_4 a0_5 false).bind fun bt217 => ((monitor_view_inRange.f bt217.1 bt217.2.1 bt217.2.2.1 bt217.2.2.2.1 bt217.2.2.2.2.1 bt217.2.2.2.2.2.1 bt217.2.2.2.2.2.2.1 bt217.2.2.2.2.2.2.2.1 bt217.2.2.2.2.2.2.2.2).bind fun t226 => (some (t214, t215, a0_2, a0_3, a0_4, a0_5, !t226))))) = some (r1, r2, r3, r4, r5, r6, r7) := H
    have A10 := Aside0.mk A100
    clear A100
    by_cases c11 : t214 > t215
    · rw [if_pos c11] at H
      have c11b0 : decide (t215 < t214) = true := decide_eq_true c11
      clear c11
      simp only [Option.some.injEq, Prod.mk.injEq] at H
      obtain ⟨rfl, rfl, rfl, rfl, rfl, rfl, rfl⟩ := H
      go_enter Try.func34, Try.ntmps34
      go_wp2_with (first | ((with_reducible refine gate_dst (N := 3) rfl ?_); refine box_event ?hg (N := 3) ?hd (cs := #[.int .i64 a0_0, .int .i64 a0_1, .int .i64 a0_2, .int .i64 a0_3, .int .i64 a0_4, .int .i64 a0_5, .bool false]) (t := 28) ?hr ?_; (case hd => rfl); (case hg => rfl); (case hr => first | (go_simp; done) | (go_simp; rfl)); intro gb212 hg w12 hbox hb; have n0_ := Aside0.mk (below_step (by repeat (first | (with_reducible first | exact HB.out | apply below_alloc | apply pw_below_drewN | apply below_drew1) | exact HB.out)) hb); have n1_ := Aside0.mk (hbox); have n2_ := Aside0.mk ((by rw [hg]; exact (below_size (by repeat (first | (with_reducible first | exact HB.out | apply below_alloc | apply pw_below_drewN | apply below_drew1) | exact HB.out))) : w.heap.size ≤ gb212)); have n3_ := Aside0.mk ((by rw [hg]; exact (below_size (by repeat (first | (with_reducible first | exact HB.out | apply below_alloc | apply pw_below_drewN | apply below_drew1) | exact HB.out))) : w.heap.size ≤ gb212)); clear HB; have HB := n0_; have BK212 := n1_; have GW212 := n2_; have GE212 := n3_; clear n0_ n1_ n2_ n3_; clear hb hbox hg) | ((with_reducible refine gate_dst (N := 6) rfl ?_); refine box_event ?hg (N := 6) ?hd (cs := #[.int .i64 0, .int .i64 0, .int .i64 0, .int .i64 0, .int .i64 0, .int .i64 0, .bool false]) (t := 28) ?hr ?_; (case hd => rfl); (case hg => rfl); (case hr => first | (go_simp; done) | (go_simp; rfl)); intro gb213 hg w13 hbox hb; have n0_ := bxb BK212 hb; have n1_ := Aside0.mk (below_step (bwt HB) hb); have n2_ := Aside0.mk (hbox); have n3_ := Aside0.mk ((by rw [hg]; exact (below_size (bwt HB)) : w.heap.size ≤ gb213)); have n4_ := Aside0.mk ((by rw [hg]; exact (below_size (bwt HB)) : w.heap.size ≤ gb213)); have n5_ := nlt_ BK212 hg; have n6_ := ngt_ BK212 hg; clear BK212; clear HB; have BK212 := n0_; have HB := n1_; have BK213 := n2_; have GW213 := n3_; have GE213 := n4_; have NB212_213 := n5_; have NB213_212 := n6_; clear n0_ n1_ n2_ n3_ n4_ n5_ n6_; clear hb hbox hg; have hnb14 := NB212_213.out; have hnc14 := NB213_212.out; have hcz15_0 : w13.cell? ⟨gb212, 0, none⟩ = some (.int .i64 a0_0) := bc BK212 0; have hcz15_1 : w13.cell? ⟨gb212, 1, none⟩ = some (.int .i64 a0_1) := bc BK212 1; have hcz15_2 : w13.cell? ⟨gb212, 2, none⟩ = some (.int .i64 a0_2) := bc BK212 2; have hcz15_3 : w13.cell? ⟨gb212, 3, none⟩ = some (.int .i64 a0_3) := bc BK212 3; have hcz15_4 : w13.cell? ⟨gb212, 4, none⟩ = some (.int .i64 a0_4) := bc BK212 4; have hcz15_5 : w13.cell? ⟨gb212, 5, none⟩ = some (.int .i64 a0_5) := bc BK212 5; have hcz15_6 : w13.cell? ⟨gb212, 6, none⟩ = some (.bool false) := bc BK212 6; have hfz15_0 := blk_frozen BK212.out 0; have hfz15_1 := blk_frozen BK212.out 1; have hfz15_2 := blk_frozen BK212.out 2; have hfz15_3 := blk_frozen BK212.out 3; have hfz15_4 := blk_frozen BK212.out 4; have hfz15_5 := blk_frozen BK212.out 5; have hfz15_6 := blk_frozen BK212.out 6) | ((with_reducible refine gate_value (t := 11) rfl ?_); refine goesVL_ (some 13) rfl rfl Try.func35 (by kernel_rfl) rfl #[.agg #[.int .i64 a2_0, .int .i64 a2_1, .int .i64 a2_2, .int .i64 a2_3, .int .i64 a2_4, .int .i64 a2_5, .bool a2_6, .int .i64 a2_7, .int .i64 a2_8], .int .i64 a1] rfl ⟨_, by rfl, by first | rfl | (simp only [List.map_toArray, List.map_cons, List.map_nil]; rfl)⟩ ?_; (with_reducible refine (monitor_view_all.calls a2_0 a2_1 a2_2 a2_3 a2_4 a2_5 a2_6 a2_7 a2_8 a1 t214 t215 _ A10.out).mono ?_); rintro e w16 ⟨rfl, hb⟩; refine ⟨_, rfl, ?_⟩; have n0_ := bxb BK212 hb; have n1_ := bxb BK213 hb; have n2_ := Aside0.mk (below_step (bwt HB) hb); clear BK212; clear BK213; clear HB; have BK212 := n0_; have BK213 := n1_; have HB := n2_; clear n0_ n1_ n2_; (try clear hb); (try clear hb2); (try clear hk); (try clear hi)) | ((with_reducible refine gate_dst (N := 7) rfl ?_); refine box_event ?hg (N := 7) ?hd (cs := #[.int .i64 0, .int .i64 0]) (t := 64) ?hr ?_; (case hd => rfl); (case hg => rfl); (case hr => first | (go_simp; done) | (go_simp; rfl)); intro gb216 hg w17 hbox hb; have n0_ := bxb BK212 hb; have n1_ := bxb BK213 hb; have n2_ := Aside0.mk (below_step (bwt HB) hb); have n3_ := Aside0.mk (hbox); have n4_ := Aside0.mk ((by rw [hg]; exact (below_size (bwt HB)) : w.heap.size ≤ gb216)); have n5_ := Aside0.mk ((by rw [hg]; exact (below_size (bwt HB)) : w.heap.size ≤ gb216)); have n6_ := nlt_ BK212 hg; have n7_ := ngt_ BK212 hg; have n8_ := nlt_ BK213 hg; have n9_ := ngt_ BK213 hg; clear BK212; clear BK213; clear HB; have BK212 := n0_; have BK213 := n1_; have HB := n2_; have BK216 := n3_; have GW216 := n4_; have GE216 := n5_; have NB212_216 := n6_; have NB216_212 := n7_; have NB213_216 := n8_; have NB216_213 := n9_; clear n0_ n1_ n2_ n3_ n4_ n5_ n6_ n7_ n8_ n9_; clear hb hbox hg; have hnb18 := NB216_212.out; have hnc18 := NB212_216.out; have hnb19 := NB216_213.out; have hnc19 := NB213_216.out; have hcz20_0 : w17.cell? ⟨gb216, 0, none⟩ = some (.int .i64 0) := bc BK216 0; have hcz20_1 : w17.cell? ⟨gb216, 1, none⟩ = some (.int .i64 0) := bc BK216 1; have hfz20_0 := blk_frozen BK216.out 0; have hfz20_1 := blk_frozen BK216.out 1; have hcz21_0 : w17.cell? ⟨gb212, 0, none⟩ = some (.int .i64 a0_0) := bc BK212 0; have hcz21_1 : w17.cell? ⟨gb212, 1, none⟩ = some (.int .i64 a0_1) := bc BK212 1; have hcz21_2 : w17.cell? ⟨gb212, 2, none⟩ = some (.int .i64 a0_2) := bc BK212 2; have hcz21_3 : w17.cell? ⟨gb212, 3, none⟩ = some (.int .i64 a0_3) := bc BK212 3; have hcz21_4 : w17.cell? ⟨gb212, 4, none⟩ = some (.int .i64 a0_4) := bc BK212 4; have hcz21_5 : w17.cell? ⟨gb212, 5, none⟩ = some (.int .i64 a0_5) := bc BK212 5; have hcz21_6 : w17.cell? ⟨gb212, 6, none⟩ = some (.bool false) := bc BK212 6; have hfz21_0 := blk_frozen BK212.out 0; have hfz21_1 := blk_frozen BK212.out 1; have hfz21_2 := blk_frozen BK212.out 2; have hfz21_3 := blk_frozen BK212.out 3; have hfz21_4 := blk_frozen BK212.out 4; have hfz21_5 := blk_frozen BK212.out 5; have hfz21_6 := blk_frozen BK212.out 6; have hcz22_0 : w17.cell? ⟨gb213, 0, none⟩ = some (.int .i64 0) := bc BK213 0; have hcz22_1 : w17.cell? ⟨gb213, 1, none⟩ = some (.int .i64 0) := bc BK213 1; have hcz22_2 : w17.cell? ⟨gb213, 2, none⟩ = some (.int .i64 0) := bc BK213 2; have hcz22_3 : w17.cell? ⟨gb213, 3, none⟩ = some (.int .i64 0) := bc BK213 3; have hcz22_4 : w17.cell? ⟨gb213, 4, none⟩ = some (.int .i64 0) := bc BK213 4; have hcz22_5 : w17.cell? ⟨gb213, 5, none⟩ = some (.int .i64 0) := bc BK213 5; have hcz22_6 : w17.cell? ⟨gb213, 6, none⟩ = some (.bool false) := bc BK213 6; have hfz22_0 := blk_frozen BK213.out 0; have hfz22_1 := blk_frozen BK213.out 1; have hfz22_2 := blk_frozen BK213.out 2; have hfz22_3 := blk_frozen BK213.out 3; have hfz22_4 := blk_frozen BK213.out 4; have hfz22_5 := blk_frozen BK213.out 5; have hfz22_6 := blk_frozen BK213.out 6))
      refine bodyPost_ret (results_cell_row rfl _ _ gb213 28 #[.int .i64 a0_0, .int .i64 a0_1, .int .i64 a0_2, .int .i64 a0_3, .int .i64 a0_4, .int .i64 a0_5, .bool true] (0, 0) _ rfl (by (with_reducible repeat refine bp_ ?_); refine blk_put (cs := #[.int .i64 a0_0, .int .i64 a0_1, .int .i64 a0_2, .int .i64 a0_3, .int .i64 a0_4, .int .i64 a0_5, .bool false]) ?_ 6 _ rfl; (with_reducible repeat refine bp_ ?_); refine blk_put (cs := #[.int .i64 a0_0, .int .i64 a0_1, .int .i64 a0_2, .int .i64 a0_3, .int .i64 a0_4, .int .i64 0, .bool false]) ?_ 5 _ rfl; (with_reducible repeat refine bp_ ?_); refine blk_put (cs := #[.int .i64 a0_0, .int .i64 a0_1, .int .i64 a0_2, .int .i64 a0_3, .int .i64 0, .int .i64 0, .bool false]) ?_ 4 _ rfl; (with_reducible repeat refine bp_ ?_); refine blk_put (cs := #[.int .i64 a0_0, .int .i64 a0_1, .int .i64 a0_2, .int .i64 0, .int .i64 0, .int .i64 0, .bool false]) ?_ 3 _ rfl; (with_reducible repeat refine bp_ ?_); refine blk_put (cs := #[.int .i64 a0_0, .int .i64 a0_1, .int .i64 0, .int .i64 0, .int .i64 0, .int .i64 0, .bool false]) ?_ 2 _ rfl; (with_reducible repeat refine bp_ ?_); refine blk_put (cs := #[.int .i64 a0_0, .int .i64 0, .int .i64 0, .int .i64 0, .int .i64 0, .int .i64 0, .bool false]) ?_ 1 _ rfl; (with_reducible repeat refine bp_ ?_); refine blk_put (cs := #[.int .i64 0, .int .i64 0, .int .i64 0, .int .i64 0, .int .i64 0, .int .i64 0, .bool false]) ?_ 0 _ rfl; (with_reducible repeat refine bp_ ?_); refine blk_far ?_ NB213_212.out _; (with_reducible repeat refine bp_ ?_); refine blk_far ?_ NB213_216.out _; (with_reducible repeat refine bp_ ?_); refine blk_far ?_ NB213_216.out _; (with_reducible repeat refine bp_ ?_); exact BK213.out) Try.underlying28 rfl (by kernel_rfl)) rfl ?_
      exact ⟨by first | rfl | (simp [errW_none, errW_some] <;> rfl) | (simp [*, errW_none, errW_some] <;> rfl), by repeat (first | (with_reducible first | exact HB.out | apply below_alloc | apply pw_below_drewN | apply below_drew1 | refine below_set ?_ GE212.out | refine below_set ?_ GE213.out | refine below_set ?_ GE216.out) | exact HB.out)⟩
    · rw [if_neg c11] at H
      have c11b0 : decide (t215 < t214) = false := decide_eq_false c11
      clear c11
      replace H := Option.bind_eq_some_iff.mp H
      obtain ⟨⟨t217, t218, t219, t220, t221, t222, t223, t224, t225⟩, A230, H⟩ := H
      replace H : ((monitor_view_inRange.f t217 t218 t219 t220 t221 t222 t223 t224 t225).bind fun t226 => (some (t214, t215, a0_2, a0_3, a0_4, a0_5, !t226))) = some (r1, r2, r3, r4, r5, r6, r7) := H
      have A23 := Aside0.mk A230
      clear A230
      replace H := Option.bind_eq_some_iff.mp H
      obtain ⟨t226, A240, H⟩ := H
      replace H : (some (t214, t215, a0_2, a0_3, a0_4, a0_5, !t226)) = some (r1, r2, r3, r4, r5, r6, r7) := H
      have A24 := Aside0.mk A240
      clear A240
      simp only [Option.some.injEq, Prod.mk.injEq] at H
      obtain ⟨rfl, rfl, rfl, rfl, rfl, rfl, rfl⟩ := H
      go_enter Try.func34, Try.ntmps34
      try go_wp2_with (first | ((with_reducible refine gate_dst (N := 3) rfl ?_); refine box_event ?hg (N := 3) ?hd (cs := #[.int .i64 a0_0, .int .i64 a0_1, .int .i64 a0_2, .int .i64 a0_3, .int .i64 a0_4, .int .i64 a0_5, .bool false]) (t := 28) ?hr ?_; (case hd => rfl); (case hg => rfl); (case hr => first | (go_simp; done) | (go_simp; rfl)); intro gb212 hg w25 hbox hb; have n0_ := Aside0.mk (below_step (by repeat (first | (with_reducible first | exact HB.out | apply below_alloc | apply pw_below_drewN | apply below_drew1) | exact HB.out)) hb); have n1_ := Aside0.mk (hbox); have n2_ := Aside0.mk ((by rw [hg]; exact (below_size (by repeat (first | (with_reducible first | exact HB.out | apply below_alloc | apply pw_below_drewN | apply below_drew1) | exact HB.out))) : w.heap.size ≤ gb212)); have n3_ := Aside0.mk ((by rw [hg]; exact (below_size (by repeat (first | (with_reducible first | exact HB.out | apply below_alloc | apply pw_below_drewN | apply below_drew1) | exact HB.out))) : w.heap.size ≤ gb212)); clear HB; have HB := n0_; have BK212 := n1_; have GW212 := n2_; have GE212 := n3_; clear n0_ n1_ n2_ n3_; clear hb hbox hg) | ((with_reducible refine gate_dst (N := 6) rfl ?_); refine box_event ?hg (N := 6) ?hd (cs := #[.int .i64 0, .int .i64 0, .int .i64 0, .int .i64 0, .int .i64 0, .int .i64 0, .bool false]) (t := 28) ?hr ?_; (case hd => rfl); (case hg => rfl); (case hr => first | (go_simp; done) | (go_simp; rfl)); intro gb213 hg w26 hbox hb; have n0_ := bxb BK212 hb; have n1_ := Aside0.mk (below_step (bwt HB) hb); have n2_ := Aside0.mk (hbox); have n3_ := Aside0.mk ((by rw [hg]; exact (below_size (bwt HB)) : w.heap.size ≤ gb213)); have n4_ := Aside0.mk ((by rw [hg]; exact (below_size (bwt HB)) : w.heap.size ≤ gb213)); have n5_ := nlt_ BK212 hg; have n6_ := ngt_ BK212 hg; clear BK212; clear HB; have BK212 := n0_; have HB := n1_; have BK213 := n2_; have GW213 := n3_; have GE213 := n4_; have NB212_213 := n5_; have NB213_212 := n6_; clear n0_ n1_ n2_ n3_ n4_ n5_ n6_; clear hb hbox hg; have hnb27 := NB212_213.out; have hnc27 := NB213_212.out; have hcz28_0 : w26.cell? ⟨gb212, 0, none⟩ = some (.int .i64 a0_0) := bc BK212 0; have hcz28_1 : w26.cell? ⟨gb212, 1, none⟩ = some (.int .i64 a0_1) := bc BK212 1; have hcz28_2 : w26.cell? ⟨gb212, 2, none⟩ = some (.int .i64 a0_2) := bc BK212 2; have hcz28_3 : w26.cell? ⟨gb212, 3, none⟩ = some (.int .i64 a0_3) := bc BK212 3; have hcz28_4 : w26.cell? ⟨gb212, 4, none⟩ = some (.int .i64 a0_4) := bc BK212 4; have hcz28_5 : w26.cell? ⟨gb212, 5, none⟩ = some (.int .i64 a0_5) := bc BK212 5; have hcz28_6 : w26.cell? ⟨gb212, 6, none⟩ = some (.bool false) := bc BK212 6; have hfz28_0 := blk_frozen BK212.out 0; have hfz28_1 := blk_frozen BK212.out 1; have hfz28_2 := blk_frozen BK212.out 2; have hfz28_3 := blk_frozen BK212.out 3; have hfz28_4 := blk_frozen BK212.out 4; have hfz28_5 := blk_frozen BK212.out 5; have hfz28_6 := blk_frozen BK212.out 6) | ((with_reducible refine gate_value (t := 11) rfl ?_); refine goesVL_ (some 13) rfl rfl Try.func35 (by kernel_rfl) rfl #[.agg #[.int .i64 a2_0, .int .i64 a2_1, .int .i64 a2_2, .int .i64 a2_3, .int .i64 a2_4, .int .i64 a2_5, .bool a2_6, .int .i64 a2_7, .int .i64 a2_8], .int .i64 a1] rfl ⟨_, by rfl, by first | rfl | (simp only [List.map_toArray, List.map_cons, List.map_nil]; rfl)⟩ ?_; (with_reducible refine (monitor_view_all.calls a2_0 a2_1 a2_2 a2_3 a2_4 a2_5 a2_6 a2_7 a2_8 a1 t214 t215 _ A10.out).mono ?_); rintro e w29 ⟨rfl, hb⟩; refine ⟨_, rfl, ?_⟩; have n0_ := bxb BK212 hb; have n1_ := bxb BK213 hb; have n2_ := Aside0.mk (below_step (bwt HB) hb); clear BK212; clear BK213; clear HB; have BK212 := n0_; have BK213 := n1_; have HB := n2_; clear n0_ n1_ n2_; (try clear hb); (try clear hb2); (try clear hk); (try clear hi)) | ((with_reducible refine gate_dst (N := 7) rfl ?_); refine box_event ?hg (N := 7) ?hd (cs := #[.int .i64 0, .int .i64 0]) (t := 64) ?hr ?_; (case hd => rfl); (case hg => rfl); (case hr => first | (go_simp; done) | (go_simp; rfl)); intro gb216 hg w30 hbox hb; have n0_ := bxb BK212 hb; have n1_ := bxb BK213 hb; have n2_ := Aside0.mk (below_step (bwt HB) hb); have n3_ := Aside0.mk (hbox); have n4_ := Aside0.mk ((by rw [hg]; exact (below_size (bwt HB)) : w.heap.size ≤ gb216)); have n5_ := Aside0.mk ((by rw [hg]; exact (below_size (bwt HB)) : w.heap.size ≤ gb216)); have n6_ := nlt_ BK212 hg; have n7_ := ngt_ BK212 hg; have n8_ := nlt_ BK213 hg; have n9_ := ngt_ BK213 hg; clear BK212; clear BK213; clear HB; have BK212 := n0_; have BK213 := n1_; have HB := n2_; have BK216 := n3_; have GW216 := n4_; have GE216 := n5_; have NB212_216 := n6_; have NB216_212 := n7_; have NB213_216 := n8_; have NB216_213 := n9_; clear n0_ n1_ n2_ n3_ n4_ n5_ n6_ n7_ n8_ n9_; clear hb hbox hg; have hnb31 := NB216_212.out; have hnc31 := NB212_216.out; have hnb32 := NB216_213.out; have hnc32 := NB213_216.out; have hcz33_0 : w30.cell? ⟨gb216, 0, none⟩ = some (.int .i64 0) := bc BK216 0; have hcz33_1 : w30.cell? ⟨gb216, 1, none⟩ = some (.int .i64 0) := bc BK216 1; have hfz33_0 := blk_frozen BK216.out 0; have hfz33_1 := blk_frozen BK216.out 1))
      have n0_ : Aside0 (((w30.setCell ⟨gb216, 0, none⟩ (.int .i64 t214)).setCell ⟨gb216, 1, none⟩ (.int .i64 t215)).heap[gb212]? = some (.cells #[.int .i64 a0_0, .int .i64 a0_1, .int .i64 a0_2, .int .i64 a0_3, .int .i64 a0_4, .int .i64 a0_5, .bool false] 28 (0, 0))) := ⟨by (with_reducible repeat refine bp_ ?_); refine blk_far ?_ NB212_216.out _; (with_reducible repeat refine bp_ ?_); refine blk_far ?_ NB212_216.out _; (with_reducible repeat refine bp_ ?_); exact BK212.out⟩
      have n1_ : Aside0 (((w30.setCell ⟨gb216, 0, none⟩ (.int .i64 t214)).setCell ⟨gb216, 1, none⟩ (.int .i64 t215)).heap[gb213]? = some (.cells #[.int .i64 0, .int .i64 0, .int .i64 0, .int .i64 0, .int .i64 0, .int .i64 0, .bool false] 28 (0, 0))) := ⟨by (with_reducible repeat refine bp_ ?_); refine blk_far ?_ NB213_216.out _; (with_reducible repeat refine bp_ ?_); refine blk_far ?_ NB213_216.out _; (with_reducible repeat refine bp_ ?_); exact BK213.out⟩
      have n2_ : Aside0 (((w30.setCell ⟨gb216, 0, none⟩ (.int .i64 t214)).setCell ⟨gb216, 1, none⟩ (.int .i64 t215)).heap[gb216]? = some (.cells #[.int .i64 t214, .int .i64 t215] 64 (0, 0))) := ⟨by (with_reducible repeat refine bp_ ?_); refine blk_put (cs := #[.int .i64 t214, .int .i64 0]) ?_ 1 _ rfl; (with_reducible repeat refine bp_ ?_); refine blk_put (cs := #[.int .i64 0, .int .i64 0]) ?_ 0 _ rfl; (with_reducible repeat refine bp_ ?_); exact BK216.out⟩
      have n3_ : Aside0 (Below w.heap.size w ((w30.setCell ⟨gb216, 0, none⟩ (.int .i64 t214)).setCell ⟨gb216, 1, none⟩ (.int .i64 t215))) := ⟨by repeat (first | (with_reducible first | exact HB.out | apply below_alloc | apply pw_below_drewN | apply below_drew1 | refine below_set ?_ GE212.out | refine below_set ?_ GE213.out | refine below_set ?_ GE216.out) | exact HB.out)⟩
      (try clear BK212)
      (try clear BK213)
      (try clear BK216)
      (try clear HB)
      generalize ((w30.setCell ⟨gb216, 0, none⟩ (.int .i64 t214)).setCell ⟨gb216, 1, none⟩ (.int .i64 t215)) = w34 at n0_ n1_ n2_ n3_ ⊢
      have BK212 := n0_
      have BK213 := n1_
      have BK216 := n2_
      have HB := n3_
      clear n0_ n1_ n2_ n3_
      have n0_ := Aside0.mk (blk_drew BK212.out)
      have n1_ := Aside0.mk (blk_drew BK213.out)
      have n2_ := Aside0.mk (blk_drew BK216.out)
      have n3_ := Aside0.mk (below_drew1 HB.out)
      clear BK212
      clear BK213
      clear BK216
      clear HB
      have BK212 := n0_
      have BK213 := n1_
      have BK216 := n2_
      have HB := n3_
      clear n0_ n1_ n2_ n3_
      refine start_ (n := 8) (S := fun w' => w'.cell? ⟨gb216, 0, none⟩ = some (.int .i64 t214) ∧ w'.cell? ⟨gb216, 1, none⟩ = some (.int .i64 t215)) (ds := []) #[false, false, false, false, false, false, false, false] (by kernel_rfl) rfl rfl ⟨bc BK216 0, bc BK216 1⟩ (fun hHeld => ?_); refine with_tabW monitor_update_monitor_view_all.tab7 monitor_update_monitor_view_all.bits7 (fun HT_ HW_ => ?_)
      generalize w34.drew = w35 at BK212 BK213 BK216 HB hHeld ⊢
      refine pure_ (i := 0) (N := some 21) (v := ?_) (a' := ?_) #[true, false, false, false, false, false, false, false] rfl rfl (any_of HT_.out (by kernel_rfl)) (fun _ _ _ h => h) (Or.inl ⟨by rfl, ?_⟩) ?_ ?_
      rotate_left
      · intro w'
        go_simp
        with_reducible rfl
      rotate_left
      · simp only [Act.put, List.setIfInBounds_toArray, List.set_cons_zero, List.set_cons_succ, i64_w, i32_w]
        rfl
      refine pure_ (i := 2) (N := some 23) (v := ?_) (a' := ?_) #[true, false, true, false, false, false, false, false] rfl rfl (any_of HT_.out (by kernel_rfl)) (fun _ _ _ h => h) (Or.inl ⟨by rfl, ?_⟩) ?_ ?_
      rotate_left
      · intro w'
        go_simp
        with_reducible rfl
      rotate_left
      · simp only [Act.put, List.setIfInBounds_toArray, List.set_cons_zero, List.set_cons_succ, i64_w, i32_w]
        rfl
      refine take_ (i := 1) (N := some 22) (v := ?_) (a' := ?_) #[true, true, true, false, false, false, false, false] rfl rfl (take_ofW HT_.out HW_.out (by kernel_rfl)) (fun _ _ _ h => h) (Or.inl ⟨by rfl, ?_⟩) hHeld ?_ ?_
      rotate_left
      · rintro w' ⟨s0, s1⟩
        go_simp
        with_reducible rfl
      rotate_left
      · simp only [Act.put, List.setIfInBounds_toArray, List.set_cons_zero, List.set_cons_succ, i64_w, i32_w]
        rfl
      refine pure_ (i := 4) (N := some 25) (v := ?_) (a' := ?_) #[true, true, true, false, true, false, false, false] rfl rfl (any_of HT_.out (by kernel_rfl)) (fun _ _ _ h => h) (Or.inl ⟨by rfl, ?_⟩) ?_ ?_
      rotate_left
      · intro w'
        go_simp
        with_reducible rfl
      rotate_left
      · simp only [Act.put, List.setIfInBounds_toArray, List.set_cons_zero, List.set_cons_succ, i64_w, i32_w]
        rfl
      refine take_ (i := 3) (N := some 24) (v := ?_) (a' := ?_) #[true, true, true, true, true, false, false, false] rfl rfl (take_ofW HT_.out HW_.out (by kernel_rfl)) (fun _ _ _ h => h) (Or.inl ⟨by rfl, ?_⟩) hHeld ?_ ?_
      rotate_left
      · rintro w' ⟨s0, s1⟩
        go_simp
        with_reducible rfl
      rotate_left
      · simp only [Act.put, List.setIfInBounds_toArray, List.set_cons_zero, List.set_cons_succ, i64_w, i32_w]
        rfl
      refine one_ (i := 5) (N := none) #[true, true, true, true, true, true, false, false] rfl rfl (one_of HT_.out (by kernel_rfl)) (by decide) (fun K hK => ?_)
      have hs36 : w35.cell? ⟨gb212, 0, none⟩ = some (.int .i64 a0_0) := bc BK212 0
      have hfs36 := blk_frozen BK212.out 0
      have hns36_1 := NB213_212.out
      have hns36_2 := NB216_212.out
      have hms36_1 := NB212_213.out
      have hms36_2 := NB212_216.out
      refine skip_ (w1 := ?_) (by rfl) rfl ?_ ?_
      rotate_left
      · go_simp
        rfl
      refine hK.out _ _ ⟨((cell_far (p := ⟨gb212, _, none⟩) NB216_212.out _).trans (hHeld.1)), ((cell_far (p := ⟨gb212, _, none⟩) NB216_212.out _).trans (hHeld.2))⟩ (fun hHeld => ?_)
      clear hK K
      refine pure_ (i := 6) (N := some 26) (v := ?_) (a' := ?_) #[true, true, true, true, true, true, true, false] rfl rfl (any_of HT_.out (by kernel_rfl)) (fun _ _ _ h => h) (Or.inl ⟨by rfl, ?_⟩) ?_ ?_
      rotate_left
      · intro w'
        go_simp
        with_reducible rfl
      rotate_left
      · simp only [Act.put, List.setIfInBounds_toArray, List.set_cons_zero, List.set_cons_succ, i64_w, i32_w]
        rfl
      refine one_ (i := 7) (N := none) #[true, true, true, true, true, true, true, true] rfl rfl (one_of HT_.out (by kernel_rfl)) (by decide) (fun K hK => ?_)
      have hs37 : w35.cell? ⟨gb212, 1, none⟩ = some (.int .i64 a0_1) := bc BK212 1
      have hfs37 := blk_frozen BK212.out 1
      have hns37_1 := NB213_212.out
      have hns37_2 := NB216_212.out
      have hms37_1 := NB212_213.out
      have hms37_2 := NB212_216.out
      with_reducible refine skip_ (w1 := ?_) ?_ ?_ ?_ ?_
      rotate_left
      · rfl
      · rfl
      · first | (apply store_box BK212; (case hop => rfl); (case hp => rfl); (case hv => rfl); (case hg => with_reducible (repeat (refine blk_far ?_ (by assumption) _); exact bx0 BK212)); (case hi => kernel_rfl); (case ho => rfl); (case h1 => rfl); (case hw => simp only [setCells, Nat.zero_add, Nat.reduceAdd]; rfl)) | (go_simp; rfl)
      refine hK.out _ _ ⟨((cell_far (p := ⟨gb212, _, none⟩) NB216_212.out _).trans (hHeld.1)), ((cell_far (p := ⟨gb212, _, none⟩) NB216_212.out _).trans (hHeld.2))⟩ (fun hHeld => ?_)
      clear hK K
      refine done_ (done_of HT_.out (by kernel_rfl)) ?_
      have hcz38_0 : w35.cell? ⟨gb212, 0, none⟩ = some (.int .i64 a0_0) := bc BK212 0
      have hcz38_1 : w35.cell? ⟨gb212, 1, none⟩ = some (.int .i64 a0_1) := bc BK212 1
      have hcz38_2 : w35.cell? ⟨gb212, 2, none⟩ = some (.int .i64 a0_2) := bc BK212 2
      have hcz38_3 : w35.cell? ⟨gb212, 3, none⟩ = some (.int .i64 a0_3) := bc BK212 3
      have hcz38_4 : w35.cell? ⟨gb212, 4, none⟩ = some (.int .i64 a0_4) := bc BK212 4
      have hcz38_5 : w35.cell? ⟨gb212, 5, none⟩ = some (.int .i64 a0_5) := bc BK212 5
      have hcz38_6 : w35.cell? ⟨gb212, 6, none⟩ = some (.bool false) := bc BK212 6
      have hfz38_0 := blk_frozen BK212.out 0
      have hfz38_1 := blk_frozen BK212.out 1
      have hfz38_2 := blk_frozen BK212.out 2
      have hfz38_3 := blk_frozen BK212.out 3
      have hfz38_4 := blk_frozen BK212.out 4
      have hfz38_5 := blk_frozen BK212.out 5
      have hfz38_6 := blk_frozen BK212.out 6
      try go_wp2_with (first | ((with_reducible refine gate_callee (f := 27) rfl ?_); refine goesL_ (some 28) rfl rfl Try.func27 (by kernel_rfl) rfl #[.agg #[.int .i64 t214, .int .i64 t215, .int .i64 a0_2, .int .i64 a0_3, .int .i64 a0_4, .int .i64 a0_5, .bool false]] rfl (by (try simp only [List.map_toArray, List.map_cons, List.map_nil]); first | done | rfl | (simp only [List.length_drop, List.length_take]; rfl)) ?_; (with_reducible refine (monitor_look.calls t214 t215 a0_2 a0_3 a0_4 a0_5 false t217 t218 t219 t220 t221 t222 t223 t224 t225 _ A23.out).mono ?_); rintro e w39 ⟨rfl, hb⟩; refine ⟨_, rfl, ?_⟩; have n0_ := Aside0.mk (blk_below (g := gb212) (o := .cells #[.int .i64 t214, .int .i64 t215, .int .i64 a0_2, .int .i64 a0_3, .int .i64 a0_4, .int .i64 a0_5, .bool false] 28 (0, 0)) (by (with_reducible repeat refine bp_ ?_); refine blk_put (cs := #[.int .i64 t214, .int .i64 a0_1, .int .i64 a0_2, .int .i64 a0_3, .int .i64 a0_4, .int .i64 a0_5, .bool false]) ?_ 1 _ rfl; (with_reducible repeat refine bp_ ?_); refine blk_put (cs := #[.int .i64 a0_0, .int .i64 a0_1, .int .i64 a0_2, .int .i64 a0_3, .int .i64 a0_4, .int .i64 a0_5, .bool false]) ?_ 0 _ rfl; (with_reducible repeat refine bp_ ?_); exact BK212.out) hb); have n1_ := Aside0.mk (blk_below (g := gb213) (o := .cells #[.int .i64 0, .int .i64 0, .int .i64 0, .int .i64 0, .int .i64 0, .int .i64 0, .bool false] 28 (0, 0)) (by (with_reducible repeat refine bp_ ?_); refine blk_far ?_ NB213_212.out _; (with_reducible repeat refine bp_ ?_); refine blk_far ?_ NB213_212.out _; (with_reducible repeat refine bp_ ?_); exact BK213.out) hb); have n2_ := Aside0.mk (blk_below (g := gb216) (o := .cells #[.int .i64 t214, .int .i64 t215] 64 (0, 0)) (by (with_reducible repeat refine bp_ ?_); refine blk_far ?_ NB216_212.out _; (with_reducible repeat refine bp_ ?_); refine blk_far ?_ NB216_212.out _; (with_reducible repeat refine bp_ ?_); exact BK216.out) hb); have n3_ := Aside0.mk (below_step (by repeat (first | (with_reducible first | exact HB.out | apply below_alloc | apply pw_below_drewN | apply below_drew1 | refine below_set ?_ GE212.out | refine below_set ?_ GE213.out | refine below_set ?_ GE216.out) | exact HB.out)) hb); clear BK212; clear BK213; clear BK216; clear HB; have BK212 := n0_; have BK213 := n1_; have BK216 := n2_; have HB := n3_; clear n0_ n1_ n2_ n3_; (try clear hb); (try clear hb2); (try clear hk); (try clear hi)) | ((with_reducible refine gate_callee (f := 28) rfl ?_); refine goesL_ (some 29) rfl rfl Try.func28 (by kernel_rfl) rfl #[.agg #[.int .i64 t217, .int .i64 t218, .int .i64 t219, .int .i64 t220, .int .i64 t221, .int .i64 t222, .bool t223, .int .i64 t224, .int .i64 t225]] rfl (by (try simp only [List.map_toArray, List.map_cons, List.map_nil]); first | done | rfl | (simp only [List.length_drop, List.length_take]; rfl)) ?_; (with_reducible refine (monitor_view_inRange.calls t217 t218 t219 t220 t221 t222 t223 t224 t225 t226 _ A24.out).mono ?_); rintro e w40 ⟨rfl, hb⟩; refine ⟨_, rfl, ?_⟩; have n0_ := bxb BK212 hb; have n1_ := bxb BK213 hb; have n2_ := bxb BK216 hb; have n3_ := Aside0.mk (below_step (bwt HB) hb); clear BK212; clear BK213; clear BK216; clear HB; have BK212 := n0_; have BK213 := n1_; have BK216 := n2_; have HB := n3_; clear n0_ n1_ n2_ n3_; (try clear hb); (try clear hb2); (try clear hk); (try clear hi); have hcz41_0 : w40.cell? ⟨gb212, 0, none⟩ = some (.int .i64 t214) := bc BK212 0; have hcz41_1 : w40.cell? ⟨gb212, 1, none⟩ = some (.int .i64 t215) := bc BK212 1; have hcz41_2 : w40.cell? ⟨gb212, 2, none⟩ = some (.int .i64 a0_2) := bc BK212 2; have hcz41_3 : w40.cell? ⟨gb212, 3, none⟩ = some (.int .i64 a0_3) := bc BK212 3; have hcz41_4 : w40.cell? ⟨gb212, 4, none⟩ = some (.int .i64 a0_4) := bc BK212 4; have hcz41_5 : w40.cell? ⟨gb212, 5, none⟩ = some (.int .i64 a0_5) := bc BK212 5; have hcz41_6 : w40.cell? ⟨gb212, 6, none⟩ = some (.bool false) := bc BK212 6; have hfz41_0 := blk_frozen BK212.out 0; have hfz41_1 := blk_frozen BK212.out 1; have hfz41_2 := blk_frozen BK212.out 2; have hfz41_3 := blk_frozen BK212.out 3; have hfz41_4 := blk_frozen BK212.out 4; have hfz41_5 := blk_frozen BK212.out 5; have hfz41_6 := blk_frozen BK212.out 6; have hcz42_0 : w40.cell? ⟨gb213, 0, none⟩ = some (.int .i64 0) := bc BK213 0; have hcz42_1 : w40.cell? ⟨gb213, 1, none⟩ = some (.int .i64 0) := bc BK213 1; have hcz42_2 : w40.cell? ⟨gb213, 2, none⟩ = some (.int .i64 0) := bc BK213 2; have hcz42_3 : w40.cell? ⟨gb213, 3, none⟩ = some (.int .i64 0) := bc BK213 3; have hcz42_4 : w40.cell? ⟨gb213, 4, none⟩ = some (.int .i64 0) := bc BK213 4; have hcz42_5 : w40.cell? ⟨gb213, 5, none⟩ = some (.int .i64 0) := bc BK213 5; have hcz42_6 : w40.cell? ⟨gb213, 6, none⟩ = some (.bool false) := bc BK213 6; have hfz42_0 := blk_frozen BK213.out 0; have hfz42_1 := blk_frozen BK213.out 1; have hfz42_2 := blk_frozen BK213.out 2; have hfz42_3 := blk_frozen BK213.out 3; have hfz42_4 := blk_frozen BK213.out 4; have hfz42_5 := blk_frozen BK213.out 5; have hfz42_6 := blk_frozen BK213.out 6))
      refine bodyPost_ret (results_cell_row rfl _ _ gb213 28 #[.int .i64 t214, .int .i64 t215, .int .i64 a0_2, .int .i64 a0_3, .int .i64 a0_4, .int .i64 a0_5, .bool (!t226)] (0, 0) _ rfl (by (with_reducible repeat refine bp_ ?_); refine blk_put (cs := #[.int .i64 t214, .int .i64 t215, .int .i64 a0_2, .int .i64 a0_3, .int .i64 a0_4, .int .i64 a0_5, .bool false]) ?_ 6 _ rfl; (with_reducible repeat refine bp_ ?_); refine blk_put (cs := #[.int .i64 t214, .int .i64 t215, .int .i64 a0_2, .int .i64 a0_3, .int .i64 a0_4, .int .i64 0, .bool false]) ?_ 5 _ rfl; (with_reducible repeat refine bp_ ?_); refine blk_put (cs := #[.int .i64 t214, .int .i64 t215, .int .i64 a0_2, .int .i64 a0_3, .int .i64 0, .int .i64 0, .bool false]) ?_ 4 _ rfl; (with_reducible repeat refine bp_ ?_); refine blk_put (cs := #[.int .i64 t214, .int .i64 t215, .int .i64 a0_2, .int .i64 0, .int .i64 0, .int .i64 0, .bool false]) ?_ 3 _ rfl; (with_reducible repeat refine bp_ ?_); refine blk_put (cs := #[.int .i64 t214, .int .i64 t215, .int .i64 0, .int .i64 0, .int .i64 0, .int .i64 0, .bool false]) ?_ 2 _ rfl; (with_reducible repeat refine bp_ ?_); refine blk_put (cs := #[.int .i64 t214, .int .i64 0, .int .i64 0, .int .i64 0, .int .i64 0, .int .i64 0, .bool false]) ?_ 1 _ rfl; (with_reducible repeat refine bp_ ?_); refine blk_put (cs := #[.int .i64 0, .int .i64 0, .int .i64 0, .int .i64 0, .int .i64 0, .int .i64 0, .bool false]) ?_ 0 _ rfl; (with_reducible repeat refine bp_ ?_); refine blk_far ?_ NB213_212.out _; (with_reducible repeat refine bp_ ?_); exact BK213.out) Try.underlying28 rfl (by kernel_rfl)) rfl ?_
      exact ⟨by first | rfl | (simp [errW_none, errW_some] <;> rfl) | (simp [*, errW_none, errW_some] <;> rfl), by repeat (first | (with_reducible first | exact HB.out | apply below_alloc | apply pw_below_drewN | apply below_drew1 | refine below_set ?_ GE212.out | refine below_set ?_ GE213.out | refine below_set ?_ GE216.out) | exact HB.out)⟩

end Go.Proofs.Ytlofmgdjnaajjaa.Q

namespace Go.Proofs.Ytlofmgdjnaajjaa.Q
open Go.RowKit Go.Proofs.YtlofmgdjnaajjaaW.PrintWords Go.Proofs.YtlofmgdjnaajjaaW.PrintLast Go.Proofs.YtlofmgdjnaajjaaW.PrintMore
attribute [local go_sem] run_makeFunc_own max2_int min2_int max_two min_two max_three min_three max_four min_four   -- for this text's walks alone
set_option linter.unusedVariables false
set_option linter.unusedSimpArgs false

/-! ### monitor_Miss: function 22 -/
def monitor_Miss.f (a0_0 : Int) (a0_1 : Int) (a0_2 : Int) (a0_3 : Int) (a0_4 : Int) (a0_5 : Int) (a0_6 : Bool) : Option (Int × Int × Int × Int × Int × Int × Bool) := (monitor_look.f a0_0 a0_1 a0_2 a0_3 a0_4 a0_5 a0_6).bind fun bt229 => ((monitor_update_monitor_view_all.f a0_0 a0_1 a0_2 a0_3 a0_4 a0_5 a0_6 0 bt229.1 bt229.2.1 bt229.2.2.1 bt229.2.2.2.1 bt229.2.2.2.2.1 bt229.2.2.2.2.2.1 bt229.2.2.2.2.2.2.1 bt229.2.2.2.2.2.2.2.1 bt229.2.2.2.2.2.2.2.2).bind fun bt238 => (some (bt238.1, bt238.2.1, bt238.2.2.1, bt238.2.2.2.1, bt238.2.2.2.2.1, bt238.2.2.2.2.2.1, bt238.2.2.2.2.2.2)))
set_option maxHeartbeats 8000000 in
set_option maxRecDepth 100000 in
theorem monitor_Miss.calls (a0_0 : Int) (a0_1 : Int) (a0_2 : Int) (a0_3 : Int) (a0_4 : Int) (a0_5 : Int) (a0_6 : Bool) (r1 : Int) (r2 : Int) (r3 : Int) (r4 : Int) (r5 : Int) (r6 : Int) (r7 : Bool) (w : World) (h : monitor_Miss.f a0_0 a0_1 a0_2 a0_3 a0_4 a0_5 a0_6 = some (r1, r2, r3, r4, r5, r6, r7)) :
    Calls Try.prog 22 #[.agg #[.int .i64 a0_0, .int .i64 a0_1, .int .i64 a0_2, .int .i64 a0_3, .int .i64 a0_4, .int .i64 a0_5, .bool a0_6]] w fun e w' => e = .returned (.agg #[.int .i64 r1, .int .i64 r2, .int .i64 r3, .int .i64 r4, .int .i64 r5, .int .i64 r6, .bool r7]) ∧ Below w.heap.size w w' := by
  have hu28 := Try.underlying28
  have HB := Aside0.mk (Below.refl w.heap.size w)
  have H : ((monitor_look.f a0_0 a0_1 a0_2 a0_3 a0_4 a0_5 a0_6).bind fun bt229 => ((monitor_update_monitor_view_all.f a0_0 a0_1 a0_2 a0_3 a0_4 a0_5 a0_6 0 bt229.1 bt229.2.1 bt229.2.2.1 bt229.2.2.2.1 bt229.2.2.2.2.1 bt229.2.2.2.2.2.1 bt229.2.2.2.2.2.2.1 bt229.2.2.2.2.2.2.2.1 bt229.2.2.2.2.2.2.2.2).bind fun bt238 => (some (bt238.1, bt238.2.1, bt238.2.2.1, bt238.2.2.2.1, bt238.2.2.2.2.1, bt238.2.2.2.2.2.1, bt238.2.2.2.2.2.2)))) = some (r1, r2, r3, r4, r5, r6, r7) := h
  clear h
  replace H := Option.bind_eq_some_iff.mp H
  obtain ⟨⟨t229, t230, t231, t232, t233, t234, t235, t236, t237⟩, A20, H⟩ := H
  replace H : ((monitor_update_monitor_view_all.f a0_0 a0_1 a0_2 a0_3 a0_4 a0_5 a0_6 0 t229 t230 t231 t232 t233 t234 t235 t236 t237).bind fun bt238 => (some (bt238.1, bt238.2.1, bt238.2.2.1, bt238.2.2.2.1, bt238.2.2.2.2.1, bt238.2.2.2.2.2.1, bt238.2.2.2.2.2.2))) = some (r1, r2, r3, r4, r5, r6, r7) := H
  have A2 := Aside0.mk A20
  clear A20
  replace H := Option.bind_eq_some_iff.mp H
  obtain ⟨⟨t238, t239, t240, t241, t242, t243, t244⟩, A30, H⟩ := H
  replace H : (some (t238, t239, t240, t241, t242, t243, t244)) = some (r1, r2, r3, r4, r5, r6, r7) := H
  have A3 := Aside0.mk A30
  clear A30
  simp only [Option.some.injEq, Prod.mk.injEq] at H
  obtain ⟨rfl, rfl, rfl, rfl, rfl, rfl, rfl⟩ := H
  go_enter Try.func22, Try.ntmps22
  try go_wp2_with (first | ((with_reducible refine gate_dst (N := 1) rfl ?_); refine box_event ?hg (N := 1) ?hd (cs := #[.int .i64 a0_0, .int .i64 a0_1, .int .i64 a0_2, .int .i64 a0_3, .int .i64 a0_4, .int .i64 a0_5, .bool a0_6]) (t := 28) ?hr ?_; (case hd => rfl); (case hg => rfl); (case hr => first | (go_simp; done) | (go_simp; rfl)); intro gb227 hg w4 hbox hb; have n0_ := Aside0.mk (below_step (by repeat (first | (with_reducible first | exact HB.out | apply below_alloc | apply pw_below_drewN | apply below_drew1) | exact HB.out)) hb); have n1_ := Aside0.mk (hbox); have n2_ := Aside0.mk ((by rw [hg]; exact (below_size (by repeat (first | (with_reducible first | exact HB.out | apply below_alloc | apply pw_below_drewN | apply below_drew1) | exact HB.out))) : w.heap.size ≤ gb227)); have n3_ := Aside0.mk ((by rw [hg]; exact (below_size (by repeat (first | (with_reducible first | exact HB.out | apply below_alloc | apply pw_below_drewN | apply below_drew1) | exact HB.out))) : w.heap.size ≤ gb227)); clear HB; have HB := n0_; have BK227 := n1_; have GW227 := n2_; have GE227 := n3_; clear n0_ n1_ n2_ n3_; clear hb hbox hg) | ((with_reducible refine gate_dst (N := 2) rfl ?_); refine box_event ?hg (N := 2) ?hd (cs := #[.int .i64 0, .int .i64 0, .int .i64 0, .int .i64 0, .int .i64 0, .int .i64 0, .bool false]) (t := 28) ?hr ?_; (case hd => rfl); (case hg => rfl); (case hr => first | (go_simp; done) | (go_simp; rfl)); intro gb228 hg w5 hbox hb; have n0_ := bxb BK227 hb; have n1_ := Aside0.mk (below_step (bwt HB) hb); have n2_ := Aside0.mk (hbox); have n3_ := Aside0.mk ((by rw [hg]; exact (below_size (bwt HB)) : w.heap.size ≤ gb228)); have n4_ := Aside0.mk ((by rw [hg]; exact (below_size (bwt HB)) : w.heap.size ≤ gb228)); have n5_ := nlt_ BK227 hg; have n6_ := ngt_ BK227 hg; clear BK227; clear HB; have BK227 := n0_; have HB := n1_; have BK228 := n2_; have GW228 := n3_; have GE228 := n4_; have NB227_228 := n5_; have NB228_227 := n6_; clear n0_ n1_ n2_ n3_ n4_ n5_ n6_; clear hb hbox hg))
  have n0_ := Aside0.mk (blk_drew BK227.out)
  have n1_ := Aside0.mk (blk_drew BK228.out)
  have n2_ := Aside0.mk (below_drew1 HB.out)
  clear BK227
  clear BK228
  clear HB
  have BK227 := n0_
  have BK228 := n1_
  have HB := n2_
  clear n0_ n1_ n2_
  refine start_ (n := 6) (S := fun w' => w'.cell? ⟨gb227, 0, none⟩ = some (.int .i64 a0_0) ∧ w'.cell? ⟨gb227, 1, none⟩ = some (.int .i64 a0_1) ∧ w'.cell? ⟨gb227, 2, none⟩ = some (.int .i64 a0_2) ∧ w'.cell? ⟨gb227, 3, none⟩ = some (.int .i64 a0_3) ∧ w'.cell? ⟨gb227, 4, none⟩ = some (.int .i64 a0_4) ∧ w'.cell? ⟨gb227, 5, none⟩ = some (.int .i64 a0_5) ∧ w'.cell? ⟨gb227, 6, none⟩ = some (.bool a0_6)) (ds := []) #[false, false, false, false, false, false] (by kernel_rfl) rfl rfl ⟨bc BK227 0, bc BK227 1, bc BK227 2, bc BK227 3, bc BK227 4, bc BK227 5, bc BK227 6⟩ (fun hHeld => ?_)
  generalize w5.drew = w6 at BK227 BK228 HB hHeld ⊢
  refine take_ (i := 0) (N := some 3) (v := ?_) (a' := ?_) #[true, false, false, false, false, false] rfl rfl (by kernel_rfl) (fun _ _ _ h => h) (Or.inl ⟨by rfl, ?_⟩) hHeld ?_ ?_
  rotate_left
  · rintro w' ⟨s0, s1, s2, s3, s4, s5, s6⟩
    go_simp
    with_reducible rfl
  rotate_left
  · simp only [Act.put, List.setIfInBounds_toArray, List.set_cons_zero, List.set_cons_succ, i64_w, i32_w]
    rfl
  refine take_ (i := 1) (N := some 4) (v := ?_) (a' := ?_) #[true, true, false, false, false, false] rfl rfl (by kernel_rfl) (fun _ _ _ h => h) (Or.inl ⟨by rfl, ?_⟩) hHeld ?_ ?_
  rotate_left
  · rintro w' ⟨s0, s1, s2, s3, s4, s5, s6⟩
    go_simp
    with_reducible rfl
  rotate_left
  · simp only [Act.put, List.setIfInBounds_toArray, List.set_cons_zero, List.set_cons_succ, i64_w, i32_w]
    rfl
  refine one_ (i := 2) (N := some 5) #[true, true, true, false, false, false] rfl rfl (by kernel_rfl) (by decide) (fun K hK => ?_)
  refine goes_ Try.func27 (by kernel_rfl) rfl #[.agg #[.int .i64 a0_0, .int .i64 a0_1, .int .i64 a0_2, .int .i64 a0_3, .int .i64 a0_4, .int .i64 a0_5, .bool a0_6]] (by rfl) rfl rfl (by (try simp only [List.map_toArray, List.map_cons, List.map_nil]); first | done | rfl | (simp only [List.length_drop, List.length_take]; rfl)) ?_
  with_reducible refine (monitor_look.calls a0_0 a0_1 a0_2 a0_3 a0_4 a0_5 a0_6 t229 t230 t231 t232 t233 t234 t235 t236 t237 _ A2.out).mono ?_
  rintro e w7 ⟨rfl, hb⟩
  refine ⟨_, rfl, ?_⟩
  have n0_ := bxb BK227 hb
  have n1_ := bxb BK228 hb
  have n2_ := Aside0.mk (below_step (bwt HB) hb)
  clear BK227
  clear BK228
  clear HB
  have BK227 := n0_
  have BK228 := n1_
  have HB := n2_
  clear n0_ n1_ n2_
  (try clear hb)
  (try clear hb2)
  (try clear hk)
  (try clear hi)
  refine hK.out _ _ ⟨bc BK227 0, bc BK227 1, bc BK227 2, bc BK227 3, bc BK227 4, bc BK227 5, bc BK227 6⟩ (fun hHeld => ?_)
  clear hK K
  refine norm_ (a' := ?_) ?_ ?_
  rotate_left
  · show Act.put _ (some 5) _ = _
    simp only [Act.put, List.setIfInBounds_toArray, List.set_cons_zero, List.set_cons_succ, i64_w, i32_w]
    rfl
  refine pure_ (i := 3) (N := some 6) (v := ?_) (a' := ?_) #[true, true, true, true, false, false] rfl rfl (by kernel_rfl) (fun _ _ _ h => h) (Or.inl ⟨by rfl, ?_⟩) ?_ ?_
  rotate_left
  · intro w'
    go_simp
    with_reducible rfl
  rotate_left
  · simp only [Act.put, List.setIfInBounds_toArray, List.set_cons_zero, List.set_cons_succ, i64_w, i32_w]
    rfl
  refine one_ (i := 4) (N := some 7) #[true, true, true, true, true, false] rfl rfl (by kernel_rfl) (by decide) (fun K hK => ?_)
  refine goes_ Try.func34 (by kernel_rfl) rfl #[.agg #[.int .i64 a0_0, .int .i64 a0_1, .int .i64 a0_2, .int .i64 a0_3, .int .i64 a0_4, .int .i64 a0_5, .bool a0_6], .int .i64 0, .func (.func 35) #[.agg #[.int .i64 t229, .int .i64 t230, .int .i64 t231, .int .i64 t232, .int .i64 t233, .int .i64 t234, .bool t235, .int .i64 t236, .int .i64 t237]] #[]] (by rfl) rfl rfl (by (try simp only [List.map_toArray, List.map_cons, List.map_nil]); first | done | rfl | (simp only [List.length_drop, List.length_take]; rfl)) ?_
  with_reducible refine (monitor_update_monitor_view_all.calls a0_0 a0_1 a0_2 a0_3 a0_4 a0_5 a0_6 0 t229 t230 t231 t232 t233 t234 t235 t236 t237 t238 t239 t240 t241 t242 t243 t244 _ A3.out).mono ?_
  rintro e w8 ⟨rfl, hb⟩
  refine ⟨_, rfl, ?_⟩
  have n0_ := bxb BK227 hb
  have n1_ := bxb BK228 hb
  have n2_ := Aside0.mk (below_step (bwt HB) hb)
  clear BK227
  clear BK228
  clear HB
  have BK227 := n0_
  have BK228 := n1_
  have HB := n2_
  clear n0_ n1_ n2_
  (try clear hb)
  (try clear hb2)
  (try clear hk)
  (try clear hi)
  refine hK.out _ _ ⟨bc BK227 0, bc BK227 1, bc BK227 2, bc BK227 3, bc BK227 4, bc BK227 5, bc BK227 6⟩ (fun hHeld => ?_)
  clear hK K
  refine norm_ (a' := ?_) ?_ ?_
  rotate_left
  · show Act.put _ (some 7) _ = _
    simp only [Act.put, List.setIfInBounds_toArray, List.set_cons_zero, List.set_cons_succ, i64_w, i32_w]
    rfl
  refine one_ (i := 5) (N := none) #[true, true, true, true, true, true] rfl rfl (by kernel_rfl) (by decide) (fun K hK => ?_)
  have hs9 : w8.cell? ⟨gb228, 0, none⟩ = some (.int .i64 0) := bc BK228 0
  have hfs9 := blk_frozen BK228.out 0
  have hns9_0 := NB227_228.out
  have hms9_0 := NB228_227.out
  have hs10 : w8.cell? ⟨gb228, 1, none⟩ = some (.int .i64 0) := bc BK228 1
  have hfs10 := blk_frozen BK228.out 1
  have hns10_0 := NB227_228.out
  have hms10_0 := NB228_227.out
  have hs11 : w8.cell? ⟨gb228, 2, none⟩ = some (.int .i64 0) := bc BK228 2
  have hfs11 := blk_frozen BK228.out 2
  have hns11_0 := NB227_228.out
  have hms11_0 := NB228_227.out
  have hs12 : w8.cell? ⟨gb228, 3, none⟩ = some (.int .i64 0) := bc BK228 3
  have hfs12 := blk_frozen BK228.out 3
  have hns12_0 := NB227_228.out
  have hms12_0 := NB228_227.out
  have hs13 : w8.cell? ⟨gb228, 4, none⟩ = some (.int .i64 0) := bc BK228 4
  have hfs13 := blk_frozen BK228.out 4
  have hns13_0 := NB227_228.out
  have hms13_0 := NB228_227.out
  have hs14 : w8.cell? ⟨gb228, 5, none⟩ = some (.int .i64 0) := bc BK228 5
  have hfs14 := blk_frozen BK228.out 5
  have hns14_0 := NB227_228.out
  have hms14_0 := NB228_227.out
  have hs15 : w8.cell? ⟨gb228, 6, none⟩ = some (.bool false) := bc BK228 6
  have hfs15 := blk_frozen BK228.out 6
  have hns15_0 := NB227_228.out
  have hms15_0 := NB228_227.out
  with_reducible refine skip_ (w1 := ?_) ?_ ?_ ?_ ?_
  rotate_left
  · rfl
  · rfl
  · first | (apply store_box BK228; (case hop => rfl); (case hp => rfl); (case hv => rfl); (case hg => with_reducible (repeat (refine blk_far ?_ (by assumption) _); exact bx0 BK228)); (case hi => kernel_rfl); (case ho => rfl); (case h1 => rfl); (case hw => simp only [setCells, Nat.zero_add, Nat.reduceAdd]; rfl)) | (go_simp; rfl)
  refine hK.out _ _ ⟨(by with_reducible (repeat (refine (cell_far (p := ⟨gb228, _, none⟩) NB227_228.out _).trans ?_)); exact hHeld.1), (by with_reducible (repeat (refine (cell_far (p := ⟨gb228, _, none⟩) NB227_228.out _).trans ?_)); exact hHeld.2.1), (by with_reducible (repeat (refine (cell_far (p := ⟨gb228, _, none⟩) NB227_228.out _).trans ?_)); exact hHeld.2.2.1), (by with_reducible (repeat (refine (cell_far (p := ⟨gb228, _, none⟩) NB227_228.out _).trans ?_)); exact hHeld.2.2.2.1), (by with_reducible (repeat (refine (cell_far (p := ⟨gb228, _, none⟩) NB227_228.out _).trans ?_)); exact hHeld.2.2.2.2.1), (by with_reducible (repeat (refine (cell_far (p := ⟨gb228, _, none⟩) NB227_228.out _).trans ?_)); exact hHeld.2.2.2.2.2.1), (by with_reducible (repeat (refine (cell_far (p := ⟨gb228, _, none⟩) NB227_228.out _).trans ?_)); exact hHeld.2.2.2.2.2.2)⟩ (fun hHeld => ?_)
  clear hK K
  refine done_ (by kernel_rfl) ?_
  try go_wp2
  refine bodyPost_ret (results_cell_row rfl _ _ gb228 28 #[.int .i64 t238, .int .i64 t239, .int .i64 t240, .int .i64 t241, .int .i64 t242, .int .i64 t243, .bool t244] (0, 0) _ rfl (by (with_reducible repeat refine bp_ ?_); refine blk_put (cs := #[.int .i64 t238, .int .i64 t239, .int .i64 t240, .int .i64 t241, .int .i64 t242, .int .i64 t243, .bool false]) ?_ 6 _ rfl; (with_reducible repeat refine bp_ ?_); refine blk_put (cs := #[.int .i64 t238, .int .i64 t239, .int .i64 t240, .int .i64 t241, .int .i64 t242, .int .i64 0, .bool false]) ?_ 5 _ rfl; (with_reducible repeat refine bp_ ?_); refine blk_put (cs := #[.int .i64 t238, .int .i64 t239, .int .i64 t240, .int .i64 t241, .int .i64 0, .int .i64 0, .bool false]) ?_ 4 _ rfl; (with_reducible repeat refine bp_ ?_); refine blk_put (cs := #[.int .i64 t238, .int .i64 t239, .int .i64 t240, .int .i64 0, .int .i64 0, .int .i64 0, .bool false]) ?_ 3 _ rfl; (with_reducible repeat refine bp_ ?_); refine blk_put (cs := #[.int .i64 t238, .int .i64 t239, .int .i64 0, .int .i64 0, .int .i64 0, .int .i64 0, .bool false]) ?_ 2 _ rfl; (with_reducible repeat refine bp_ ?_); refine blk_put (cs := #[.int .i64 t238, .int .i64 0, .int .i64 0, .int .i64 0, .int .i64 0, .int .i64 0, .bool false]) ?_ 1 _ rfl; (with_reducible repeat refine bp_ ?_); refine blk_put (cs := #[.int .i64 0, .int .i64 0, .int .i64 0, .int .i64 0, .int .i64 0, .int .i64 0, .bool false]) ?_ 0 _ rfl; (with_reducible repeat refine bp_ ?_); exact BK228.out) Try.underlying28 rfl (by kernel_rfl)) rfl ?_
  exact ⟨by first | rfl | (simp [errW_none, errW_some] <;> rfl) | (simp [*, errW_none, errW_some] <;> rfl), by repeat (first | (with_reducible first | exact HB.out | apply below_alloc | apply pw_below_drewN | apply below_drew1 | refine below_set ?_ GE227.out | refine below_set ?_ GE228.out) | exact HB.out)⟩

end Go.Proofs.Ytlofmgdjnaajjaa.Q

namespace Go.Proofs.Ytlofmgdjnaajjaa.Q
open Go.RowKit Go.Proofs.YtlofmgdjnaajjaaW.PrintWords Go.Proofs.YtlofmgdjnaajjaaW.PrintLast Go.Proofs.YtlofmgdjnaajjaaW.PrintMore
attribute [local go_sem] run_makeFunc_own max2_int min2_int max_two min_two max_three min_three max_four min_four   -- for this text's walks alone
set_option linter.unusedVariables false
set_option linter.unusedSimpArgs false

/-! ### monitor_update_monitor_view_explained: function 34 -/
def monitor_update_monitor_view_explained.f (a0_0 : Int) (a0_1 : Int) (a0_2 : Int) (a0_3 : Int) (a0_4 : Int) (a0_5 : Int) (a0_6 : Bool) (a1 : Int) (a2_0 : Int) (a2_1 : Int) (a2_2 : Int) (a2_3 : Int) (a2_4 : Int) (a2_5 : Int) (a2_6 : Bool) (a2_7 : Int) (a2_8 : Int) : Option (Int × Int × Int × Int × Int × Int × Bool) := if a0_6 = true then (some (a0_0, a0_1, a0_2, a0_3, a0_4, a0_5, a0_6)) else ((monitor_view_explained.f a2_0 a2_1 a2_2 a2_3 a2_4 a2_5 a2_6 a2_7 a2_8 a1).bind fun bt179 => (if bt179.1 > bt179.2 then (some (a0_0, a0_1, a0_2, a0_3, a0_4, a0_5, true)) else ((monitor_look.f bt179.1 bt179.2 a0_2 a0_3 a0_4 a0_5 a0_6).bind fun bt182 => ((monitor_view_inRange.f bt182.1 bt182.2.1 bt182.2.2.1 bt182.2.2.2.1 bt182.2.2.2.2.1 bt182.2.2.2.2.2.1 bt182.2.2.2.2.2.2.1 bt182.2.2.2.2.2.2.2.1 bt182.2.2.2.2.2.2.2.2).bind fun t191 => (some (bt179.1, bt179.2, a0_2, a0_3, a0_4, a0_5, !t191))))))
def monitor_update_monitor_view_explained.T7 : Bool × List (List Nat × List Nat) := (true, [([], []), ([0], [0]), ([], []), ([2], [2]), ([0, 1], []), ([4, 1, 0, 1], [1, 4]), ([0, 1, 2, 3, 4, 5], []), ([6, 3, 5, 0, 1, 2, 3, 4, 5], [3, 6])])
def monitor_update_monitor_view_explained.B7 : List Nat := [0, 1, 0, 4, 3, 19, 63, 127]
theorem monitor_update_monitor_view_explained.tab7 : rtab .any (opsOf Try.f34 7) = monitor_update_monitor_view_explained.T7 := by kernel_rfl
theorem monitor_update_monitor_view_explained.bits7 : waitsOk monitor_update_monitor_view_explained.T7.2 monitor_update_monitor_view_explained.B7 = true := by kernel_rfl
set_option maxHeartbeats 8000000 in
set_option maxRecDepth 100000 in
theorem monitor_update_monitor_view_explained.calls (a0_0 : Int) (a0_1 : Int) (a0_2 : Int) (a0_3 : Int) (a0_4 : Int) (a0_5 : Int) (a0_6 : Bool) (a1 : Int) (a2_0 : Int) (a2_1 : Int) (a2_2 : Int) (a2_3 : Int) (a2_4 : Int) (a2_5 : Int) (a2_6 : Bool) (a2_7 : Int) (a2_8 : Int) (r1 : Int) (r2 : Int) (r3 : Int) (r4 : Int) (r5 : Int) (r6 : Int) (r7 : Bool) (w : World) (h : monitor_update_monitor_view_explained.f a0_0 a0_1 a0_2 a0_3 a0_4 a0_5 a0_6 a1 a2_0 a2_1 a2_2 a2_3 a2_4 a2_5 a2_6 a2_7 a2_8 = some (r1, r2, r3, r4, r5, r6, r7)) :
    Calls Try.prog 34 #[.agg #[.int .i64 a0_0, .int .i64 a0_1, .int .i64 a0_2, .int .i64 a0_3, .int .i64 a0_4, .int .i64 a0_5, .bool a0_6], .int .i64 a1, .func (.func 33) #[.agg #[.int .i64 a2_0, .int .i64 a2_1, .int .i64 a2_2, .int .i64 a2_3, .int .i64 a2_4, .int .i64 a2_5, .bool a2_6, .int .i64 a2_7, .int .i64 a2_8]] #[]] w fun e w' => e = .returned (.agg #[.int .i64 r1, .int .i64 r2, .int .i64 r3, .int .i64 r4, .int .i64 r5, .int .i64 r6, .bool r7]) ∧ Below w.heap.size w w' := by
  have hu28 := Try.underlying28
  have hu64 := Try.underlying64
  have HB := Aside0.mk (Below.refl w.heap.size w)
  have H : (if a0_6 = true then (some (a0_0, a0_1, a0_2, a0_3, a0_4, a0_5, a0_6)) else ((monitor_view_explained.f a2_0 a2_1 a2_2 a2_3 a2_4 a2_5 a2_6 a2_7 a2_8 a1).bind fun bt179 => (if bt179.1 > bt179.2 then (some (a0_0, a0_1, a0_2, a0_3, a0_4, a0_5, true)) else ((monitor_look.f bt179.1 bt179.2 a0_2 a0_3 a0_4 a0_5 a0_6).bind fun bt182 => ((monitor_view_inRange.f bt182.1 bt182.2.1 bt182.2.2.1 bt182.2.2.2.1 bt182.2.2.2.2.1 bt182.2.2.2.2.2.1 bt182.2.2.2.2.2.2.1 bt182.2.2.2.2.2.2.2.1 bt182.2.2.2.2.2.2.2.2).bind fun t191 => (some (bt179.1, bt179.2, a0_2, a0_3, a0_4, a0_5, !t191))))))) = some (r1, r2, r3, r4, r5, r6, r7) := h
  clear h
  by_cases c4 : a0_6 = true
  · subst c4
    have H1 : (some (a0_0, a0_1, a0_2, a0_3, a0_4, a0_5, true)) = some (r1, r2, r3, r4, r5, r6, r7) := by rw [if_pos rfl] at H; exact H
    clear H
    have H := H1
    clear H1
    simp only [Option.some.injEq, Prod.mk.injEq] at H
    obtain ⟨rfl, rfl, rfl, rfl, rfl, rfl, rfl⟩ := H
    go_enter Try.func34, Try.ntmps34
    go_wp2_with (first | ((with_reducible refine gate_dst (N := 3) rfl ?_); refine box_event ?hg (N := 3) ?hd (cs := #[.int .i64 a0_0, .int .i64 a0_1, .int .i64 a0_2, .int .i64 a0_3, .int .i64 a0_4, .int .i64 a0_5, .bool true]) (t := 28) ?hr ?_; (case hd => rfl); (case hg => rfl); (case hr => first | (go_simp; done) | (go_simp; rfl)); intro gb177 hg w5 hbox hb; have n0_ := Aside0.mk (below_step (by repeat (first | (with_reducible first | exact HB.out | apply below_alloc | apply pw_below_drewN | apply below_drew1) | exact HB.out)) hb); have n1_ := Aside0.mk (hbox); have n2_ := Aside0.mk ((by rw [hg]; exact (below_size (by repeat (first | (with_reducible first | exact HB.out | apply below_alloc | apply pw_below_drewN | apply below_drew1) | exact HB.out))) : w.heap.size ≤ gb177)); have n3_ := Aside0.mk ((by rw [hg]; exact (below_size (by repeat (first | (with_reducible first | exact HB.out | apply below_alloc | apply pw_below_drewN | apply below_drew1) | exact HB.out))) : w.heap.size ≤ gb177)); clear HB; have HB := n0_; have BK177 := n1_; have GW177 := n2_; have GE177 := n3_; clear n0_ n1_ n2_ n3_; clear hb hbox hg) | ((with_reducible refine gate_dst (N := 6) rfl ?_); refine box_event ?hg (N := 6) ?hd (cs := #[.int .i64 0, .int .i64 0, .int .i64 0, .int .i64 0, .int .i64 0, .int .i64 0, .bool false]) (t := 28) ?hr ?_; (case hd => rfl); (case hg => rfl); (case hr => first | (go_simp; done) | (go_simp; rfl)); intro gb178 hg w6 hbox hb; have n0_ := bxb BK177 hb; have n1_ := Aside0.mk (below_step (bwt HB) hb); have n2_ := Aside0.mk (hbox); have n3_ := Aside0.mk ((by rw [hg]; exact (below_size (bwt HB)) : w.heap.size ≤ gb178)); have n4_ := Aside0.mk ((by rw [hg]; exact (below_size (bwt HB)) : w.heap.size ≤ gb178)); have n5_ := nlt_ BK177 hg; have n6_ := ngt_ BK177 hg; clear BK177; clear HB; have BK177 := n0_; have HB := n1_; have BK178 := n2_; have GW178 := n3_; have GE178 := n4_; have NB177_178 := n5_; have NB178_177 := n6_; clear n0_ n1_ n2_ n3_ n4_ n5_ n6_; clear hb hbox hg; have hnb7 := NB177_178.out; have hnc7 := NB178_177.out; have hcz8_0 : w6.cell? ⟨gb177, 0, none⟩ = some (.int .i64 a0_0) := bc BK177 0; have hcz8_1 : w6.cell? ⟨gb177, 1, none⟩ = some (.int .i64 a0_1) := bc BK177 1; have hcz8_2 : w6.cell? ⟨gb177, 2, none⟩ = some (.int .i64 a0_2) := bc BK177 2; have hcz8_3 : w6.cell? ⟨gb177, 3, none⟩ = some (.int .i64 a0_3) := bc BK177 3; have hcz8_4 : w6.cell? ⟨gb177, 4, none⟩ = some (.int .i64 a0_4) := bc BK177 4; have hcz8_5 : w6.cell? ⟨gb177, 5, none⟩ = some (.int .i64 a0_5) := bc BK177 5; have hcz8_6 : w6.cell? ⟨gb177, 6, none⟩ = some (.bool true) := bc BK177 6; have hfz8_0 := blk_frozen BK177.out 0; have hfz8_1 := blk_frozen BK177.out 1; have hfz8_2 := blk_frozen BK177.out 2; have hfz8_3 := blk_frozen BK177.out 3; have hfz8_4 := blk_frozen BK177.out 4; have hfz8_5 := blk_frozen BK177.out 5; have hfz8_6 := blk_frozen BK177.out 6; have hcz9_0 : w6.cell? ⟨gb178, 0, none⟩ = some (.int .i64 0) := bc BK178 0; have hcz9_1 : w6.cell? ⟨gb178, 1, none⟩ = some (.int .i64 0) := bc BK178 1; have hcz9_2 : w6.cell? ⟨gb178, 2, none⟩ = some (.int .i64 0) := bc BK178 2; have hcz9_3 : w6.cell? ⟨gb178, 3, none⟩ = some (.int .i64 0) := bc BK178 3; have hcz9_4 : w6.cell? ⟨gb178, 4, none⟩ = some (.int .i64 0) := bc BK178 4; have hcz9_5 : w6.cell? ⟨gb178, 5, none⟩ = some (.int .i64 0) := bc BK178 5; have hcz9_6 : w6.cell? ⟨gb178, 6, none⟩ = some (.bool false) := bc BK178 6; have hfz9_0 := blk_frozen BK178.out 0; have hfz9_1 := blk_frozen BK178.out 1; have hfz9_2 := blk_frozen BK178.out 2; have hfz9_3 := blk_frozen BK178.out 3; have hfz9_4 := blk_frozen BK178.out 4; have hfz9_5 := blk_frozen BK178.out 5; have hfz9_6 := blk_frozen BK178.out 6))
    refine bodyPost_ret (results_cell_row rfl _ _ gb178 28 #[.int .i64 a0_0, .int .i64 a0_1, .int .i64 a0_2, .int .i64 a0_3, .int .i64 a0_4, .int .i64 a0_5, .bool true] (0, 0) _ rfl (by (with_reducible repeat refine bp_ ?_); refine blk_put (cs := #[.int .i64 a0_0, .int .i64 a0_1, .int .i64 a0_2, .int .i64 a0_3, .int .i64 a0_4, .int .i64 a0_5, .bool false]) ?_ 6 _ rfl; (with_reducible repeat refine bp_ ?_); refine blk_put (cs := #[.int .i64 a0_0, .int .i64 a0_1, .int .i64 a0_2, .int .i64 a0_3, .int .i64 a0_4, .int .i64 0, .bool false]) ?_ 5 _ rfl; (with_reducible repeat refine bp_ ?_); refine blk_put (cs := #[.int .i64 a0_0, .int .i64 a0_1, .int .i64 a0_2, .int .i64 a0_3, .int .i64 0, .int .i64 0, .bool false]) ?_ 4 _ rfl; (with_reducible repeat refine bp_ ?_); refine blk_put (cs := #[.int .i64 a0_0, .int .i64 a0_1, .int .i64 a0_2, .int .i64 0, .int .i64 0, .int .i64 0, .bool false]) ?_ 3 _ rfl; (with_reducible repeat refine bp_ ?_); refine blk_put (cs := #[.int .i64 a0_0, .int .i64 a0_1, .int .i64 0, .int .i64 0, .int .i64 0, .int .i64 0, .bool false]) ?_ 2 _ rfl; (with_reducible repeat refine bp_ ?_); refine blk_put (cs := #[.int .i64 a0_0, .int .i64 0, .int .i64 0, .int .i64 0, .int .i64 0, .int .i64 0, .bool false]) ?_ 1 _ rfl; (with_reducible repeat refine bp_ ?_); refine blk_put (cs := #[.int .i64 0, .int .i64 0, .int .i64 0, .int .i64 0, .int .i64 0, .int .i64 0, .bool false]) ?_ 0 _ rfl; (with_reducible repeat refine bp_ ?_); exact BK178.out) Try.underlying28 rfl (by kernel_rfl)) rfl ?_
    exact ⟨by first | rfl | (simp [errW_none, errW_some] <;> rfl) | (simp [*, errW_none, errW_some] <;> rfl), by repeat (first | (with_reducible first | exact HB.out | apply below_alloc | apply pw_below_drewN | apply below_drew1 | refine below_set ?_ GE177.out | refine below_set ?_ GE178.out) | exact HB.out)⟩
  · replace c4 := Bool.eq_false_iff.mpr c4
    subst c4
    have H1 : ((monitor_view_explained.f a2_0 a2_1 a2_2 a2_3 a2_4 a2_5 a2_6 a2_7 a2_8 a1).bind fun bt179 => (if bt179.1 > bt179.2 then (some (a0_0, a0_1, a0_2, a0_3, a0_4, a0_5, true)) else ((monitor_look.f bt179.1 bt179.2 a0_2 a0_3 a0_4 a0_5 false).bind fun bt182 => ((monitor_view_inRange.f bt182.1 bt182.2.1 bt182.2.2.1 bt182.2.2.2.1 bt182.2.2.2.2.1 bt182.2.2.2.2.2.1 bt182.2.2.2.2.2.2.1 bt182.2.2.2.2.2.2.2.1 bt182.2.2.2.2.2.2.2.2).bind fun t191 => (some (bt179.1, bt179.2, a0_2, a0_3, a0_4, a0_5, !t191)))))) = some (r1, r2, r3, r4, r5, r6, r7) := by rw [if_neg (show ¬ (false = true) by decide)] at H; exact H
    clear H
    have H := H1
    clear H1
    replace H := Option.bind_eq_some_iff.mp H
    obtain ⟨⟨t179, t180⟩, A100, H⟩ := H
    replace H : (if t179 > t180 then (some (a0_0, a0_1, a0_2, a0_3, a0_4, a0_5, true)) else ((monitor_look.f t179 t180 a0_2 a0_3 a0_4 a0_5 false).bind fun bt182 => ((monitor_view_inRange.f bt182.1 bt182.2.1 bt182.2.2.1 bt182.2.2.2.1 bt182.2.2.2.2.1 bt182.2.2.2.2.2.1 bt182.2.2.2.2.2.2.1 bt182.2.2.2.2.2.2.2.1 bt182.2.2.2.2.2.2.2.2).bind fun t191 => (some (t179, t180, a0_2, a0_3, a0_4, a0_5, !t191))))) = some (r1, r2, r3, r4, r5, r6, r7) := H
    have A10 := Aside0.mk A100
    clear A100
    by_cases c11 : t179 > t180
    · rw [if_pos c11] at H
      have c11b0 : decide (t180 < t179) = true := decide_eq_true c11
      clear c11
      simp only [Option.some.injEq, Prod.mk.injEq] at H
      obtain ⟨rfl, rfl, rfl, rfl, rfl, rfl, rfl⟩ := H
      go_enter Try.func34, Try.ntmps34
      go_wp2_with (first | ((with_reducible refine gate_dst (N := 3) rfl ?_); refine box_event ?hg (N := 3) ?hd (cs := #[.int .i64 a0_0, .int .i64 a0_1, .int .i64 a0_2, .int .i64 a0_3, .int .i64 a0_4, .int .i64 a0_5, .bool false]) (t := 28) ?hr ?_; (case hd => rfl); (case hg => rfl); (case hr => first | (go_simp; done) | (go_simp; rfl)); intro gb177 hg w12 hbox hb; have n0_ := Aside0.mk (below_step (by repeat (first | (with_reducible first | exact HB.out | apply below_alloc | apply pw_below_drewN | apply below_drew1) | exact HB.out)) hb); have n1_ := Aside0.mk (hbox); have n2_ := Aside0.mk ((by rw [hg]; exact (below_size (by repeat (first | (with_reducible first | exact HB.out | apply below_alloc | apply pw_below_drewN | apply below_drew1) | exact HB.out))) : w.heap.size ≤ gb177)); have n3_ := Aside0.mk ((by rw [hg]; exact (below_size (by repeat (first | (with_reducible first | exact HB.out | apply below_alloc | apply pw_below_drewN | apply below_drew1) | exact HB.out))) : w.heap.size ≤ gb177)); clear HB; have HB := n0_; have BK177 := n1_; have GW177 := n2_; have GE177 := n3_; clear n0_ n1_ n2_ n3_; clear hb hbox hg) | ((with_reducible refine gate_dst (N := 6) rfl ?_); refine box_event ?hg (N := 6) ?hd (cs := #[.int .i64 0, .int .i64 0, .int .i64 0, .int .i64 0, .int .i64 0, .int .i64 0, .bool false]) (t := 28) ?hr ?_; (case hd => rfl); (case hg => rfl); (case hr => first | (go_simp; done) | (go_simp; rfl)); intro gb178 hg w13 hbox hb; have n0_ := bxb BK177 hb; have n1_ := Aside0.mk (below_step (bwt HB) hb); have n2_ := Aside0.mk (hbox); have n3_ := Aside0.mk ((by rw [hg]; exact (below_size (bwt HB)) : w.heap.size ≤ gb178)); have n4_ := Aside0.mk ((by rw [hg]; exact (below_size (bwt HB)) : w.heap.size ≤ gb178)); have n5_ := nlt_ BK177 hg; have n6_ := ngt_ BK177 hg; clear BK177; clear HB; have BK177 := n0_; have HB := n1_; have BK178 := n2_; have GW178 := n3_; have GE178 := n4_; have NB177_178 := n5_; have NB178_177 := n6_; clear n0_ n1_ n2_ n3_ n4_ n5_ n6_; clear hb hbox hg; have hnb14 := NB177_178.out; have hnc14 := NB178_177.out; have hcz15_0 : w13.cell? ⟨gb177, 0, none⟩ = some (.int .i64 a0_0) := bc BK177 0; have hcz15_1 : w13.cell? ⟨gb177, 1, none⟩ = some (.int .i64 a0_1) := bc BK177 1; have hcz15_2 : w13.cell? ⟨gb177, 2, none⟩ = some (.int .i64 a0_2) := bc BK177 2; have hcz15_3 : w13.cell? ⟨gb177, 3, none⟩ = some (.int .i64 a0_3) := bc BK177 3; have hcz15_4 : w13.cell? ⟨gb177, 4, none⟩ = some (.int .i64 a0_4) := bc BK177 4; have hcz15_5 : w13.cell? ⟨gb177, 5, none⟩ = some (.int .i64 a0_5) := bc BK177 5; have hcz15_6 : w13.cell? ⟨gb177, 6, none⟩ = some (.bool false) := bc BK177 6; have hfz15_0 := blk_frozen BK177.out 0; have hfz15_1 := blk_frozen BK177.out 1; have hfz15_2 := blk_frozen BK177.out 2; have hfz15_3 := blk_frozen BK177.out 3; have hfz15_4 := blk_frozen BK177.out 4; have hfz15_5 := blk_frozen BK177.out 5; have hfz15_6 := blk_frozen BK177.out 6) | ((with_reducible refine gate_value (t := 11) rfl ?_); refine goesVL_ (some 13) rfl rfl Try.func33 (by kernel_rfl) rfl #[.agg #[.int .i64 a2_0, .int .i64 a2_1, .int .i64 a2_2, .int .i64 a2_3, .int .i64 a2_4, .int .i64 a2_5, .bool a2_6, .int .i64 a2_7, .int .i64 a2_8], .int .i64 a1] rfl ⟨_, by rfl, by first | rfl | (simp only [List.map_toArray, List.map_cons, List.map_nil]; rfl)⟩ ?_; (with_reducible refine (monitor_view_explained.calls a2_0 a2_1 a2_2 a2_3 a2_4 a2_5 a2_6 a2_7 a2_8 a1 t179 t180 _ A10.out).mono ?_); rintro e w16 ⟨rfl, hb⟩; refine ⟨_, rfl, ?_⟩; have n0_ := bxb BK177 hb; have n1_ := bxb BK178 hb; have n2_ := Aside0.mk (below_step (bwt HB) hb); clear BK177; clear BK178; clear HB; have BK177 := n0_; have BK178 := n1_; have HB := n2_; clear n0_ n1_ n2_; (try clear hb); (try clear hb2); (try clear hk); (try clear hi)) | ((with_reducible refine gate_dst (N := 7) rfl ?_); refine box_event ?hg (N := 7) ?hd (cs := #[.int .i64 0, .int .i64 0]) (t := 64) ?hr ?_; (case hd => rfl); (case hg => rfl); (case hr => first | (go_simp; done) | (go_simp; rfl)); intro gb181 hg w17 hbox hb; have n0_ := bxb BK177 hb; have n1_ := bxb BK178 hb; have n2_ := Aside0.mk (below_step (bwt HB) hb); have n3_ := Aside0.mk (hbox); have n4_ := Aside0.mk ((by rw [hg]; exact (below_size (bwt HB)) : w.heap.size ≤ gb181)); have n5_ := Aside0.mk ((by rw [hg]; exact (below_size (bwt HB)) : w.heap.size ≤ gb181)); have n6_ := nlt_ BK177 hg; have n7_ := ngt_ BK177 hg; have n8_ := nlt_ BK178 hg; have n9_ := ngt_ BK178 hg; clear BK177; clear BK178; clear HB; have BK177 := n0_; have BK178 := n1_; have HB := n2_; have BK181 := n3_; have GW181 := n4_; have GE181 := n5_; have NB177_181 := n6_; have NB181_177 := n7_; have NB178_181 := n8_; have NB181_178 := n9_; clear n0_ n1_ n2_ n3_ n4_ n5_ n6_ n7_ n8_ n9_; clear hb hbox hg; have hnb18 := NB181_177.out; have hnc18 := NB177_181.out; have hnb19 := NB181_178.out; have hnc19 := NB178_181.out; have hcz20_0 : w17.cell? ⟨gb181, 0, none⟩ = some (.int .i64 0) := bc BK181 0; have hcz20_1 : w17.cell? ⟨gb181, 1, none⟩ = some (.int .i64 0) := bc BK181 1; have hfz20_0 := blk_frozen BK181.out 0; have hfz20_1 := blk_frozen BK181.out 1; have hcz21_0 : w17.cell? ⟨gb177, 0, none⟩ = some (.int .i64 a0_0) := bc BK177 0; have hcz21_1 : w17.cell? ⟨gb177, 1, none⟩ = some (.int .i64 a0_1) := bc BK177 1; have hcz21_2 : w17.cell? ⟨gb177, 2, none⟩ = some (.int .i64 a0_2) := bc BK177 2; have hcz21_3 : w17.cell? ⟨gb177, 3, none⟩ = some (.int .i64 a0_3) := bc BK177 3; have hcz21_4 : w17.cell? ⟨gb177, 4, none⟩ = some (.int .i64 a0_4) := bc BK177 4; have hcz21_5 : w17.cell? ⟨gb177, 5, none⟩ = some (.int .i64 a0_5) := bc BK177 5; have hcz21_6 : w17.cell? ⟨gb177, 6, none⟩ = some (.bool false) := bc BK177 6; have hfz21_0 := blk_frozen BK177.out 0; have hfz21_1 := blk_frozen BK177.out 1; have hfz21_2 := blk_frozen BK177.out 2; have hfz21_3 := blk_frozen BK177.out 3; have hfz21_4 := blk_frozen BK177.out 4; have hfz21_5 := blk_frozen BK177.out 5; have hfz21_6 := blk_frozen BK177.out 6; have hcz22_0 : w17.cell? ⟨gb178, 0, none⟩ = some (.int .i64 0) := bc BK178 0; have hcz22_1 : w17.cell? ⟨gb178, 1, none⟩ = some (.int .i64 0) := bc BK178 1; have hcz22_2 : w17.cell? ⟨gb178, 2, none⟩ = some (.int .i64 0) := bc BK178 2; have hcz22_3 : w17.cell? ⟨gb178, 3, none⟩ = some (.int .i64 0) := bc BK178 3; have hcz22_4 : w17.cell? ⟨gb178, 4, none⟩ = some (.int .i64 0) := bc BK178 4; have hcz22_5 : w17.cell? ⟨gb178, 5, none⟩ = some (.int .i64 0) := bc BK178 5; have hcz22_6 : w17.cell? ⟨gb178, 6, none⟩ = some (.bool false) := bc BK178 6; have hfz22_0 := blk_frozen BK178.out 0; have hfz22_1 := blk_frozen BK178.out 1; have hfz22_2 := blk_frozen BK178.out 2; have hfz22_3 := blk_frozen BK178.out 3; have hfz22_4 := blk_frozen BK178.out 4; have hfz22_5 := blk_frozen BK178.out 5; have hfz22_6 := blk_frozen BK178.out 6))
      refine bodyPost_ret (results_cell_row rfl _ _ gb178 28 #[.int .i64 a0_0, .int .i64 a0_1, .int .i64 a0_2, .int .i64 a0_3, .int .i64 a0_4, .int .i64 a0_5, .bool true] (0, 0) _ rfl (by (with_reducible repeat refine bp_ ?_); refine blk_put (cs := #[.int .i64 a0_0, .int .i64 a0_1, .int .i64 a0_2, .int .i64 a0_3, .int .i64 a0_4, .int .i64 a0_5, .bool false]) ?_ 6 _ rfl; (with_reducible repeat refine bp_ ?_); refine blk_put (cs := #[.int .i64 a0_0, .int .i64 a0_1, .int .i64 a0_2, .int .i64 a0_3, .int .i64 a0_4, .int .i64 0, .bool false]) ?_ 5 _ rfl; (with_reducible repeat refine bp_ ?_); refine blk_put (cs := #[.int .i64 a0_0, .int .i64 a0_1, .int .i64 a0_2, .int .i64 a0_3, .int .i64 0, .int .i64 0, .bool false]) ?_ 4 _ rfl; (with_reducible repeat refine bp_ ?_); refine blk_put (cs := #[.int .i64 a0_0, .int .i64 a0_1, .int .i64 a0_2, .int .i64 0, .int .i64 0, .int .i64 0, .bool false]) ?_ 3 _ rfl; (with_reducible repeat refine bp_ ?_); refine blk_put (cs := #[.int .i64 a0_0, .int .i64 a0_1, .int .i64 0, .int .i64 0, .int .i64 0, .int .i64 0, .bool false]) ?_ 2 _ rfl; (with_reducible repeat refine bp_ ?_); refine blk_put (cs := #[.int .i64 a0_0, .int .i64 0, .int .i64 0, .int .i64 0, .int .i64 0, .int .i64 0, .bool false]) ?_ 1 _ rfl; (with_reducible repeat refine bp_ ?_); refine blk_put (cs := #[.int .i64 0, .int .i64 0, .int .i64 0, .int .i64 0, .int .i64 0, .int .i64 0, .bool false]) ?_ 0 _ rfl; (with_reducible repeat refine bp_ ?_); refine blk_far ?_ NB178_177.out _; (with_reducible repeat refine bp_ ?_); refine blk_far ?_ NB178_181.out _; (with_reducible repeat refine bp_ ?_); refine blk_far ?_ NB178_181.out _; (with_reducible repeat refine bp_ ?_); exact BK178.out) Try.underlying28 rfl (by kernel_rfl)) rfl ?_
      exact ⟨by first | rfl | (simp [errW_none, errW_some] <;> rfl) | (simp [*, errW_none, errW_some] <;> rfl), by repeat (first | (with_reducible first | exact HB.out | apply below_alloc | apply pw_below_drewN | apply below_drew1 | refine below_set ?_ GE177.out | refine below_set ?_ GE178.out | refine below_set ?_ GE181.out) | exact HB.out)⟩
    · rw [if_neg c11] at H
      have c11b0 : decide (t180 < t179) = false := decide_eq_false c11
      clear c11
      replace H := Option.bind_eq_some_iff.mp H
      obtain ⟨⟨t182, t183, t184, t185, t186, t187, t188, t189, t190⟩, A230, H⟩ := H
      replace H : ((monitor_view_inRange.f t182 t183 t184 t185 t186 t187 t188 t189 t190).bind fun t191 => (some (t179, t180, a0_2, a0_3, a0_4, a0_5, !t191))) = some (r1, r2, r3, r4, r5, r6, r7) := H
      have A23 := Aside0.mk A230
      clear A230
      replace H := Option.bind_eq_some_iff.mp H
      obtain ⟨t191, A240, H⟩ := H
      replace H : (some (t179, t180, a0_2, a0_3, a0_4, a0_5, !t191)) = some (r1, r2, r3, r4, r5, r6, r7) := H
      have A24 := Aside0.mk A240
      clear A240
      simp only [Option.some.injEq, Prod.mk.injEq] at H
      obtain ⟨rfl, rfl, rfl, rfl, rfl, rfl, rfl⟩ := H
      go_enter Try.func34, Try.ntmps34
      try go_wp2_with (first | ((with_reducible refine gate_dst (N := 3) rfl ?_); refine box_event ?hg (N := 3) ?hd (cs := #[.int .i64 a0_0, .int .i64 a0_1, .int .i64 a0_2, .int .i64 a0_3, .int .i64 a0_4, .int .i64 a0_5, .bool false]) (t := 28) ?hr ?_; (case hd => rfl); (case hg => rfl); (case hr => first | (go_simp; done) | (go_simp; rfl)); intro gb177 hg w25 hbox hb; have n0_ := Aside0.mk (below_step (by repeat (first | (with_reducible first | exact HB.out | apply below_alloc | apply pw_below_drewN | apply below_drew1) | exact HB.out)) hb); have n1_ := Aside0.mk (hbox); have n2_ := Aside0.mk ((by rw [hg]; exact (below_size (by repeat (first | (with_reducible first | exact HB.out | apply below_alloc | apply pw_below_drewN | apply below_drew1) | exact HB.out))) : w.heap.size ≤ gb177)); have n3_ := Aside0.mk ((by rw [hg]; exact (below_size (by repeat (first | (with_reducible first | exact HB.out | apply below_alloc | apply pw_below_drewN | apply below_drew1) | exact HB.out))) : w.heap.size ≤ gb177)); clear HB; have HB := n0_; have BK177 := n1_; have GW177 := n2_; have GE177 := n3_; clear n0_ n1_ n2_ n3_; clear hb hbox hg) | ((with_reducible refine gate_dst (N := 6) rfl ?_); refine box_event ?hg (N := 6) ?hd (cs := #[.int .i64 0, .int .i64 0, .int .i64 0, .int .i64 0, .int .i64 0, .int .i64 0, .bool false]) (t := 28) ?hr ?_; (case hd => rfl); (case hg => rfl); (case hr => first | (go_simp; done) | (go_simp; rfl)); intro gb178 hg w26 hbox hb; have n0_ := bxb BK177 hb; have n1_ := Aside0.mk (below_step (bwt HB) hb); have n2_ := Aside0.mk (hbox); have n3_ := Aside0.mk ((by rw [hg]; exact (below_size (bwt HB)) : w.heap.size ≤ gb178)); have n4_ := Aside0.mk ((by rw [hg]; exact (below_size (bwt HB)) : w.heap.size ≤ gb178)); have n5_ := nlt_ BK177 hg; have n6_ := ngt_ BK177 hg; clear BK177; clear HB; have BK177 := n0_; have HB := n1_; have BK178 := n2_; have GW178 := n3_; have GE178 := n4_; have NB177_178 := n5_; have NB178_177 := n6_; clear n0_ n1_ n2_ n3_ n4_ n5_ n6_; clear hb hbox hg; have hnb27 := NB177_178.out; have hnc27 := NB178_177.out; have hcz28_0 : w26.cell? ⟨gb177, 0, none⟩ = some (.int .i64 a0_0) := bc BK177 0; have hcz28_1 : w26.cell? ⟨gb177, 1, none⟩ = some (.int .i64 a0_1) := bc BK177 1; have hcz28_2 : w26.cell? ⟨gb177, 2, none⟩ = some (.int .i64 a0_2) := bc BK177 2; have hcz28_3 : w26.cell? ⟨gb177, 3, none⟩ = some (.int .i64 a0_3) := bc BK177 3; have hcz28_4 : w26.cell? ⟨gb177, 4, none⟩ = some (.int .i64 a0_4) := bc BK177 4; have hcz28_5 : w26.cell? ⟨gb177, 5, none⟩ = some (.int .i64 a0_5) := bc BK177 5; have hcz28_6 : w26.cell? ⟨gb177, 6, none⟩ = some (.bool false) := bc BK177 6; have hfz28_0 := blk_frozen BK177.out 0; have hfz28_1 := blk_frozen BK177.out 1; have hfz28_2 := blk_frozen BK177.out 2; have hfz28_3 := blk_frozen BK177.out 3; have hfz28_4 := blk_frozen BK177.out 4; have hfz28_5 := blk_frozen BK177.out 5; have hfz28_6 := blk_frozen BK177.out 6) | ((with_reducible refine gate_value (t := 11) rfl ?_); refine goesVL_ (some 13) rfl rfl Try.func33 (by kernel_rfl) rfl #[.agg #[.int .i64 a2_0, .int .i64 a2_1, .int .i64 a2_2, .int .i64 a2_3, .int .i64 a2_4, .int .i64 a2_5, .bool a2_6, .int .i64 a2_7, .int .i64 a2_8], .int .i64 a1] rfl ⟨_, by rfl, by first | rfl | (simp only [List.map_toArray, List.map_cons, List.map_nil]; rfl)⟩ ?_; (with_reducible refine (monitor_view_explained.calls a2_0 a2_1 a2_2 a2_3 a2_4 a2_5 a2_6 a2_7 a2_8 a1 t179 t180 _ A10.out).mono ?_); rintro e w29 ⟨rfl, hb⟩; refine ⟨_, rfl, ?_⟩; have n0_ := bxb BK177 hb; have n1_ := bxb BK178 hb; have n2_ := Aside0.mk (below_step (bwt HB) hb); clear BK177; clear BK178; clear HB; have BK177 := n0_; have BK178 := n1_; have HB := n2_; clear n0_ n1_ n2_; (try clear hb); (try clear hb2); (try clear hk); (try clear hi)) | ((with_reducible refine gate_dst (N := 7) rfl ?_); refine box_event ?hg (N := 7) ?hd (cs := #[.int .i64 0, .int .i64 0]) (t := 64) ?hr ?_; (case hd => rfl); (case hg => rfl); (case hr => first | (go_simp; done) | (go_simp; rfl)); intro gb181 hg w30 hbox hb; have n0_ := bxb BK177 hb; have n1_ := bxb BK178 hb; have n2_ := Aside0.mk (below_step (bwt HB) hb); have n3_ := Aside0.mk (hbox); have n4_ := Aside0.mk ((by rw [hg]; exact (below_size (bwt HB)) : w.heap.size ≤ gb181)); have n5_ := Aside0.mk ((by rw [hg]; exact (below_size (bwt HB)) : w.heap.size ≤ gb181)); have n6_ := nlt_ BK177 hg; have n7_ := ngt_ BK177 hg; have n8_ := nlt_ BK178 hg; have n9_ := ngt_ BK178 hg; clear BK177; clear BK178; clear HB; have BK177 := n0_; have BK178 := n1_; have HB := n2_; have BK181 := n3_; have GW181 := n4_; have GE181 := n5_; have NB177_181 := n6_; have NB181_177 := n7_; have NB178_181 := n8_; have NB181_178 := n9_; clear n0_ n1_ n2_ n3_ n4_ n5_ n6_ n7_ n8_ n9_; clear hb hbox hg; have hnb31 := NB181_177.out; have hnc31 := NB177_181.out; have hnb32 := NB181_178.out; have hnc32 := NB178_181.out; have hcz33_0 : w30.cell? ⟨gb181, 0, none⟩ = some (.int .i64 0) := bc BK181 0; have hcz33_1 : w30.cell? ⟨gb181, 1, none⟩ = some (.int .i64 0) := bc BK181 1; have hfz33_0 := blk_frozen BK181.out 0; have hfz33_1 := blk_frozen BK181.out 1))
      have n0_ : Aside0 (((w30.setCell ⟨gb181, 0, none⟩ (.int .i64 t179)).setCell ⟨gb181, 1, none⟩ (.int .i64 t180)).heap[gb177]? = some (.cells #[.int .i64 a0_0, .int .i64 a0_1, .int .i64 a0_2, .int .i64 a0_3, .int .i64 a0_4, .int .i64 a0_5, .bool false] 28 (0, 0))) := ⟨by (with_reducible repeat refine bp_ ?_); refine blk_far ?_ NB177_181.out _; (with_reducible repeat refine bp_ ?_); refine blk_far ?_ NB177_181.out _; (with_reducible repeat refine bp_ ?_); exact BK177.out⟩
      have n1_ : Aside0 (((w30.setCell ⟨gb181, 0, none⟩ (.int .i64 t179)).setCell ⟨gb181, 1, none⟩ (.int .i64 t180)).heap[gb178]? = some (.cells #[.int .i64 0, .int .i64 0, .int .i64 0, .int .i64 0, .int .i64 0, .int .i64 0, .bool false] 28 (0, 0))) := ⟨by (with_reducible repeat refine bp_ ?_); refine blk_far ?_ NB178_181.out _; (with_reducible repeat refine bp_ ?_); refine blk_far ?_ NB178_181.out _; (with_reducible repeat refine bp_ ?_); exact BK178.out⟩
      have n2_ : Aside0 (((w30.setCell ⟨gb181, 0, none⟩ (.int .i64 t179)).setCell ⟨gb181, 1, none⟩ (.int .i64 t180)).heap[gb181]? = some (.cells #[.int .i64 t179, .int .i64 t180] 64 (0, 0))) := ⟨by (with_reducible repeat refine bp_ ?_); refine blk_put (cs := #[.int .i64 t179, .int .i64 0]) ?_ 1 _ rfl; (with_reducible repeat refine bp_ ?_); refine blk_put (cs := #[.int .i64 0, .int .i64 0]) ?_ 0 _ rfl; (with_reducible repeat refine bp_ ?_); exact BK181.out⟩
      have n3_ : Aside0 (Below w.heap.size w ((w30.setCell ⟨gb181, 0, none⟩ (.int .i64 t179)).setCell ⟨gb181, 1, none⟩ (.int .i64 t180))) := ⟨by repeat (first | (with_reducible first | exact HB.out | apply below_alloc | apply pw_below_drewN | apply below_drew1 | refine below_set ?_ GE177.out | refine below_set ?_ GE178.out | refine below_set ?_ GE181.out) | exact HB.out)⟩
      (try clear BK177)
      (try clear BK178)
      (try clear BK181)
      (try clear HB)
      generalize ((w30.setCell ⟨gb181, 0, none⟩ (.int .i64 t179)).setCell ⟨gb181, 1, none⟩ (.int .i64 t180)) = w34 at n0_ n1_ n2_ n3_ ⊢
      have BK177 := n0_
      have BK178 := n1_
      have BK181 := n2_
      have HB := n3_
      clear n0_ n1_ n2_ n3_
      have n0_ := Aside0.mk (blk_drew BK177.out)
      have n1_ := Aside0.mk (blk_drew BK178.out)
      have n2_ := Aside0.mk (blk_drew BK181.out)
      have n3_ := Aside0.mk (below_drew1 HB.out)
      clear BK177
      clear BK178
      clear BK181
      clear HB
      have BK177 := n0_
      have BK178 := n1_
      have BK181 := n2_
      have HB := n3_
      clear n0_ n1_ n2_ n3_
      refine start_ (n := 8) (S := fun w' => w'.cell? ⟨gb181, 0, none⟩ = some (.int .i64 t179) ∧ w'.cell? ⟨gb181, 1, none⟩ = some (.int .i64 t180)) (ds := []) #[false, false, false, false, false, false, false, false] (by kernel_rfl) rfl rfl ⟨bc BK181 0, bc BK181 1⟩ (fun hHeld => ?_); refine with_tabW monitor_update_monitor_view_explained.tab7 monitor_update_monitor_view_explained.bits7 (fun HT_ HW_ => ?_)
      generalize w34.drew = w35 at BK177 BK178 BK181 HB hHeld ⊢
      refine pure_ (i := 0) (N := some 21) (v := ?_) (a' := ?_) #[true, false, false, false, false, false, false, false] rfl rfl (any_of HT_.out (by kernel_rfl)) (fun _ _ _ h => h) (Or.inl ⟨by rfl, ?_⟩) ?_ ?_
      rotate_left
      · intro w'
        go_simp
        with_reducible rfl
      rotate_left
      · simp only [Act.put, List.setIfInBounds_toArray, List.set_cons_zero, List.set_cons_succ, i64_w, i32_w]
        rfl
      refine pure_ (i := 2) (N := some 23) (v := ?_) (a' := ?_) #[true, false, true, false, false, false, false, false] rfl rfl (any_of HT_.out (by kernel_rfl)) (fun _ _ _ h => h) (Or.inl ⟨by rfl, ?_⟩) ?_ ?_
      rotate_left
      · intro w'
        go_simp
        with_reducible rfl
      rotate_left
      · simp only [Act.put, List.setIfInBounds_toArray, List.set_cons_zero, List.set_cons_succ, i64_w, i32_w]
        rfl
      refine take_ (i := 1) (N := some 22) (v := ?_) (a' := ?_) #[true, true, true, false, false, false, false, false] rfl rfl (take_ofW HT_.out HW_.out (by kernel_rfl)) (fun _ _ _ h => h) (Or.inl ⟨by rfl, ?_⟩) hHeld ?_ ?_
      rotate_left
      · rintro w' ⟨s0, s1⟩
        go_simp
        with_reducible rfl
      rotate_left
      · simp only [Act.put, List.setIfInBounds_toArray, List.set_cons_zero, List.set_cons_succ, i64_w, i32_w]
        rfl
      refine pure_ (i := 4) (N := some 25) (v := ?_) (a' := ?_) #[true, true, true, false, true, false, false, false] rfl rfl (any_of HT_.out (by kernel_rfl)) (fun _ _ _ h => h) (Or.inl ⟨by rfl, ?_⟩) ?_ ?_
      rotate_left
      · intro w'
        go_simp
        with_reducible rfl
      rotate_left
      · simp only [Act.put, List.setIfInBounds_toArray, List.set_cons_zero, List.set_cons_succ, i64_w, i32_w]
        rfl
      refine take_ (i := 3) (N := some 24) (v := ?_) (a' := ?_) #[true, true, true, true, true, false, false, false] rfl rfl (take_ofW HT_.out HW_.out (by kernel_rfl)) (fun _ _ _ h => h) (Or.inl ⟨by rfl, ?_⟩) hHeld ?_ ?_
      rotate_left
      · rintro w' ⟨s0, s1⟩
        go_simp
        with_reducible rfl
      rotate_left
      · simp only [Act.put, List.setIfInBounds_toArray, List.set_cons_zero, List.set_cons_succ, i64_w, i32_w]
        rfl
      refine one_ (i := 5) (N := none) #[true, true, true, true, true, true, false, false] rfl rfl (one_of HT_.out (by kernel_rfl)) (by decide) (fun K hK => ?_)
      have hs36 : w35.cell? ⟨gb177, 0, none⟩ = some (.int .i64 a0_0) := bc BK177 0
      have hfs36 := blk_frozen BK177.out 0
      have hns36_1 := NB178_177.out
      have hns36_2 := NB181_177.out
      have hms36_1 := NB177_178.out
      have hms36_2 := NB177_181.out
      refine skip_ (w1 := ?_) (by rfl) rfl ?_ ?_
      rotate_left
      · go_simp
        rfl
      refine hK.out _ _ ⟨((cell_far (p := ⟨gb177, _, none⟩) NB181_177.out _).trans (hHeld.1)), ((cell_far (p := ⟨gb177, _, none⟩) NB181_177.out _).trans (hHeld.2))⟩ (fun hHeld => ?_)
      clear hK K
      refine pure_ (i := 6) (N := some 26) (v := ?_) (a' := ?_) #[true, true, true, true, true, true, true, false] rfl rfl (any_of HT_.out (by kernel_rfl)) (fun _ _ _ h => h) (Or.inl ⟨by rfl, ?_⟩) ?_ ?_
      rotate_left
      · intro w'
        go_simp
        with_reducible rfl
      rotate_left
      · simp only [Act.put, List.setIfInBounds_toArray, List.set_cons_zero, List.set_cons_succ, i64_w, i32_w]
        rfl
      refine one_ (i := 7) (N := none) #[true, true, true, true, true, true, true, true] rfl rfl (one_of HT_.out (by kernel_rfl)) (by decide) (fun K hK => ?_)
      have hs37 : w35.cell? ⟨gb177, 1, none⟩ = some (.int .i64 a0_1) := bc BK177 1
      have hfs37 := blk_frozen BK177.out 1
      have hns37_1 := NB178_177.out
      have hns37_2 := NB181_177.out
      have hms37_1 := NB177_178.out
      have hms37_2 := NB177_181.out
      with_reducible refine skip_ (w1 := ?_) ?_ ?_ ?_ ?_
      rotate_left
      · rfl
      · rfl
      · first | (apply store_box BK177; (case hop => rfl); (case hp => rfl); (case hv => rfl); (case hg => with_reducible (repeat (refine blk_far ?_ (by assumption) _); exact bx0 BK177)); (case hi => kernel_rfl); (case ho => rfl); (case h1 => rfl); (case hw => simp only [setCells, Nat.zero_add, Nat.reduceAdd]; rfl)) | (go_simp; rfl)
      refine hK.out _ _ ⟨((cell_far (p := ⟨gb177, _, none⟩) NB181_177.out _).trans (hHeld.1)), ((cell_far (p := ⟨gb177, _, none⟩) NB181_177.out _).trans (hHeld.2))⟩ (fun hHeld => ?_)
      clear hK K
      refine done_ (done_of HT_.out (by kernel_rfl)) ?_
      have hcz38_0 : w35.cell? ⟨gb177, 0, none⟩ = some (.int .i64 a0_0) := bc BK177 0
      have hcz38_1 : w35.cell? ⟨gb177, 1, none⟩ = some (.int .i64 a0_1) := bc BK177 1
      have hcz38_2 : w35.cell? ⟨gb177, 2, none⟩ = some (.int .i64 a0_2) := bc BK177 2
      have hcz38_3 : w35.cell? ⟨gb177, 3, none⟩ = some (.int .i64 a0_3) := bc BK177 3
      have hcz38_4 : w35.cell? ⟨gb177, 4, none⟩ = some (.int .i64 a0_4) := bc BK177 4
      have hcz38_5 : w35.cell? ⟨gb177, 5, none⟩ = some (.int .i64 a0_5) := bc BK177 5
      have hcz38_6 : w35.cell? ⟨gb177, 6, none⟩ = some (.bool false) := bc BK177 6
      have hfz38_0 := blk_frozen BK177.out 0
      have hfz38_1 := blk_frozen BK177.out 1
      have hfz38_2 := blk_frozen BK177.out 2
      have hfz38_3 := blk_frozen BK177.out 3
      have hfz38_4 := blk_frozen BK177.out 4
      have hfz38_5 := blk_frozen BK177.out 5
      have hfz38_6 := blk_frozen BK177.out 6
      try go_wp2_with (first | ((with_reducible refine gate_callee (f := 27) rfl ?_); refine goesL_ (some 28) rfl rfl Try.func27 (by kernel_rfl) rfl #[.agg #[.int .i64 t179, .int .i64 t180, .int .i64 a0_2, .int .i64 a0_3, .int .i64 a0_4, .int .i64 a0_5, .bool false]] rfl (by (try simp only [List.map_toArray, List.map_cons, List.map_nil]); first | done | rfl | (simp only [List.length_drop, List.length_take]; rfl)) ?_; (with_reducible refine (monitor_look.calls t179 t180 a0_2 a0_3 a0_4 a0_5 false t182 t183 t184 t185 t186 t187 t188 t189 t190 _ A23.out).mono ?_); rintro e w39 ⟨rfl, hb⟩; refine ⟨_, rfl, ?_⟩; have n0_ := Aside0.mk (blk_below (g := gb177) (o := .cells #[.int .i64 t179, .int .i64 t180, .int .i64 a0_2, .int .i64 a0_3, .int .i64 a0_4, .int .i64 a0_5, .bool false] 28 (0, 0)) (by (with_reducible repeat refine bp_ ?_); refine blk_put (cs := #[.int .i64 t179, .int .i64 a0_1, .int .i64 a0_2, .int .i64 a0_3, .int .i64 a0_4, .int .i64 a0_5, .bool false]) ?_ 1 _ rfl; (with_reducible repeat refine bp_ ?_); refine blk_put (cs := #[.int .i64 a0_0, .int .i64 a0_1, .int .i64 a0_2, .int .i64 a0_3, .int .i64 a0_4, .int .i64 a0_5, .bool false]) ?_ 0 _ rfl; (with_reducible repeat refine bp_ ?_); exact BK177.out) hb); have n1_ := Aside0.mk (blk_below (g := gb178) (o := .cells #[.int .i64 0, .int .i64 0, .int .i64 0, .int .i64 0, .int .i64 0, .int .i64 0, .bool false] 28 (0, 0)) (by (with_reducible repeat refine bp_ ?_); refine blk_far ?_ NB178_177.out _; (with_reducible repeat refine bp_ ?_); refine blk_far ?_ NB178_177.out _; (with_reducible repeat refine bp_ ?_); exact BK178.out) hb); have n2_ := Aside0.mk (blk_below (g := gb181) (o := .cells #[.int .i64 t179, .int .i64 t180] 64 (0, 0)) (by (with_reducible repeat refine bp_ ?_); refine blk_far ?_ NB181_177.out _; (with_reducible repeat refine bp_ ?_); refine blk_far ?_ NB181_177.out _; (with_reducible repeat refine bp_ ?_); exact BK181.out) hb); have n3_ := Aside0.mk (below_step (by repeat (first | (with_reducible first | exact HB.out | apply below_alloc | apply pw_below_drewN | apply below_drew1 | refine below_set ?_ GE177.out | refine below_set ?_ GE178.out | refine below_set ?_ GE181.out) | exact HB.out)) hb); clear BK177; clear BK178; clear BK181; clear HB; have BK177 := n0_; have BK178 := n1_; have BK181 := n2_; have HB := n3_; clear n0_ n1_ n2_ n3_; (try clear hb); (try clear hb2); (try clear hk); (try clear hi)) | ((with_reducible refine gate_callee (f := 28) rfl ?_); refine goesL_ (some 29) rfl rfl Try.func28 (by kernel_rfl) rfl #[.agg #[.int .i64 t182, .int .i64 t183, .int .i64 t184, .int .i64 t185, .int .i64 t186, .int .i64 t187, .bool t188, .int .i64 t189, .int .i64 t190]] rfl (by (try simp only [List.map_toArray, List.map_cons, List.map_nil]); first | done | rfl | (simp only [List.length_drop, List.length_take]; rfl)) ?_; (with_reducible refine (monitor_view_inRange.calls t182 t183 t184 t185 t186 t187 t188 t189 t190 t191 _ A24.out).mono ?_); rintro e w40 ⟨rfl, hb⟩; refine ⟨_, rfl, ?_⟩; have n0_ := bxb BK177 hb; have n1_ := bxb BK178 hb; have n2_ := bxb BK181 hb; have n3_ := Aside0.mk (below_step (bwt HB) hb); clear BK177; clear BK178; clear BK181; clear HB; have BK177 := n0_; have BK178 := n1_; have BK181 := n2_; have HB := n3_; clear n0_ n1_ n2_ n3_; (try clear hb); (try clear hb2); (try clear hk); (try clear hi); have hcz41_0 : w40.cell? ⟨gb177, 0, none⟩ = some (.int .i64 t179) := bc BK177 0; have hcz41_1 : w40.cell? ⟨gb177, 1, none⟩ = some (.int .i64 t180) := bc BK177 1; have hcz41_2 : w40.cell? ⟨gb177, 2, none⟩ = some (.int .i64 a0_2) := bc BK177 2; have hcz41_3 : w40.cell? ⟨gb177, 3, none⟩ = some (.int .i64 a0_3) := bc BK177 3; have hcz41_4 : w40.cell? ⟨gb177, 4, none⟩ = some (.int .i64 a0_4) := bc BK177 4; have hcz41_5 : w40.cell? ⟨gb177, 5, none⟩ = some (.int .i64 a0_5) := bc BK177 5; have hcz41_6 : w40.cell? ⟨gb177, 6, none⟩ = some (.bool false) := bc BK177 6; have hfz41_0 := blk_frozen BK177.out 0; have hfz41_1 := blk_frozen BK177.out 1; have hfz41_2 := blk_frozen BK177.out 2; have hfz41_3 := blk_frozen BK177.out 3; have hfz41_4 := blk_frozen BK177.out 4; have hfz41_5 := blk_frozen BK177.out 5; have hfz41_6 := blk_frozen BK177.out 6; have hcz42_0 : w40.cell? ⟨gb178, 0, none⟩ = some (.int .i64 0) := bc BK178 0; have hcz42_1 : w40.cell? ⟨gb178, 1, none⟩ = some (.int .i64 0) := bc BK178 1; have hcz42_2 : w40.cell? ⟨gb178, 2, none⟩ = some (.int .i64 0) := bc BK178 2; have hcz42_3 : w40.cell? ⟨gb178, 3, none⟩ = some (.int .i64 0) := bc BK178 3; have hcz42_4 : w40.cell? ⟨gb178, 4, none⟩ = some (.int .i64 0) := bc BK178 4; have hcz42_5 : w40.cell? ⟨gb178, 5, none⟩ = some (.int .i64 0) := bc BK178 5; have hcz42_6 : w40.cell? ⟨gb178, 6, none⟩ = some (.bool false) := bc BK178 6; have hfz42_0 := blk_frozen BK178.out 0; have hfz42_1 := blk_frozen BK178.out 1; have hfz42_2 := blk_frozen BK178.out 2; have hfz42_3 := blk_frozen BK178.out 3; have hfz42_4 := blk_frozen BK178.out 4; have hfz42_5 := blk_frozen BK178.out 5; have hfz42_6 := blk_frozen BK178.out 6))
      refine bodyPost_ret (results_cell_row rfl _ _ gb178 28 #[.int .i64 t179, .int .i64 t180, .int .i64 a0_2, .int .i64 a0_3, .int .i64 a0_4, .int .i64 a0_5, .bool (!t191)] (0, 0) _ rfl (by (with_reducible repeat refine bp_ ?_); refine blk_put (cs := #[.int .i64 t179, .int .i64 t180, .int .i64 a0_2, .int .i64 a0_3, .int .i64 a0_4, .int .i64 a0_5, .bool false]) ?_ 6 _ rfl; (with_reducible repeat refine bp_ ?_); refine blk_put (cs := #[.int .i64 t179, .int .i64 t180, .int .i64 a0_2, .int .i64 a0_3, .int .i64 a0_4, .int .i64 0, .bool false]) ?_ 5 _ rfl; (with_reducible repeat refine bp_ ?_); refine blk_put (cs := #[.int .i64 t179, .int .i64 t180, .int .i64 a0_2, .int .i64 a0_3, .int .i64 0, .int .i64 0, .bool false]) ?_ 4 _ rfl; (with_reducible repeat refine bp_ ?_); refine blk_put (cs := #[.int .i64 t179, .int .i64 t180, .int .i64 a0_2, .int .i64 0, .int .i64 0, .int .i64 0, .bool false]) ?_ 3 _ rfl; (with_reducible repeat refine bp_ ?_); refine blk_put (cs := #[.int .i64 t179, .int .i64 t180, .int .i64 0, .int .i64 0, .int .i64 0, .int .i64 0, .bool false]) ?_ 2 _ rfl; (with_reducible repeat refine bp_ ?_); refine blk_put (cs := #[.int .i64 t179, .int .i64 0, .int .i64 0, .int .i64 0, .int .i64 0, .int .i64 0, .bool false]) ?_ 1 _ rfl; (with_reducible repeat refine bp_ ?_); refine blk_put (cs := #[.int .i64 0, .int .i64 0, .int .i64 0, .int .i64 0, .int .i64 0, .int .i64 0, .bool false]) ?_ 0 _ rfl; (with_reducible repeat refine bp_ ?_); refine blk_far ?_ NB178_177.out _; (with_reducible repeat refine bp_ ?_); exact BK178.out) Try.underlying28 rfl (by kernel_rfl)) rfl ?_
      exact ⟨by first | rfl | (simp [errW_none, errW_some] <;> rfl) | (simp [*, errW_none, errW_some] <;> rfl), by repeat (first | (with_reducible first | exact HB.out | apply below_alloc | apply pw_below_drewN | apply below_drew1 | refine below_set ?_ GE177.out | refine below_set ?_ GE178.out | refine below_set ?_ GE181.out) | exact HB.out)⟩

end Go.Proofs.Ytlofmgdjnaajjaa.Q

namespace Go.Proofs.Ytlofmgdjnaajjaa.Q
open Go.RowKit Go.Proofs.YtlofmgdjnaajjaaW.PrintWords Go.Proofs.YtlofmgdjnaajjaaW.PrintLast Go.Proofs.YtlofmgdjnaajjaaW.PrintMore
attribute [local go_sem] run_makeFunc_own max2_int min2_int max_two min_two max_three min_three max_four min_four   -- for this text's walks alone
set_option linter.unusedVariables false
set_option linter.unusedSimpArgs false

/-! ### monitor_See: function 21 -/
def monitor_See.f (a0_0 : Int) (a0_1 : Int) (a0_2 : Int) (a0_3 : Int) (a0_4 : Int) (a0_5 : Int) (a0_6 : Bool) (a1 : Int) : Option (Int × Int × Int × Int × Int × Int × Bool) := (monitor_look.f a0_0 a0_1 a0_2 a0_3 a0_4 a0_5 a0_6).bind fun bt194 => ((monitor_update_monitor_view_explained.f a0_0 a0_1 a0_2 a0_3 a0_4 a0_5 a0_6 a1 bt194.1 bt194.2.1 bt194.2.2.1 bt194.2.2.2.1 bt194.2.2.2.2.1 bt194.2.2.2.2.2.1 bt194.2.2.2.2.2.2.1 bt194.2.2.2.2.2.2.2.1 bt194.2.2.2.2.2.2.2.2).bind fun bt203 => (some (bt203.1, bt203.2.1, bt203.2.2.1, bt203.2.2.2.1, bt203.2.2.2.2.1, bt203.2.2.2.2.2.1, bt203.2.2.2.2.2.2)))
set_option maxHeartbeats 8000000 in
set_option maxRecDepth 100000 in
theorem monitor_See.calls (a0_0 : Int) (a0_1 : Int) (a0_2 : Int) (a0_3 : Int) (a0_4 : Int) (a0_5 : Int) (a0_6 : Bool) (a1 : Int) (r1 : Int) (r2 : Int) (r3 : Int) (r4 : Int) (r5 : Int) (r6 : Int) (r7 : Bool) (w : World) (h : monitor_See.f a0_0 a0_1 a0_2 a0_3 a0_4 a0_5 a0_6 a1 = some (r1, r2, r3, r4, r5, r6, r7)) :
    Calls Try.prog 21 #[.agg #[.int .i64 a0_0, .int .i64 a0_1, .int .i64 a0_2, .int .i64 a0_3, .int .i64 a0_4, .int .i64 a0_5, .bool a0_6], .int .i64 a1] w fun e w' => e = .returned (.agg #[.int .i64 r1, .int .i64 r2, .int .i64 r3, .int .i64 r4, .int .i64 r5, .int .i64 r6, .bool r7]) ∧ Below w.heap.size w w' := by
  have hu28 := Try.underlying28
  have HB := Aside0.mk (Below.refl w.heap.size w)
  have H : ((monitor_look.f a0_0 a0_1 a0_2 a0_3 a0_4 a0_5 a0_6).bind fun bt194 => ((monitor_update_monitor_view_explained.f a0_0 a0_1 a0_2 a0_3 a0_4 a0_5 a0_6 a1 bt194.1 bt194.2.1 bt194.2.2.1 bt194.2.2.2.1 bt194.2.2.2.2.1 bt194.2.2.2.2.2.1 bt194.2.2.2.2.2.2.1 bt194.2.2.2.2.2.2.2.1 bt194.2.2.2.2.2.2.2.2).bind fun bt203 => (some (bt203.1, bt203.2.1, bt203.2.2.1, bt203.2.2.2.1, bt203.2.2.2.2.1, bt203.2.2.2.2.2.1, bt203.2.2.2.2.2.2)))) = some (r1, r2, r3, r4, r5, r6, r7) := h
  clear h
  replace H := Option.bind_eq_some_iff.mp H
  obtain ⟨⟨t194, t195, t196, t197, t198, t199, t200, t201, t202⟩, A30, H⟩ := H
  replace H : ((monitor_update_monitor_view_explained.f a0_0 a0_1 a0_2 a0_3 a0_4 a0_5 a0_6 a1 t194 t195 t196 t197 t198 t199 t200 t201 t202).bind fun bt203 => (some (bt203.1, bt203.2.1, bt203.2.2.1, bt203.2.2.2.1, bt203.2.2.2.2.1, bt203.2.2.2.2.2.1, bt203.2.2.2.2.2.2))) = some (r1, r2, r3, r4, r5, r6, r7) := H
  have A3 := Aside0.mk A30
  clear A30
  replace H := Option.bind_eq_some_iff.mp H
  obtain ⟨⟨t203, t204, t205, t206, t207, t208, t209⟩, A40, H⟩ := H
  replace H : (some (t203, t204, t205, t206, t207, t208, t209)) = some (r1, r2, r3, r4, r5, r6, r7) := H
  have A4 := Aside0.mk A40
  clear A40
  simp only [Option.some.injEq, Prod.mk.injEq] at H
  obtain ⟨rfl, rfl, rfl, rfl, rfl, rfl, rfl⟩ := H
  go_enter Try.func21, Try.ntmps21
  try go_wp2_with (first | ((with_reducible refine gate_dst (N := 2) rfl ?_); refine box_event ?hg (N := 2) ?hd (cs := #[.int .i64 a0_0, .int .i64 a0_1, .int .i64 a0_2, .int .i64 a0_3, .int .i64 a0_4, .int .i64 a0_5, .bool a0_6]) (t := 28) ?hr ?_; (case hd => rfl); (case hg => rfl); (case hr => first | (go_simp; done) | (go_simp; rfl)); intro gb192 hg w5 hbox hb; have n0_ := Aside0.mk (below_step (by repeat (first | (with_reducible first | exact HB.out | apply below_alloc | apply pw_below_drewN | apply below_drew1) | exact HB.out)) hb); have n1_ := Aside0.mk (hbox); have n2_ := Aside0.mk ((by rw [hg]; exact (below_size (by repeat (first | (with_reducible first | exact HB.out | apply below_alloc | apply pw_below_drewN | apply below_drew1) | exact HB.out))) : w.heap.size ≤ gb192)); have n3_ := Aside0.mk ((by rw [hg]; exact (below_size (by repeat (first | (with_reducible first | exact HB.out | apply below_alloc | apply pw_below_drewN | apply below_drew1) | exact HB.out))) : w.heap.size ≤ gb192)); clear HB; have HB := n0_; have BK192 := n1_; have GW192 := n2_; have GE192 := n3_; clear n0_ n1_ n2_ n3_; clear hb hbox hg) | ((with_reducible refine gate_dst (N := 4) rfl ?_); refine box_event ?hg (N := 4) ?hd (cs := #[.int .i64 0, .int .i64 0, .int .i64 0, .int .i64 0, .int .i64 0, .int .i64 0, .bool false]) (t := 28) ?hr ?_; (case hd => rfl); (case hg => rfl); (case hr => first | (go_simp; done) | (go_simp; rfl)); intro gb193 hg w6 hbox hb; have n0_ := bxb BK192 hb; have n1_ := Aside0.mk (below_step (bwt HB) hb); have n2_ := Aside0.mk (hbox); have n3_ := Aside0.mk ((by rw [hg]; exact (below_size (bwt HB)) : w.heap.size ≤ gb193)); have n4_ := Aside0.mk ((by rw [hg]; exact (below_size (bwt HB)) : w.heap.size ≤ gb193)); have n5_ := nlt_ BK192 hg; have n6_ := ngt_ BK192 hg; clear BK192; clear HB; have BK192 := n0_; have HB := n1_; have BK193 := n2_; have GW193 := n3_; have GE193 := n4_; have NB192_193 := n5_; have NB193_192 := n6_; clear n0_ n1_ n2_ n3_ n4_ n5_ n6_; clear hb hbox hg))
  have n0_ := Aside0.mk (blk_drew BK192.out)
  have n1_ := Aside0.mk (blk_drew BK193.out)
  have n2_ := Aside0.mk (below_drew1 HB.out)
  clear BK192
  clear BK193
  clear HB
  have BK192 := n0_
  have BK193 := n1_
  have HB := n2_
  clear n0_ n1_ n2_
  refine start_ (n := 7) (S := fun w' => w'.cell? ⟨gb192, 0, none⟩ = some (.int .i64 a0_0) ∧ w'.cell? ⟨gb192, 1, none⟩ = some (.int .i64 a0_1) ∧ w'.cell? ⟨gb192, 2, none⟩ = some (.int .i64 a0_2) ∧ w'.cell? ⟨gb192, 3, none⟩ = some (.int .i64 a0_3) ∧ w'.cell? ⟨gb192, 4, none⟩ = some (.int .i64 a0_4) ∧ w'.cell? ⟨gb192, 5, none⟩ = some (.int .i64 a0_5) ∧ w'.cell? ⟨gb192, 6, none⟩ = some (.bool a0_6)) (ds := []) #[false, false, false, false, false, false, false] (by kernel_rfl) rfl rfl ⟨bc BK192 0, bc BK192 1, bc BK192 2, bc BK192 3, bc BK192 4, bc BK192 5, bc BK192 6⟩ (fun hHeld => ?_)
  generalize w6.drew = w7 at BK192 BK193 HB hHeld ⊢
  refine pure_ (i := 1) (N := some 6) (v := ?_) (a' := ?_) #[false, true, false, false, false, false, false] rfl rfl (by kernel_rfl) (fun _ _ _ h => h) (Or.inl ⟨by rfl, ?_⟩) ?_ ?_
  rotate_left
  · intro w'
    go_simp
    with_reducible rfl
  rotate_left
  · simp only [Act.put, List.setIfInBounds_toArray, List.set_cons_zero, List.set_cons_succ, i64_w, i32_w]
    rfl
  refine take_ (i := 0) (N := some 5) (v := ?_) (a' := ?_) #[true, true, false, false, false, false, false] rfl rfl (by kernel_rfl) (fun _ _ _ h => h) (Or.inl ⟨by rfl, ?_⟩) hHeld ?_ ?_
  rotate_left
  · rintro w' ⟨s0, s1, s2, s3, s4, s5, s6⟩
    go_simp
    with_reducible rfl
  rotate_left
  · simp only [Act.put, List.setIfInBounds_toArray, List.set_cons_zero, List.set_cons_succ, i64_w, i32_w]
    rfl
  refine take_ (i := 2) (N := some 7) (v := ?_) (a' := ?_) #[true, true, true, false, false, false, false] rfl rfl (by kernel_rfl) (fun _ _ _ h => h) (Or.inl ⟨by rfl, ?_⟩) hHeld ?_ ?_
  rotate_left
  · rintro w' ⟨s0, s1, s2, s3, s4, s5, s6⟩
    go_simp
    with_reducible rfl
  rotate_left
  · simp only [Act.put, List.setIfInBounds_toArray, List.set_cons_zero, List.set_cons_succ, i64_w, i32_w]
    rfl
  refine one_ (i := 3) (N := some 8) #[true, true, true, true, false, false, false] rfl rfl (by kernel_rfl) (by decide) (fun K hK => ?_)
  refine goes_ Try.func27 (by kernel_rfl) rfl #[.agg #[.int .i64 a0_0, .int .i64 a0_1, .int .i64 a0_2, .int .i64 a0_3, .int .i64 a0_4, .int .i64 a0_5, .bool a0_6]] (by rfl) rfl rfl (by (try simp only [List.map_toArray, List.map_cons, List.map_nil]); first | done | rfl | (simp only [List.length_drop, List.length_take]; rfl)) ?_
  with_reducible refine (monitor_look.calls a0_0 a0_1 a0_2 a0_3 a0_4 a0_5 a0_6 t194 t195 t196 t197 t198 t199 t200 t201 t202 _ A3.out).mono ?_
  rintro e w8 ⟨rfl, hb⟩
  refine ⟨_, rfl, ?_⟩
  have n0_ := bxb BK192 hb
  have n1_ := bxb BK193 hb
  have n2_ := Aside0.mk (below_step (bwt HB) hb)
  clear BK192
  clear BK193
  clear HB
  have BK192 := n0_
  have BK193 := n1_
  have HB := n2_
  clear n0_ n1_ n2_
  (try clear hb)
  (try clear hb2)
  (try clear hk)
  (try clear hi)
  refine hK.out _ _ ⟨bc BK192 0, bc BK192 1, bc BK192 2, bc BK192 3, bc BK192 4, bc BK192 5, bc BK192 6⟩ (fun hHeld => ?_)
  clear hK K
  refine norm_ (a' := ?_) ?_ ?_
  rotate_left
  · show Act.put _ (some 8) _ = _
    simp only [Act.put, List.setIfInBounds_toArray, List.set_cons_zero, List.set_cons_succ, i64_w, i32_w]
    rfl
  refine pure_ (i := 4) (N := some 9) (v := ?_) (a' := ?_) #[true, true, true, true, true, false, false] rfl rfl (by kernel_rfl) (fun _ _ _ h => h) (Or.inl ⟨by rfl, ?_⟩) ?_ ?_
  rotate_left
  · intro w'
    go_simp
    with_reducible rfl
  rotate_left
  · simp only [Act.put, List.setIfInBounds_toArray, List.set_cons_zero, List.set_cons_succ, i64_w, i32_w]
    rfl
  refine one_ (i := 5) (N := some 10) #[true, true, true, true, true, true, false] rfl rfl (by kernel_rfl) (by decide) (fun K hK => ?_)
  refine goes_ Try.func34 (by kernel_rfl) rfl #[.agg #[.int .i64 a0_0, .int .i64 a0_1, .int .i64 a0_2, .int .i64 a0_3, .int .i64 a0_4, .int .i64 a0_5, .bool a0_6], .int .i64 a1, .func (.func 33) #[.agg #[.int .i64 t194, .int .i64 t195, .int .i64 t196, .int .i64 t197, .int .i64 t198, .int .i64 t199, .bool t200, .int .i64 t201, .int .i64 t202]] #[]] (by rfl) rfl rfl (by (try simp only [List.map_toArray, List.map_cons, List.map_nil]); first | done | rfl | (simp only [List.length_drop, List.length_take]; rfl)) ?_
  with_reducible refine (monitor_update_monitor_view_explained.calls a0_0 a0_1 a0_2 a0_3 a0_4 a0_5 a0_6 a1 t194 t195 t196 t197 t198 t199 t200 t201 t202 t203 t204 t205 t206 t207 t208 t209 _ A4.out).mono ?_
  rintro e w9 ⟨rfl, hb⟩
  refine ⟨_, rfl, ?_⟩
  have n0_ := bxb BK192 hb
  have n1_ := bxb BK193 hb
  have n2_ := Aside0.mk (below_step (bwt HB) hb)
  clear BK192
  clear BK193
  clear HB
  have BK192 := n0_
  have BK193 := n1_
  have HB := n2_
  clear n0_ n1_ n2_
  (try clear hb)
  (try clear hb2)
  (try clear hk)
  (try clear hi)
  refine hK.out _ _ ⟨bc BK192 0, bc BK192 1, bc BK192 2, bc BK192 3, bc BK192 4, bc BK192 5, bc BK192 6⟩ (fun hHeld => ?_)
  clear hK K
  refine norm_ (a' := ?_) ?_ ?_
  rotate_left
  · show Act.put _ (some 10) _ = _
    simp only [Act.put, List.setIfInBounds_toArray, List.set_cons_zero, List.set_cons_succ, i64_w, i32_w]
    rfl
  refine one_ (i := 6) (N := none) #[true, true, true, true, true, true, true] rfl rfl (by kernel_rfl) (by decide) (fun K hK => ?_)
  have hs10 : w9.cell? ⟨gb193, 0, none⟩ = some (.int .i64 0) := bc BK193 0
  have hfs10 := blk_frozen BK193.out 0
  have hns10_0 := NB192_193.out
  have hms10_0 := NB193_192.out
  have hs11 : w9.cell? ⟨gb193, 1, none⟩ = some (.int .i64 0) := bc BK193 1
  have hfs11 := blk_frozen BK193.out 1
  have hns11_0 := NB192_193.out
  have hms11_0 := NB193_192.out
  have hs12 : w9.cell? ⟨gb193, 2, none⟩ = some (.int .i64 0) := bc BK193 2
  have hfs12 := blk_frozen BK193.out 2
  have hns12_0 := NB192_193.out
  have hms12_0 := NB193_192.out
  have hs13 : w9.cell? ⟨gb193, 3, none⟩ = some (.int .i64 0) := bc BK193 3
  have hfs13 := blk_frozen BK193.out 3
  have hns13_0 := NB192_193.out
  have hms13_0 := NB193_192.out
  have hs14 : w9.cell? ⟨gb193, 4, none⟩ = some (.int .i64 0) := bc BK193 4
  have hfs14 := blk_frozen BK193.out 4
  have hns14_0 := NB192_193.out
  have hms14_0 := NB193_192.out
  have hs15 : w9.cell? ⟨gb193, 5, none⟩ = some (.int .i64 0) := bc BK193 5
  have hfs15 := blk_frozen BK193.out 5
  have hns15_0 := NB192_193.out
  have hms15_0 := NB193_192.out
  have hs16 : w9.cell? ⟨gb193, 6, none⟩ = some (.bool false) := bc BK193 6
  have hfs16 := blk_frozen BK193.out 6
  have hns16_0 := NB192_193.out
  have hms16_0 := NB193_192.out
  with_reducible refine skip_ (w1 := ?_) ?_ ?_ ?_ ?_
  rotate_left
  · rfl
  · rfl
  · first | (apply store_box BK193; (case hop => rfl); (case hp => rfl); (case hv => rfl); (case hg => with_reducible (repeat (refine blk_far ?_ (by assumption) _); exact bx0 BK193)); (case hi => kernel_rfl); (case ho => rfl); (case h1 => rfl); (case hw => simp only [setCells, Nat.zero_add, Nat.reduceAdd]; rfl)) | (go_simp; rfl)
  refine hK.out _ _ ⟨(by with_reducible (repeat (refine (cell_far (p := ⟨gb193, _, none⟩) NB192_193.out _).trans ?_)); exact hHeld.1), (by with_reducible (repeat (refine (cell_far (p := ⟨gb193, _, none⟩) NB192_193.out _).trans ?_)); exact hHeld.2.1), (by with_reducible (repeat (refine (cell_far (p := ⟨gb193, _, none⟩) NB192_193.out _).trans ?_)); exact hHeld.2.2.1), (by with_reducible (repeat (refine (cell_far (p := ⟨gb193, _, none⟩) NB192_193.out _).trans ?_)); exact hHeld.2.2.2.1), (by with_reducible (repeat (refine (cell_far (p := ⟨gb193, _, none⟩) NB192_193.out _).trans ?_)); exact hHeld.2.2.2.2.1), (by with_reducible (repeat (refine (cell_far (p := ⟨gb193, _, none⟩) NB192_193.out _).trans ?_)); exact hHeld.2.2.2.2.2.1), (by with_reducible (repeat (refine (cell_far (p := ⟨gb193, _, none⟩) NB192_193.out _).trans ?_)); exact hHeld.2.2.2.2.2.2)⟩ (fun hHeld => ?_)
  clear hK K
  refine done_ (by kernel_rfl) ?_
  try go_wp2
  refine bodyPost_ret (results_cell_row rfl _ _ gb193 28 #[.int .i64 t203, .int .i64 t204, .int .i64 t205, .int .i64 t206, .int .i64 t207, .int .i64 t208, .bool t209] (0, 0) _ rfl (by (with_reducible repeat refine bp_ ?_); refine blk_put (cs := #[.int .i64 t203, .int .i64 t204, .int .i64 t205, .int .i64 t206, .int .i64 t207, .int .i64 t208, .bool false]) ?_ 6 _ rfl; (with_reducible repeat refine bp_ ?_); refine blk_put (cs := #[.int .i64 t203, .int .i64 t204, .int .i64 t205, .int .i64 t206, .int .i64 t207, .int .i64 0, .bool false]) ?_ 5 _ rfl; (with_reducible repeat refine bp_ ?_); refine blk_put (cs := #[.int .i64 t203, .int .i64 t204, .int .i64 t205, .int .i64 t206, .int .i64 0, .int .i64 0, .bool false]) ?_ 4 _ rfl; (with_reducible repeat refine bp_ ?_); refine blk_put (cs := #[.int .i64 t203, .int .i64 t204, .int .i64 t205, .int .i64 0, .int .i64 0, .int .i64 0, .bool false]) ?_ 3 _ rfl; (with_reducible repeat refine bp_ ?_); refine blk_put (cs := #[.int .i64 t203, .int .i64 t204, .int .i64 0, .int .i64 0, .int .i64 0, .int .i64 0, .bool false]) ?_ 2 _ rfl; (with_reducible repeat refine bp_ ?_); refine blk_put (cs := #[.int .i64 t203, .int .i64 0, .int .i64 0, .int .i64 0, .int .i64 0, .int .i64 0, .bool false]) ?_ 1 _ rfl; (with_reducible repeat refine bp_ ?_); refine blk_put (cs := #[.int .i64 0, .int .i64 0, .int .i64 0, .int .i64 0, .int .i64 0, .int .i64 0, .bool false]) ?_ 0 _ rfl; (with_reducible repeat refine bp_ ?_); exact BK193.out) Try.underlying28 rfl (by kernel_rfl)) rfl ?_
  exact ⟨by first | rfl | (simp [errW_none, errW_some] <;> rfl) | (simp [*, errW_none, errW_some] <;> rfl), by repeat (first | (with_reducible first | exact HB.out | apply below_alloc | apply pw_below_drewN | apply below_drew1 | refine below_set ?_ GE192.out | refine below_set ?_ GE193.out) | exact HB.out)⟩

end Go.Proofs.Ytlofmgdjnaajjaa.Q

namespace Go.Proofs.Ytlofmgdjnaajjaa.Q
open Go.RowKit Go.Proofs.YtlofmgdjnaajjaaW.PrintWords Go.Proofs.YtlofmgdjnaajjaaW.PrintLast Go.Proofs.YtlofmgdjnaajjaaW.PrintMore
attribute [local go_sem] run_makeFunc_own max2_int min2_int max_two min_two max_three min_three max_four min_four   -- for this text's walks alone
set_option linter.unusedVariables false
set_option linter.unusedSimpArgs false

/-! ### monitor_Valid: function 11 -/
def monitor_Valid.f (a0_0 : Int) (a0_1 : Int) (a0_2 : Int) (a0_3 : Int) (a0_4 : Int) (a0_5 : Int) (a0_6 : Bool) : Option (Bool) := if 1 ≤ a0_4 then (if a0_4 ≤ a0_5 then (if a0_5 ≤ 1000000 then (if 1 ≤ a0_0 then (if a0_0 ≤ a0_1 then (if 0 ≤ a0_2 then (if a0_2 ≤ 1000000 then (if 0 ≤ a0_3 then (if a0_1 ≤ 1000000 then (if a0_3 ≤ 1000000 then (if a0_6 = true then (some true) else ((monitor_look.f a0_0 a0_1 a0_2 a0_3 a0_4 a0_5 a0_6).bind fun bt108 => ((monitor_view_inRange.f bt108.1 bt108.2.1 bt108.2.2.1 bt108.2.2.2.1 bt108.2.2.2.2.1 bt108.2.2.2.2.2.1 bt108.2.2.2.2.2.2.1 bt108.2.2.2.2.2.2.2.1 bt108.2.2.2.2.2.2.2.2).bind fun t117 => (some t117)))) else (some false)) else (some false)) else (if a0_1 ≤ 1000000 then (some false) else (some false))) else (if a0_1 ≤ 1000000 then (some false) else (some false))) else (if a0_1 ≤ 1000000 then (some false) else (some false))) else (if 0 ≤ a0_2 then (if a0_2 ≤ 1000000 then (if 0 ≤ a0_3 then (some false) else (some false)) else (some false)) else (some false))) else (if 0 ≤ a0_2 then (if a0_2 ≤ 1000000 then (if 0 ≤ a0_3 then (some false) else (some false)) else (some false)) else (some false))) else (if 0 ≤ a0_2 then (if a0_2 ≤ 1000000 then (if 0 ≤ a0_3 then (some false) else (some false)) else (some false)) else (some false))) else (if 0 ≤ a0_2 then (if a0_2 ≤ 1000000 then (if 0 ≤ a0_3 then (some false) else (some false)) else (some false)) else (some false))) else (if 0 ≤ a0_2 then (if a0_2 ≤ 1000000 then (if 0 ≤ a0_3 then (some false) else (some false)) else (some false)) else (some false))
set_option maxHeartbeats 8000000 in
set_option maxRecDepth 100000 in
theorem monitor_Valid.calls (a0_0 : Int) (a0_1 : Int) (a0_2 : Int) (a0_3 : Int) (a0_4 : Int) (a0_5 : Int) (a0_6 : Bool) (r : Bool) (w : World) (h : monitor_Valid.f a0_0 a0_1 a0_2 a0_3 a0_4 a0_5 a0_6 = some r) :
    Calls Try.prog 11 #[.agg #[.int .i64 a0_0, .int .i64 a0_1, .int .i64 a0_2, .int .i64 a0_3, .int .i64 a0_4, .int .i64 a0_5, .bool a0_6]] w fun e w' => e = .returned (.bool r) ∧ Below w.heap.size w w' := by
  have hu28 := Try.underlying28
  have HB := Aside0.mk (Below.refl w.heap.size w)
  have H : (if 1 ≤ a0_4 then (if a0_4 ≤ a0_5 then (if a0_5 ≤ 1000000 then (if 1 ≤ a0_0 then (if a0_0 ≤ a0_1 then (if 0 ≤ a0_2 then (if a0_2 ≤ 1000000 then (if 0 ≤ a0_3 then (if a0_1 ≤ 1000000 then (if a0_3 ≤ 1000000 then (if a0_6 = true then (some true) else ((monitor_look.f a0_0 a0_1 a0_2 a0_3 a0_4 a0_5 a0_6).bind fun bt108 => ((monitor_view_inRange.f bt108.1 bt108.2.1 bt108.2.2.1 bt108.2.2.2.1 bt108.2.2.2.2.1 bt108.2.2.2.2.2.1 bt108.2.2.2.2.2.2.1 bt108.2.2.2.2.2.2.2.1 bt108.2.2.2.2.2.2.2.2).bind fun t117 => (some t117)))) else (some false)) else (some false)) else (if a0_1 ≤ 1000000 then (some false) else (some false))) else (if a0_1 ≤ 1000000 then (some false) else (some false))) else (if a0_1 ≤ 1000000 then (some false) else (some false))) else (if 0 ≤ a0_2 then (if a0_2 ≤ 1000000 then (if 0 ≤ a0_3 then (some false) else (some false)) else (some false)) else (some false))) else (if 0 ≤ a0_2 then (if a0_2 ≤ 1000000 then (if 0 ≤ a0_3 then (some false) else (some false)) else (some false)) else (some false))) else (if 0 ≤ a0_2 then (if a0_2 ≤ 1000000 then (if 0 ≤ a0_3 then (some false) else (some false)) else (some false)) else (some false))) else (if 0 ≤ a0_2 then (if a0_2 ≤ 1000000 then (if 0 ≤ a0_3 then (some false) else (some false)) else (some false)) else (some false))) else (if 0 ≤ a0_2 then (if a0_2 ≤ 1000000 then (if 0 ≤ a0_3 then (some false) else (some false)) else (some false)) else (some false))) = some r := h
  clear h
  by_cases c2 : 1 ≤ a0_4
  · rw [if_pos c2] at H
    have c2b0 : decide (1 ≤ a0_4) = true := decide_eq_true c2
    clear c2
    by_cases c3 : a0_4 ≤ a0_5
    · rw [if_pos c3] at H
      have c3b0 : decide (a0_4 ≤ a0_5) = true := decide_eq_true c3
      clear c3
      by_cases c4 : a0_5 ≤ 1000000
      · rw [if_pos c4] at H
        have c4b0 : decide (a0_5 ≤ 1000000) = true := decide_eq_true c4
        clear c4
        by_cases c5 : 1 ≤ a0_0
        · rw [if_pos c5] at H
          have c5b0 : decide (1 ≤ a0_0) = true := decide_eq_true c5
          clear c5
          by_cases c6 : a0_0 ≤ a0_1
          · rw [if_pos c6] at H
            have c6b0 : decide (a0_0 ≤ a0_1) = true := decide_eq_true c6
            clear c6
            by_cases c7 : 0 ≤ a0_2
            · rw [if_pos c7] at H
              have c7b0 : decide (0 ≤ a0_2) = true := decide_eq_true c7
              clear c7
              by_cases c8 : a0_2 ≤ 1000000
              · rw [if_pos c8] at H
                have c8b0 : decide (a0_2 ≤ 1000000) = true := decide_eq_true c8
                clear c8
                by_cases c9 : 0 ≤ a0_3
                · rw [if_pos c9] at H
                  have c9b0 : decide (0 ≤ a0_3) = true := decide_eq_true c9
                  clear c9
                  by_cases c10 : a0_1 ≤ 1000000
                  · rw [if_pos c10] at H
                    have c10b0 : decide (a0_1 ≤ 1000000) = true := decide_eq_true c10
                    clear c10
                    by_cases c11 : a0_3 ≤ 1000000
                    · rw [if_pos c11] at H
                      have c11b0 : decide (a0_3 ≤ 1000000) = true := decide_eq_true c11
                      clear c11
                      by_cases c12 : a0_6 = true
                      · subst c12
                        have H1 : (some true) = some r := by rw [if_pos rfl] at H; exact H
                        clear H
                        have H := H1
                        clear H1
                        obtain rfl := Option.some.inj H
                        go_enter Try.func11, Try.ntmps11
                        go_wp2_with (first | ((with_reducible refine gate_dst (N := 1) rfl ?_); refine box_event ?hg (N := 1) ?hd (cs := #[.int .i64 a0_0, .int .i64 a0_1, .int .i64 a0_2, .int .i64 a0_3, .int .i64 a0_4, .int .i64 a0_5, .bool true]) (t := 28) ?hr ?_; (case hd => rfl); (case hg => rfl); (case hr => first | (go_simp; done) | (go_simp; rfl)); intro gb107 hg w13 hbox hb; have n0_ := Aside0.mk (below_step (by repeat (first | (with_reducible first | exact HB.out | apply below_alloc | apply pw_below_drewN | apply below_drew1) | exact HB.out)) hb); have n1_ := Aside0.mk (hbox); have n2_ := Aside0.mk ((by rw [hg]; exact (below_size (by repeat (first | (with_reducible first | exact HB.out | apply below_alloc | apply pw_below_drewN | apply below_drew1) | exact HB.out))) : w.heap.size ≤ gb107)); have n3_ := Aside0.mk ((by rw [hg]; exact (below_size (by repeat (first | (with_reducible first | exact HB.out | apply below_alloc | apply pw_below_drewN | apply below_drew1) | exact HB.out))) : w.heap.size ≤ gb107)); clear HB; have HB := n0_; have BK107 := n1_; have GW107 := n2_; have GE107 := n3_; clear n0_ n1_ n2_ n3_; clear hb hbox hg; have hcz14_0 : w13.cell? ⟨gb107, 0, none⟩ = some (.int .i64 a0_0) := bc BK107 0; have hcz14_1 : w13.cell? ⟨gb107, 1, none⟩ = some (.int .i64 a0_1) := bc BK107 1; have hcz14_2 : w13.cell? ⟨gb107, 2, none⟩ = some (.int .i64 a0_2) := bc BK107 2; have hcz14_3 : w13.cell? ⟨gb107, 3, none⟩ = some (.int .i64 a0_3) := bc BK107 3; have hcz14_4 : w13.cell? ⟨gb107, 4, none⟩ = some (.int .i64 a0_4) := bc BK107 4; have hcz14_5 : w13.cell? ⟨gb107, 5, none⟩ = some (.int .i64 a0_5) := bc BK107 5; have hcz14_6 : w13.cell? ⟨gb107, 6, none⟩ = some (.bool true) := bc BK107 6; have hfz14_0 := blk_frozen BK107.out 0; have hfz14_1 := blk_frozen BK107.out 1; have hfz14_2 := blk_frozen BK107.out 2; have hfz14_3 := blk_frozen BK107.out 3; have hfz14_4 := blk_frozen BK107.out 4; have hfz14_5 := blk_frozen BK107.out 5; have hfz14_6 := blk_frozen BK107.out 6))
                        go_ret
                        exact ⟨by first | rfl | (simp [errW_none, errW_some] <;> rfl) | (simp [*, errW_none, errW_some] <;> rfl), by repeat (first | (with_reducible first | exact HB.out | apply below_alloc | apply pw_below_drewN | apply below_drew1 | refine below_set ?_ GE107.out) | exact HB.out)⟩
                      · replace c12 := Bool.eq_false_iff.mpr c12
                        subst c12
                        have H1 : ((monitor_look.f a0_0 a0_1 a0_2 a0_3 a0_4 a0_5 false).bind fun bt108 => ((monitor_view_inRange.f bt108.1 bt108.2.1 bt108.2.2.1 bt108.2.2.2.1 bt108.2.2.2.2.1 bt108.2.2.2.2.2.1 bt108.2.2.2.2.2.2.1 bt108.2.2.2.2.2.2.2.1 bt108.2.2.2.2.2.2.2.2).bind fun t117 => (some t117))) = some r := by rw [if_neg (show ¬ (false = true) by decide)] at H; exact H
                        clear H
                        have H := H1
                        clear H1
                        replace H := Option.bind_eq_some_iff.mp H
                        obtain ⟨⟨t108, t109, t110, t111, t112, t113, t114, t115, t116⟩, A150, H⟩ := H
                        replace H : ((monitor_view_inRange.f t108 t109 t110 t111 t112 t113 t114 t115 t116).bind fun t117 => (some t117)) = some r := H
                        have A15 := Aside0.mk A150
                        clear A150
                        replace H := Option.bind_eq_some_iff.mp H
                        obtain ⟨t117, A160, H⟩ := H
                        replace H : (some t117) = some r := H
                        have A16 := Aside0.mk A160
                        clear A160
                        obtain rfl := Option.some.inj H
                        go_enter Try.func11, Try.ntmps11
                        go_wp2_with (first | ((with_reducible refine gate_dst (N := 1) rfl ?_); refine box_event ?hg (N := 1) ?hd (cs := #[.int .i64 a0_0, .int .i64 a0_1, .int .i64 a0_2, .int .i64 a0_3, .int .i64 a0_4, .int .i64 a0_5, .bool false]) (t := 28) ?hr ?_; (case hd => rfl); (case hg => rfl); (case hr => first | (go_simp; done) | (go_simp; rfl)); intro gb107 hg w17 hbox hb; have n0_ := Aside0.mk (below_step (by repeat (first | (with_reducible first | exact HB.out | apply below_alloc | apply pw_below_drewN | apply below_drew1) | exact HB.out)) hb); have n1_ := Aside0.mk (hbox); have n2_ := Aside0.mk ((by rw [hg]; exact (below_size (by repeat (first | (with_reducible first | exact HB.out | apply below_alloc | apply pw_below_drewN | apply below_drew1) | exact HB.out))) : w.heap.size ≤ gb107)); have n3_ := Aside0.mk ((by rw [hg]; exact (below_size (by repeat (first | (with_reducible first | exact HB.out | apply below_alloc | apply pw_below_drewN | apply below_drew1) | exact HB.out))) : w.heap.size ≤ gb107)); clear HB; have HB := n0_; have BK107 := n1_; have GW107 := n2_; have GE107 := n3_; clear n0_ n1_ n2_ n3_; clear hb hbox hg; have hcz18_0 : w17.cell? ⟨gb107, 0, none⟩ = some (.int .i64 a0_0) := bc BK107 0; have hcz18_1 : w17.cell? ⟨gb107, 1, none⟩ = some (.int .i64 a0_1) := bc BK107 1; have hcz18_2 : w17.cell? ⟨gb107, 2, none⟩ = some (.int .i64 a0_2) := bc BK107 2; have hcz18_3 : w17.cell? ⟨gb107, 3, none⟩ = some (.int .i64 a0_3) := bc BK107 3; have hcz18_4 : w17.cell? ⟨gb107, 4, none⟩ = some (.int .i64 a0_4) := bc BK107 4; have hcz18_5 : w17.cell? ⟨gb107, 5, none⟩ = some (.int .i64 a0_5) := bc BK107 5; have hcz18_6 : w17.cell? ⟨gb107, 6, none⟩ = some (.bool false) := bc BK107 6; have hfz18_0 := blk_frozen BK107.out 0; have hfz18_1 := blk_frozen BK107.out 1; have hfz18_2 := blk_frozen BK107.out 2; have hfz18_3 := blk_frozen BK107.out 3; have hfz18_4 := blk_frozen BK107.out 4; have hfz18_5 := blk_frozen BK107.out 5; have hfz18_6 := blk_frozen BK107.out 6) | (go_at_call 27; (with_reducible refine (monitor_look.calls a0_0 a0_1 a0_2 a0_3 a0_4 a0_5 false t108 t109 t110 t111 t112 t113 t114 t115 t116 _ A15.out).mono ?_); rintro e w19 ⟨rfl, hb⟩; have n0_ := bxb BK107 hb; have n1_ := Aside0.mk (below_step (bwt HB) hb); clear BK107; clear HB; have BK107 := n0_; have HB := n1_; clear n0_ n1_; (try clear hb); (try clear hb2); (try clear hk); (try clear hi)) | (go_at_call 28; (with_reducible refine (monitor_view_inRange.calls t108 t109 t110 t111 t112 t113 t114 t115 t116 t117 _ A16.out).mono ?_); rintro e w20 ⟨rfl, hb⟩; have n0_ := bxb BK107 hb; have n1_ := Aside0.mk (below_step (bwt HB) hb); clear BK107; clear HB; have BK107 := n0_; have HB := n1_; clear n0_ n1_; (try clear hb); (try clear hb2); (try clear hk); (try clear hi)))
                        go_ret
                        exact ⟨by first | rfl | (simp [errW_none, errW_some] <;> rfl) | (simp [*, errW_none, errW_some] <;> rfl), by repeat (first | (with_reducible first | exact HB.out | apply below_alloc | apply pw_below_drewN | apply below_drew1 | refine below_set ?_ GE107.out) | exact HB.out)⟩
                    · rw [if_neg c11] at H
                      have c11b0 : decide (a0_3 ≤ 1000000) = false := decide_eq_false c11
                      clear c11
                      obtain rfl := Option.some.inj H
                      go_enter Try.func11, Try.ntmps11
                      go_wp2_with (first | ((with_reducible refine gate_dst (N := 1) rfl ?_); refine box_event ?hg (N := 1) ?hd (cs := #[.int .i64 a0_0, .int .i64 a0_1, .int .i64 a0_2, .int .i64 a0_3, .int .i64 a0_4, .int .i64 a0_5, .bool a0_6]) (t := 28) ?hr ?_; (case hd => rfl); (case hg => rfl); (case hr => first | (go_simp; done) | (go_simp; rfl)); intro gb107 hg w21 hbox hb; have n0_ := Aside0.mk (below_step (by repeat (first | (with_reducible first | exact HB.out | apply below_alloc | apply pw_below_drewN | apply below_drew1) | exact HB.out)) hb); have n1_ := Aside0.mk (hbox); have n2_ := Aside0.mk ((by rw [hg]; exact (below_size (by repeat (first | (with_reducible first | exact HB.out | apply below_alloc | apply pw_below_drewN | apply below_drew1) | exact HB.out))) : w.heap.size ≤ gb107)); have n3_ := Aside0.mk ((by rw [hg]; exact (below_size (by repeat (first | (with_reducible first | exact HB.out | apply below_alloc | apply pw_below_drewN | apply below_drew1) | exact HB.out))) : w.heap.size ≤ gb107)); clear HB; have HB := n0_; have BK107 := n1_; have GW107 := n2_; have GE107 := n3_; clear n0_ n1_ n2_ n3_; clear hb hbox hg; have hcz22_0 : w21.cell? ⟨gb107, 0, none⟩ = some (.int .i64 a0_0) := bc BK107 0; have hcz22_1 : w21.cell? ⟨gb107, 1, none⟩ = some (.int .i64 a0_1) := bc BK107 1; have hcz22_2 : w21.cell? ⟨gb107, 2, none⟩ = some (.int .i64 a0_2) := bc BK107 2; have hcz22_3 : w21.cell? ⟨gb107, 3, none⟩ = some (.int .i64 a0_3) := bc BK107 3; have hcz22_4 : w21.cell? ⟨gb107, 4, none⟩ = some (.int .i64 a0_4) := bc BK107 4; have hcz22_5 : w21.cell? ⟨gb107, 5, none⟩ = some (.int .i64 a0_5) := bc BK107 5; have hcz22_6 : w21.cell? ⟨gb107, 6, none⟩ = some (.bool a0_6) := bc BK107 6; have hfz22_0 := blk_frozen BK107.out 0; have hfz22_1 := blk_frozen BK107.out 1; have hfz22_2 := blk_frozen BK107.out 2; have hfz22_3 := blk_frozen BK107.out 3; have hfz22_4 := blk_frozen BK107.out 4; have hfz22_5 := blk_frozen BK107.out 5; have hfz22_6 := blk_frozen BK107.out 6))
                      go_ret
                      exact ⟨by first | rfl | (simp [errW_none, errW_some] <;> rfl) | (simp [*, errW_none, errW_some] <;> rfl), by repeat (first | (with_reducible first | exact HB.out | apply below_alloc | apply pw_below_drewN | apply below_drew1 | refine below_set ?_ GE107.out) | exact HB.out)⟩
                  · rw [if_neg c10] at H
                    have c10b0 : decide (a0_1 ≤ 1000000) = false := decide_eq_false c10
                    clear c10
                    obtain rfl := Option.some.inj H
                    go_enter Try.func11, Try.ntmps11
                    go_wp2_with (first | ((with_reducible refine gate_dst (N := 1) rfl ?_); refine box_event ?hg (N := 1) ?hd (cs := #[.int .i64 a0_0, .int .i64 a0_1, .int .i64 a0_2, .int .i64 a0_3, .int .i64 a0_4, .int .i64 a0_5, .bool a0_6]) (t := 28) ?hr ?_; (case hd => rfl); (case hg => rfl); (case hr => first | (go_simp; done) | (go_simp; rfl)); intro gb107 hg w23 hbox hb; have n0_ := Aside0.mk (below_step (by repeat (first | (with_reducible first | exact HB.out | apply below_alloc | apply pw_below_drewN | apply below_drew1) | exact HB.out)) hb); have n1_ := Aside0.mk (hbox); have n2_ := Aside0.mk ((by rw [hg]; exact (below_size (by repeat (first | (with_reducible first | exact HB.out | apply below_alloc | apply pw_below_drewN | apply below_drew1) | exact HB.out))) : w.heap.size ≤ gb107)); have n3_ := Aside0.mk ((by rw [hg]; exact (below_size (by repeat (first | (with_reducible first | exact HB.out | apply below_alloc | apply pw_below_drewN | apply below_drew1) | exact HB.out))) : w.heap.size ≤ gb107)); clear HB; have HB := n0_; have BK107 := n1_; have GW107 := n2_; have GE107 := n3_; clear n0_ n1_ n2_ n3_; clear hb hbox hg; have hcz24_0 : w23.cell? ⟨gb107, 0, none⟩ = some (.int .i64 a0_0) := bc BK107 0; have hcz24_1 : w23.cell? ⟨gb107, 1, none⟩ = some (.int .i64 a0_1) := bc BK107 1; have hcz24_2 : w23.cell? ⟨gb107, 2, none⟩ = some (.int .i64 a0_2) := bc BK107 2; have hcz24_3 : w23.cell? ⟨gb107, 3, none⟩ = some (.int .i64 a0_3) := bc BK107 3; have hcz24_4 : w23.cell? ⟨gb107, 4, none⟩ = some (.int .i64 a0_4) := bc BK107 4; have hcz24_5 : w23.cell? ⟨gb107, 5, none⟩ = some (.int .i64 a0_5) := bc BK107 5; have hcz24_6 : w23.cell? ⟨gb107, 6, none⟩ = some (.bool a0_6) := bc BK107 6; have hfz24_0 := blk_frozen BK107.out 0; have hfz24_1 := blk_frozen BK107.out 1; have hfz24_2 := blk_frozen BK107.out 2; have hfz24_3 := blk_frozen BK107.out 3; have hfz24_4 := blk_frozen BK107.out 4; have hfz24_5 := blk_frozen BK107.out 5; have hfz24_6 := blk_frozen BK107.out 6))
                    go_ret
                    exact ⟨by first | rfl | (simp [errW_none, errW_some] <;> rfl) | (simp [*, errW_none, errW_some] <;> rfl), by repeat (first | (with_reducible first | exact HB.out | apply below_alloc | apply pw_below_drewN | apply below_drew1 | refine below_set ?_ GE107.out) | exact HB.out)⟩
                · rw [if_neg c9] at H
                  have c9b0 : decide (0 ≤ a0_3) = false := decide_eq_false c9
                  clear c9
                  by_cases c25 : a0_1 ≤ 1000000
                  · rw [if_pos c25] at H
                    have c25b0 : decide (a0_1 ≤ 1000000) = true := decide_eq_true c25
                    clear c25
                    obtain rfl := Option.some.inj H
                    go_enter Try.func11, Try.ntmps11
                    go_wp2_with (first | ((with_reducible refine gate_dst (N := 1) rfl ?_); refine box_event ?hg (N := 1) ?hd (cs := #[.int .i64 a0_0, .int .i64 a0_1, .int .i64 a0_2, .int .i64 a0_3, .int .i64 a0_4, .int .i64 a0_5, .bool a0_6]) (t := 28) ?hr ?_; (case hd => rfl); (case hg => rfl); (case hr => first | (go_simp; done) | (go_simp; rfl)); intro gb107 hg w26 hbox hb; have n0_ := Aside0.mk (below_step (by repeat (first | (with_reducible first | exact HB.out | apply below_alloc | apply pw_below_drewN | apply below_drew1) | exact HB.out)) hb); have n1_ := Aside0.mk (hbox); have n2_ := Aside0.mk ((by rw [hg]; exact (below_size (by repeat (first | (with_reducible first | exact HB.out | apply below_alloc | apply pw_below_drewN | apply below_drew1) | exact HB.out))) : w.heap.size ≤ gb107)); have n3_ := Aside0.mk ((by rw [hg]; exact (below_size (by repeat (first | (with_reducible first | exact HB.out | apply below_alloc | apply pw_below_drewN | apply below_drew1) | exact HB.out))) : w.heap.size ≤ gb107)); clear HB; have HB := n0_; have BK107 := n1_; have GW107 := n2_; have GE107 := n3_; clear n0_ n1_ n2_ n3_; clear hb hbox hg; have hcz27_0 : w26.cell? ⟨gb107, 0, none⟩ = some (.int .i64 a0_0) := bc BK107 0; have hcz27_1 : w26.cell? ⟨gb107, 1, none⟩ = some (.int .i64 a0_1) := bc BK107 1; have hcz27_2 : w26.cell? ⟨gb107, 2, none⟩ = some (.int .i64 a0_2) := bc BK107 2; have hcz27_3 : w26.cell? ⟨gb107, 3, none⟩ = some (.int .i64 a0_3) := bc BK107 3; have hcz27_4 : w26.cell? ⟨gb107, 4, none⟩ = some (.int .i64 a0_4) := bc BK107 4; have hcz27_5 : w26.cell? ⟨gb107, 5, none⟩ = some (.int .i64 a0_5) := bc BK107 5; have hcz27_6 : w26.cell? ⟨gb107, 6, none⟩ = some (.bool a0_6) := bc BK107 6; have hfz27_0 := blk_frozen BK107.out 0; have hfz27_1 := blk_frozen BK107.out 1; have hfz27_2 := blk_frozen BK107.out 2; have hfz27_3 := blk_frozen BK107.out 3; have hfz27_4 := blk_frozen BK107.out 4; have hfz27_5 := blk_frozen BK107.out 5; have hfz27_6 := blk_frozen BK107.out 6))
                    go_ret
                    exact ⟨by first | rfl | (simp [errW_none, errW_some] <;> rfl) | (simp [*, errW_none, errW_some] <;> rfl), by repeat (first | (with_reducible first | exact HB.out | apply below_alloc | apply pw_below_drewN | apply below_drew1 | refine below_set ?_ GE107.out) | exact HB.out)⟩
                  · rw [if_neg c25] at H
                    have c25b0 : decide (a0_1 ≤ 1000000) = false := decide_eq_false c25
                    clear c25
                    obtain rfl := Option.some.inj H
                    go_enter Try.func11, Try.ntmps11
                    go_wp2_with (first | ((with_reducible refine gate_dst (N := 1) rfl ?_); refine box_event ?hg (N := 1) ?hd (cs := #[.int .i64 a0_0, .int .i64 a0_1, .int .i64 a0_2, .int .i64 a0_3, .int .i64 a0_4, .int .i64 a0_5, .bool a0_6]) (t := 28) ?hr ?_; (case hd => rfl); (case hg => rfl); (case hr => first | (go_simp; done) | (go_simp; rfl)); intro gb107 hg w28 hbox hb; have n0_ := Aside0.mk (below_step (by repeat (first | (with_reducible first | exact HB.out | apply below_alloc | apply pw_below_drewN | apply below_drew1) | exact HB.out)) hb); have n1_ := Aside0.mk (hbox); have n2_ := Aside0.mk ((by rw [hg]; exact (below_size (by repeat (first | (with_reducible first | exact HB.out | apply below_alloc | apply pw_below_drewN | apply below_drew1) | exact HB.out))) : w.heap.size ≤ gb107)); have n3_ := Aside0.mk ((by rw [hg]; exact (below_size (by repeat (first | (with_reducible first | exact HB.out | apply below_alloc | apply pw_below_drewN | apply below_drew1) | exact HB.out))) : w.heap.size ≤ gb107)); clear HB; have HB := n0_; have BK107 := n1_; have GW107 := n2_; have GE107 := n3_; clear n0_ n1_ n2_ n3_; clear hb hbox hg; have hcz29_0 : w28.cell? ⟨gb107, 0, none⟩ = some (.int .i64 a0_0) := bc BK107 0; have hcz29_1 : w28.cell? ⟨gb107, 1, none⟩ = some (.int .i64 a0_1) := bc BK107 1; have hcz29_2 : w28.cell? ⟨gb107, 2, none⟩ = some (.int .i64 a0_2) := bc BK107 2; have hcz29_3 : w28.cell? ⟨gb107, 3, none⟩ = some (.int .i64 a0_3) := bc BK107 3; have hcz29_4 : w28.cell? ⟨gb107, 4, none⟩ = some (.int .i64 a0_4) := bc BK107 4; have hcz29_5 : w28.cell? ⟨gb107, 5, none⟩ = some (.int .i64 a0_5) := bc BK107 5; have hcz29_6 : w28.cell? ⟨gb107, 6, none⟩ = some (.bool a0_6) := bc BK107 6; have hfz29_0 := blk_frozen BK107.out 0; have hfz29_1 := blk_frozen BK107.out 1; have hfz29_2 := blk_frozen BK107.out 2; have hfz29_3 := blk_frozen BK107.out 3; have hfz29_4 := blk_frozen BK107.out 4; have hfz29_5 := blk_frozen BK107.out 5; have hfz29_6 := blk_frozen BK107.out 6))
                    go_ret
                    exact ⟨by first | rfl | (simp [errW_none, errW_some] <;> rfl) | (simp [*, errW_none, errW_some] <;> rfl), by repeat (first | (with_reducible first | exact HB.out | apply below_alloc | apply pw_below_drewN | apply below_drew1 | refine below_set ?_ GE107.out) | exact HB.out)⟩
              · rw [if_neg c8] at H
                have c8b0 : decide (a0_2 ≤ 1000000) = false := decide_eq_false c8
                clear c8
                by_cases c30 : a0_1 ≤ 1000000
                · rw [if_pos c30] at H
                  have c30b0 : decide (a0_1 ≤ 1000000) = true := decide_eq_true c30
                  clear c30
                  obtain rfl := Option.some.inj H
                  go_enter Try.func11, Try.ntmps11
                  go_wp2_with (first | ((with_reducible refine gate_dst (N := 1) rfl ?_); refine box_event ?hg (N := 1) ?hd (cs := #[.int .i64 a0_0, .int .i64 a0_1, .int .i64 a0_2, .int .i64 a0_3, .int .i64 a0_4, .int .i64 a0_5, .bool a0_6]) (t := 28) ?hr ?_; (case hd => rfl); (case hg => rfl); (case hr => first | (go_simp; done) | (go_simp; rfl)); intro gb107 hg w31 hbox hb; have n0_ := Aside0.mk (below_step (by repeat (first | (with_reducible first | exact HB.out | apply below_alloc | apply pw_below_drewN | apply below_drew1) | exact HB.out)) hb); have n1_ := Aside0.mk (hbox); have n2_ := Aside0.mk ((by rw [hg]; exact (below_size (by repeat (first | (with_reducible first | exact HB.out | apply below_alloc | apply pw_below_drewN | apply below_drew1) | exact HB.out))) : w.heap.size ≤ gb107)); have n3_ := Aside0.mk ((by rw [hg]; exact (below_size (by repeat (first | (with_reducible first | exact HB.out | apply below_alloc | apply pw_below_drewN | apply below_drew1) | exact HB.out))) : w.heap.size ≤ gb107)); clear HB; have HB := n0_; have BK107 := n1_; have GW107 := n2_; have GE107 := n3_; clear n0_ n1_ n2_ n3_; clear hb hbox hg; have hcz32_0 : w31.cell? ⟨gb107, 0, none⟩ = some (.int .i64 a0_0) := bc BK107 0; have hcz32_1 : w31.cell? ⟨gb107, 1, none⟩ = some (.int .i64 a0_1) := bc BK107 1; have hcz32_2 : w31.cell? ⟨gb107, 2, none⟩ = some (.int .i64 a0_2) := bc BK107 2; have hcz32_3 : w31.cell? ⟨gb107, 3, none⟩ = some (.int .i64 a0_3) := bc BK107 3; have hcz32_4 : w31.cell? ⟨gb107, 4, none⟩ = some (.int .i64 a0_4) := bc BK107 4; have hcz32_5 : w31.cell? ⟨gb107, 5, none⟩ = some (.int .i64 a0_5) := bc BK107 5; have hcz32_6 : w31.cell? ⟨gb107, 6, none⟩ = some (.bool a0_6) := bc BK107 6; have hfz32_0 := blk_frozen BK107.out 0; have hfz32_1 := blk_frozen BK107.out 1; have hfz32_2 := blk_frozen BK107.out 2; have hfz32_3 := blk_frozen BK107.out 3; have hfz32_4 := blk_frozen BK107.out 4; have hfz32_5 := blk_frozen BK107.out 5; have hfz32_6 := blk_frozen BK107.out 6))
                  go_ret
                  exact ⟨by first | rfl | (simp [errW_none, errW_some] <;> rfl) | (simp [*, errW_none, errW_some] <;> rfl), by repeat (first | (with_reducible first | exact HB.out | apply below_alloc | apply pw_below_drewN | apply below_drew1 | refine below_set ?_ GE107.out) | exact HB.out)⟩
                · rw [if_neg c30] at H
                  have c30b0 : decide (a0_1 ≤ 1000000) = false := decide_eq_false c30
                  clear c30
                  obtain rfl := Option.some.inj H
                  go_enter Try.func11, Try.ntmps11
                  go_wp2_with (first | ((with_reducible refine gate_dst (N := 1) rfl ?_); refine box_event ?hg (N := 1) ?hd (cs := #[.int .i64 a0_0, .int .i64 a0_1, .int .i64 a0_2, .int .i64 a0_3, .int .i64 a0_4, .int .i64 a0_5, .bool a0_6]) (t := 28) ?hr ?_; (case hd => rfl); (case hg => rfl); (case hr => first | (go_simp; done) | (go_simp; rfl)); intro gb107 hg w33 hbox hb; have n0_ := Aside0.mk (below_step (by repeat (first | (with_reducible first | exact HB.out | apply below_alloc | apply pw_below_drewN | apply below_drew1) | exact HB.out)) hb); have n1_ := Aside0.mk (hbox); have n2_ := Aside0.mk ((by rw [hg]; exact (below_size (by repeat (first | (with_reducible first | exact HB.out | apply below_alloc | apply pw_below_drewN | apply below_drew1) | exact HB.out))) : w.heap.size ≤ gb107)); have n3_ := Aside0.mk ((by rw [hg]; exact (below_size (by repeat (first | (with_reducible first | exact HB.out | apply below_alloc | apply pw_below_drewN | apply below_drew1) | exact HB.out))) : w.heap.size ≤ gb107)); clear HB; have HB := n0_; have BK107 := n1_; have GW107 := n2_; have GE107 := n3_; clear n0_ n1_ n2_ n3_; clear hb hbox hg; have hcz34_0 : w33.cell? ⟨gb107, 0, none⟩ = some (.int .i64 a0_0) := bc BK107 0; have hcz34_1 : w33.cell? ⟨gb107, 1, none⟩ = some (.int .i64 a0_1) := bc BK107 1; have hcz34_2 : w33.cell? ⟨gb107, 2, none⟩ = some (.int .i64 a0_2) := bc BK107 2; have hcz34_3 : w33.cell? ⟨gb107, 3, none⟩ = some (.int .i64 a0_3) := bc BK107 3; have hcz34_4 : w33.cell? ⟨gb107, 4, none⟩ = some (.int .i64 a0_4) := bc BK107 4; have hcz34_5 : w33.cell? ⟨gb107, 5, none⟩ = some (.int .i64 a0_5) := bc BK107 5; have hcz34_6 : w33.cell? ⟨gb107, 6, none⟩ = some (.bool a0_6) := bc BK107 6; have hfz34_0 := blk_frozen BK107.out 0; have hfz34_1 := blk_frozen BK107.out 1; have hfz34_2 := blk_frozen BK107.out 2; have hfz34_3 := blk_frozen BK107.out 3; have hfz34_4 := blk_frozen BK107.out 4; have hfz34_5 := blk_frozen BK107.out 5; have hfz34_6 := blk_frozen BK107.out 6))
                  go_ret
                  exact ⟨by first | rfl | (simp [errW_none, errW_some] <;> rfl) | (simp [*, errW_none, errW_some] <;> rfl), by repeat (first | (with_reducible first | exact HB.out | apply below_alloc | apply pw_below_drewN | apply below_drew1 | refine below_set ?_ GE107.out) | exact HB.out)⟩
            · rw [if_neg c7] at H
              have c7b0 : decide (0 ≤ a0_2) = false := decide_eq_false c7
              clear c7
              by_cases c35 : a0_1 ≤ 1000000
              · rw [if_pos c35] at H
                have c35b0 : decide (a0_1 ≤ 1000000) = true := decide_eq_true c35
                clear c35
                obtain rfl := Option.some.inj H
                go_enter Try.func11, Try.ntmps11
                go_wp2_with (first | ((with_reducible refine gate_dst (N := 1) rfl ?_); refine box_event ?hg (N := 1) ?hd (cs := #[.int .i64 a0_0, .int .i64 a0_1, .int .i64 a0_2, .int .i64 a0_3, .int .i64 a0_4, .int .i64 a0_5, .bool a0_6]) (t := 28) ?hr ?_; (case hd => rfl); (case hg => rfl); (case hr => first | (go_simp; done) | (go_simp; rfl)); intro gb107 hg w36 hbox hb; have n0_ := Aside0.mk (below_step (by repeat (first | (with_reducible first | exact HB.out | apply below_alloc | apply pw_below_drewN | apply below_drew1) | exact HB.out)) hb); have n1_ := Aside0.mk (hbox); have n2_ := Aside0.mk ((by rw [hg]; exact (below_size (by repeat (first | (with_reducible first | exact HB.out | apply below_alloc | apply pw_below_drewN | apply below_drew1) | exact HB.out))) : w.heap.size ≤ gb107)); have n3_ := Aside0.mk ((by rw [hg]; exact (below_size (by repeat (first | (with_reducible first | exact HB.out | apply below_alloc | apply pw_below_drewN | apply below_drew1) | exact HB.out))) : w.heap.size ≤ gb107)); clear HB; have HB := n0_; have BK107 := n1_; have GW107 := n2_; have GE107 := n3_; clear n0_ n1_ n2_ n3_; clear hb hbox hg; have hcz37_0 : w36.cell? ⟨gb107, 0, none⟩ = some (.int .i64 a0_0) := bc BK107 0; have hcz37_1 : w36.cell? ⟨gb107, 1, none⟩ = some (.int .i64 a0_1) := bc BK107 1; have hcz37_2 : w36.cell? ⟨gb107, 2, none⟩ = some (.int .i64 a0_2) := bc BK107 2; have hcz37_3 : w36.cell? ⟨gb107, 3, none⟩ = some (.int .i64 a0_3) := bc BK107 3; have hcz37_4 : w36.cell? ⟨gb107, 4, none⟩ = some (.int .i64 a0_4) := bc BK107 4; have hcz37_5 : w36.cell? ⟨gb107, 5, none⟩ = some (.int .i64 a0_5) := bc BK107 5; have hcz37_6 : w36.cell? ⟨gb107, 6, none⟩ = some (.bool a0_6) := bc BK107 6; have hfz37_0 := blk_frozen BK107.out 0; have hfz37_1 := blk_frozen BK107.out 1; have hfz37_2 := blk_frozen BK107.out 2; have hfz37_3 := blk_frozen BK107.out 3; have hfz37_4 := blk_frozen BK107.out 4; have hfz37_5 := blk_frozen BK107.out 5; have hfz37_6 := blk_frozen BK107.out 6))
                go_ret
                exact ⟨by first | rfl | (simp [errW_none, errW_some] <;> rfl) | (simp [*, errW_none, errW_some] <;> rfl), by repeat (first | (with_reducible first | exact HB.out | apply below_alloc | apply pw_below_drewN | apply below_drew1 | refine below_set ?_ GE107.out) | exact HB.out)⟩
              · rw [if_neg c35] at H
                have c35b0 : decide (a0_1 ≤ 1000000) = false := decide_eq_false c35
                clear c35
                obtain rfl := Option.some.inj H
                go_enter Try.func11, Try.ntmps11
                go_wp2_with (first | ((with_reducible refine gate_dst (N := 1) rfl ?_); refine box_event ?hg (N := 1) ?hd (cs := #[.int .i64 a0_0, .int .i64 a0_1, .int .i64 a0_2, .int .i64 a0_3, .int .i64 a0_4, .int .i64 a0_5, .bool a0_6]) (t := 28) ?hr ?_; (case hd => rfl); (case hg => rfl); (case hr => first | (go_simp; done) | (go_simp; rfl)); intro gb107 hg w38 hbox hb; have n0_ := Aside0.mk (below_step (by repeat (first | (with_reducible first | exact HB.out | apply below_alloc | apply pw_below_drewN | apply below_drew1) | exact HB.out)) hb); have n1_ := Aside0.mk (hbox); have n2_ := Aside0.mk ((by rw [hg]; exact (below_size (by repeat (first | (with_reducible first | exact HB.out | apply below_alloc | apply pw_below_drewN | apply below_drew1) | exact HB.out))) : w.heap.size ≤ gb107)); have n3_ := Aside0.mk ((by rw [hg]; exact (below_size (by repeat (first | (with_reducible first | exact HB.out | apply below_alloc | apply pw_below_drewN | apply below_drew1) | exact HB.out))) : w.heap.size ≤ gb107)); clear HB; have HB := n0_; have BK107 := n1_; have GW107 := n2_; have GE107 := n3_; clear n0_ n1_ n2_ n3_; clear hb hbox hg; have hcz39_0 : w38.cell? ⟨gb107, 0, none⟩ = some (.int .i64 a0_0) := bc BK107 0; have hcz39_1 : w38.cell? ⟨gb107, 1, none⟩ = some (.int .i64 a0_1) := bc BK107 1; have hcz39_2 : w38.cell? ⟨gb107, 2, none⟩ = some (.int .i64 a0_2) := bc BK107 2; have hcz39_3 : w38.cell? ⟨gb107, 3, none⟩ = some (.int .i64 a0_3) := bc BK107 3; have hcz39_4 : w38.cell? ⟨gb107, 4, none⟩ = some (.int .i64 a0_4) := bc BK107 4; have hcz39_5 : w38.cell? ⟨gb107, 5, none⟩ = some (.int .i64 a0_5) := bc BK107 5; have hcz39_6 : w38.cell? ⟨gb107, 6, none⟩ = some (.bool a0_6) := bc BK107 6; have hfz39_0 := blk_frozen BK107.out 0; have hfz39_1 := blk_frozen BK107.out 1; have hfz39_2 := blk_frozen BK107.out 2; have hfz39_3 := blk_frozen BK107.out 3; have hfz39_4 := blk_frozen BK107.out 4; have hfz39_5 := blk_frozen BK107.out 5; have hfz39_6 := blk_frozen BK107.out 6))
                go_ret
                exact ⟨by first | rfl | (simp [errW_none, errW_some] <;> rfl) | (simp [*, errW_none, errW_some] <;> rfl), by repeat (first | (with_reducible first | exact HB.out | apply below_alloc | apply pw_below_drewN | apply below_drew1 | refine below_set ?_ GE107.out) | exact HB.out)⟩
          · rw [if_neg c6] at H
            have c6b0 : decide (a0_0 ≤ a0_1) = false := decide_eq_false c6
            clear c6
            by_cases c40 : 0 ≤ a0_2
            · rw [if_pos c40] at H
              have c40b0 : decide (0 ≤ a0_2) = true := decide_eq_true c40
              clear c40
              by_cases c41 : a0_2 ≤ 1000000
              · rw [if_pos c41] at H
                have c41b0 : decide (a0_2 ≤ 1000000) = true := decide_eq_true c41
                clear c41
                by_cases c42 : 0 ≤ a0_3
                · rw [if_pos c42] at H
                  have c42b0 : decide (0 ≤ a0_3) = true := decide_eq_true c42
                  clear c42
                  obtain rfl := Option.some.inj H
                  go_enter Try.func11, Try.ntmps11
                  go_wp2_with (first | ((with_reducible refine gate_dst (N := 1) rfl ?_); refine box_event ?hg (N := 1) ?hd (cs := #[.int .i64 a0_0, .int .i64 a0_1, .int .i64 a0_2, .int .i64 a0_3, .int .i64 a0_4, .int .i64 a0_5, .bool a0_6]) (t := 28) ?hr ?_; (case hd => rfl); (case hg => rfl); (case hr => first | (go_simp; done) | (go_simp; rfl)); intro gb107 hg w43 hbox hb; have n0_ := Aside0.mk (below_step (by repeat (first | (with_reducible first | exact HB.out | apply below_alloc | apply pw_below_drewN | apply below_drew1) | exact HB.out)) hb); have n1_ := Aside0.mk (hbox); have n2_ := Aside0.mk ((by rw [hg]; exact (below_size (by repeat (first | (with_reducible first | exact HB.out | apply below_alloc | apply pw_below_drewN | apply below_drew1) | exact HB.out))) : w.heap.size ≤ gb107)); have n3_ := Aside0.mk ((by rw [hg]; exact (below_size (by repeat (first | (with_reducible first | exact HB.out | apply below_alloc | apply pw_below_drewN | apply below_drew1) | exact HB.out))) : w.heap.size ≤ gb107)); clear HB; have HB := n0_; have BK107 := n1_; have GW107 := n2_; have GE107 := n3_; clear n0_ n1_ n2_ n3_; clear hb hbox hg; have hcz44_0 : w43.cell? ⟨gb107, 0, none⟩ = some (.int .i64 a0_0) := bc BK107 0; have hcz44_1 : w43.cell? ⟨gb107, 1, none⟩ = some (.int .i64 a0_1) := bc BK107 1; have hcz44_2 : w43.cell? ⟨gb107, 2, none⟩ = some (.int .i64 a0_2) := bc BK107 2; have hcz44_3 : w43.cell? ⟨gb107, 3, none⟩ = some (.int .i64 a0_3) := bc BK107 3; have hcz44_4 : w43.cell? ⟨gb107, 4, none⟩ = some (.int .i64 a0_4) := bc BK107 4; have hcz44_5 : w43.cell? ⟨gb107, 5, none⟩ = some (.int .i64 a0_5) := bc BK107 5; have hcz44_6 : w43.cell? ⟨gb107, 6, none⟩ = some (.bool a0_6) := bc BK107 6; have hfz44_0 := blk_frozen BK107.out 0; have hfz44_1 := blk_frozen BK107.out 1; have hfz44_2 := blk_frozen BK107.out 2; have hfz44_3 := blk_frozen BK107.out 3; have hfz44_4 := blk_frozen BK107.out 4; have hfz44_5 := blk_frozen BK107.out 5; have hfz44_6 := blk_frozen BK107.out 6))
                  go_ret
                  exact ⟨by first | rfl | (simp [errW_none, errW_some] <;> rfl) | (simp [*, errW_none, errW_some] <;> rfl), by repeat (first | (with_reducible first | exact HB.out | apply below_alloc | apply pw_below_drewN | apply below_drew1 | refine below_set ?_ GE107.out) | exact HB.out)⟩
                · rw [if_neg c42] at H
                  have c42b0 : decide (0 ≤ a0_3) = false := decide_eq_false c42
                  clear c42
                  obtain rfl := Option.some.inj H
                  go_enter Try.func11, Try.ntmps11
                  go_wp2_with (first | ((with_reducible refine gate_dst (N := 1) rfl ?_); refine box_event ?hg (N := 1) ?hd (cs := #[.int .i64 a0_0, .int .i64 a0_1, .int .i64 a0_2, .int .i64 a0_3, .int .i64 a0_4, .int .i64 a0_5, .bool a0_6]) (t := 28) ?hr ?_; (case hd => rfl); (case hg => rfl); (case hr => first | (go_simp; done) | (go_simp; rfl)); intro gb107 hg w45 hbox hb; have n0_ := Aside0.mk (below_step (by repeat (first | (with_reducible first | exact HB.out | apply below_alloc | apply pw_below_drewN | apply below_drew1) | exact HB.out)) hb); have n1_ := Aside0.mk (hbox); have n2_ := Aside0.mk ((by rw [hg]; exact (below_size (by repeat (first | (with_reducible first | exact HB.out | apply below_alloc | apply pw_below_drewN | apply below_drew1) | exact HB.out))) : w.heap.size ≤ gb107)); have n3_ := Aside0.mk ((by rw [hg]; exact (below_size (by repeat (first | (with_reducible first | exact HB.out | apply below_alloc | apply pw_below_drewN | apply below_drew1) | exact HB.out))) : w.heap.size ≤ gb107)); clear HB; have HB := n0_; have BK107 := n1_; have GW107 := n2_; have GE107 := n3_; clear n0_ n1_ n2_ n3_; clear hb hbox hg; have hcz46_0 : w45.cell? ⟨gb107, 0, none⟩ = some (.int .i64 a0_0) := bc BK107 0; have hcz46_1 : w45.cell? ⟨gb107, 1, none⟩ = some (.int .i64 a0_1) := bc BK107 1; have hcz46_2 : w45.cell? ⟨gb107, 2, none⟩ = some (.int .i64 a0_2) := bc BK107 2; have hcz46_3 : w45.cell? ⟨gb107, 3, none⟩ = some (.int .i64 a0_3) := bc BK107 3; have hcz46_4 : w45.cell? ⟨gb107, 4, none⟩ = some (.int .i64 a0_4) := bc BK107 4; have hcz46_5 : w45.cell? ⟨gb107, 5, none⟩ = some (.int .i64 a0_5) := bc BK107 5; have hcz46_6 : w45.cell? ⟨gb107, 6, none⟩ = some (.bool a0_6) := bc BK107 6; have hfz46_0 := blk_frozen BK107.out 0; have hfz46_1 := blk_frozen BK107.out 1; have hfz46_2 := blk_frozen BK107.out 2; have hfz46_3 := blk_frozen BK107.out 3; have hfz46_4 := blk_frozen BK107.out 4; have hfz46_5 := blk_frozen BK107.out 5; have hfz46_6 := blk_frozen BK107.out 6))
                  go_ret
                  exact ⟨by first | rfl | (simp [errW_none, errW_some] <;> rfl) | (simp [*, errW_none, errW_some] <;> rfl), by repeat (first | (with_reducible first | exact HB.out | apply below_alloc | apply pw_below_drewN | apply below_drew1 | refine below_set ?_ GE107.out) | exact HB.out)⟩
              · rw [if_neg c41] at H
                have c41b0 : decide (a0_2 ≤ 1000000) = false := decide_eq_false c41
                clear c41
                obtain rfl := Option.some.inj H
                go_enter Try.func11, Try.ntmps11
                go_wp2_with (first | ((with_reducible refine gate_dst (N := 1) rfl ?_); refine box_event ?hg (N := 1) ?hd (cs := #[.int .i64 a0_0, .int .i64 a0_1, .int .i64 a0_2, .int .i64 a0_3, .int .i64 a0_4, .int .i64 a0_5, .bool a0_6]) (t := 28) ?hr ?_; (case hd => rfl); (case hg => rfl); (case hr => first | (go_simp; done) | (go_simp; rfl)); intro gb107 hg w47 hbox hb; have n0_ := Aside0.mk (below_step (by repeat (first | (with_reducible first | exact HB.out | apply below_alloc | apply pw_below_drewN | apply below_drew1) | exact HB.out)) hb); have n1_ := Aside0.mk (hbox); have n2_ := Aside0.mk ((by rw [hg]; exact (below_size (by repeat (first | (with_reducible first | exact HB.out | apply below_alloc | apply pw_below_drewN | apply below_drew1) | exact HB.out))) : w.heap.size ≤ gb107)); have n3_ := Aside0.mk ((by rw [hg]; exact (below_size (by repeat (first | (with_reducible first | exact HB.out | apply below_alloc | apply pw_below_drewN | apply below_drew1) | exact HB.out))) : w.heap.size ≤ gb107)); clear HB; have HB := n0_; have BK107 := n1_; have GW107 := n2_; have GE107 := n3_; clear n0_ n1_ n2_ n3_; clear hb hbox hg; have hcz48_0 : w47.cell? ⟨gb107, 0, none⟩ = some (.int .i64 a0_0) := bc BK107 0; have hcz48_1 : w47.cell? ⟨gb107, 1, none⟩ = some (.int .i64 a0_1) := bc BK107 1; have hcz48_2 : w47.cell? ⟨gb107, 2, none⟩ = some (.int .i64 a0_2) := bc BK107 2; have hcz48_3 : w47.cell? ⟨gb107, 3, none⟩ = some (.int .i64 a0_3) := bc BK107 3; have hcz48_4 : w47.cell? ⟨gb107, 4, none⟩ = some (.int .i64 a0_4) := bc BK107 4; have hcz48_5 : w47.cell? ⟨gb107, 5, none⟩ = some (.int .i64 a0_5) := bc BK107 5; have hcz48_6 : w47.cell? ⟨gb107, 6, none⟩ = some (.bool a0_6) := bc BK107 6; have hfz48_0 := blk_frozen BK107.out 0; have hfz48_1 := blk_frozen BK107.out 1; have hfz48_2 := blk_frozen BK107.out 2; have hfz48_3 := blk_frozen BK107.out 3; have hfz48_4 := blk_frozen BK107.out 4; have hfz48_5 := blk_frozen BK107.out 5; have hfz48_6 := blk_frozen BK107.out 6))
                go_ret
                exact ⟨by first | rfl | (simp [errW_none, errW_some] <;> rfl) | (simp [*, errW_none, errW_some] <;> rfl), by repeat (first | (with_reducible first | exact HB.out | apply below_alloc | apply pw_below_drewN | apply below_drew1 | refine below_set ?_ GE107.out) | exact HB.out)⟩
            · rw [if_neg c40] at H
              have c40b0 : decide (0 ≤ a0_2) = false := decide_eq_false c40
              clear c40
              obtain rfl := Option.some.inj H
              go_enter Try.func11, Try.ntmps11
              go_wp2_with (first | ((with_reducible refine gate_dst (N := 1) rfl ?_); refine box_event ?hg (N := 1) ?hd (cs := #[.int .i64 a0_0, .int .i64 a0_1, .int .i64 a0_2, .int .i64 a0_3, .int .i64 a0_4, .int .i64 a0_5, .bool a0_6]) (t := 28) ?hr ?_; (case hd => rfl); (case hg => rfl); (case hr => first | (go_simp; done) | (go_simp; rfl)); intro gb107 hg w49 hbox hb; have n0_ := Aside0.mk (below_step (by repeat (first | (with_reducible first | exact HB.out | apply below_alloc | apply pw_below_drewN | apply below_drew1) | exact HB.out)) hb); have n1_ := Aside0.mk (hbox); have n2_ := Aside0.mk ((by rw [hg]; exact (below_size (by repeat (first | (with_reducible first | exact HB.out | apply below_alloc | apply pw_below_drewN | apply below_drew1) | exact HB.out))) : w.heap.size ≤ gb107)); have n3_ := Aside0.mk ((by rw [hg]; exact (below_size (by repeat (first | (with_reducible first | exact HB.out | apply below_alloc | apply pw_below_drewN | apply below_drew1) | exact HB.out))) : w.heap.size ≤ gb107)); clear HB; have HB := n0_; have BK107 := n1_; have GW107 := n2_; have GE107 := n3_; clear n0_ n1_ n2_ n3_; clear hb hbox hg; have hcz50_0 : w49.cell? ⟨gb107, 0, none⟩ = some (.int .i64 a0_0) := bc BK107 0; have hcz50_1 : w49.cell? ⟨gb107, 1, none⟩ = some (.int .i64 a0_1) := bc BK107 1; have hcz50_2 : w49.cell? ⟨gb107, 2, none⟩ = some (.int .i64 a0_2) := bc BK107 2; have hcz50_3 : w49.cell? ⟨gb107, 3, none⟩ = some (.int .i64 a0_3) := bc BK107 3; have hcz50_4 : w49.cell? ⟨gb107, 4, none⟩ = some (.int .i64 a0_4) := bc BK107 4; have hcz50_5 : w49.cell? ⟨gb107, 5, none⟩ = some (.int .i64 a0_5) := bc BK107 5; have hcz50_6 : w49.cell? ⟨gb107, 6, none⟩ = some (.bool a0_6) := bc BK107 6; have hfz50_0 := blk_frozen BK107.out 0; have hfz50_1 := blk_frozen BK107.out 1; have hfz50_2 := blk_frozen BK107.out 2; have hfz50_3 := blk_frozen BK107.out 3; have hfz50_4 := blk_frozen BK107.out 4; have hfz50_5 := blk_frozen BK107.out 5; have hfz50_6 := blk_frozen BK107.out 6))
              go_ret
              exact ⟨by first | rfl | (simp [errW_none, errW_some] <;> rfl) | (simp [*, errW_none, errW_some] <;> rfl), by repeat (first | (with_reducible first | exact HB.out | apply below_alloc | apply pw_below_drewN | apply below_drew1 | refine below_set ?_ GE107.out) | exact HB.out)⟩
        · rw [if_neg c5] at H
          have c5b0 : decide (1 ≤ a0_0) = false := decide_eq_false c5
          clear c5
          by_cases c51 : 0 ≤ a0_2
          · rw [if_pos c51] at H
            have c51b0 : decide (0 ≤ a0_2) = true := decide_eq_true c51
            clear c51
            by_cases c52 : a0_2 ≤ 1000000
            · rw [if_pos c52] at H
              have c52b0 : decide (a0_2 ≤ 1000000) = true := decide_eq_true c52
              clear c52
              by_cases c53 : 0 ≤ a0_3
              · rw [if_pos c53] at H
                have c53b0 : decide (0 ≤ a0_3) = true := decide_eq_true c53
                clear c53
                obtain rfl := Option.some.inj H
                go_enter Try.func11, Try.ntmps11
                go_wp2_with (first | ((with_reducible refine gate_dst (N := 1) rfl ?_); refine box_event ?hg (N := 1) ?hd (cs := #[.int .i64 a0_0, .int .i64 a0_1, .int .i64 a0_2, .int .i64 a0_3, .int .i64 a0_4, .int .i64 a0_5, .bool a0_6]) (t := 28) ?hr ?_; (case hd => rfl); (case hg => rfl); (case hr => first | (go_simp; done) | (go_simp; rfl)); intro gb107 hg w54 hbox hb; have n0_ := Aside0.mk (below_step (by repeat (first | (with_reducible first | exact HB.out | apply below_alloc | apply pw_below_drewN | apply below_drew1) | exact HB.out)) hb); have n1_ := Aside0.mk (hbox); have n2_ := Aside0.mk ((by rw [hg]; exact (below_size (by repeat (first | (with_reducible first | exact HB.out | apply below_alloc | apply pw_below_drewN | apply below_drew1) | exact HB.out))) : w.heap.size ≤ gb107)); have n3_ := Aside0.mk ((by rw [hg]; exact (below_size (by repeat (first | (with_reducible first | exact HB.out | apply below_alloc | apply pw_below_drewN | apply below_drew1) | exact HB.out))) : w.heap.size ≤ gb107)); clear HB; have HB := n0_; have BK107 := n1_; have GW107 := n2_; have GE107 := n3_; clear n0_ n1_ n2_ n3_; clear hb hbox hg; have hcz55_0 : w54.cell? ⟨gb107, 0, none⟩ = some (.int .i64 a0_0) := bc BK107 0; have hcz55_1 : w54.cell? ⟨gb107, 1, none⟩ = some (.int .i64 a0_1) := bc BK107 1; have hcz55_2 : w54.cell? ⟨gb107, 2, none⟩ = some (.int .i64 a0_2) := bc BK107 2; have hcz55_3 : w54.cell? ⟨gb107, 3, none⟩ = some (.int .i64 a0_3) := bc BK107 3; have hcz55_4 : w54.cell? ⟨gb107, 4, none⟩ = some (.int .i64 a0_4) := bc BK107 4; have hcz55_5 : w54.cell? ⟨gb107, 5, none⟩ = some (.int .i64 a0_5) := bc BK107 5; have hcz55_6 : w54.cell? ⟨gb107, 6, none⟩ = some (.bool a0_6) := bc BK107 6; have hfz55_0 := blk_frozen BK107.out 0; have hfz55_1 := blk_frozen BK107.out 1; have hfz55_2 := blk_frozen BK107.out 2; have hfz55_3 := blk_frozen BK107.out 3; have hfz55_4 := blk_frozen BK107.out 4; have hfz55_5 := blk_frozen BK107.out 5; have hfz55_6 := blk_frozen BK107.out 6))
                go_ret
                exact ⟨by first | rfl | (simp [errW_none, errW_some] <;> rfl) | (simp [*, errW_none, errW_some] <;> rfl), by repeat (first | (with_reducible first | exact HB.out | apply below_alloc | apply pw_below_drewN | apply below_drew1 | refine below_set ?_ GE107.out) | exact HB.out)⟩
              · rw [if_neg c53] at H
                have c53b0 : decide (0 ≤ a0_3) = false := decide_eq_false c53
                clear c53
                obtain rfl := Option.some.inj H
                go_enter Try.func11, Try.ntmps11
                go_wp2_with (first | ((with_reducible refine gate_dst (N := 1) rfl ?_); refine box_event ?hg (N := 1) ?hd (cs := #[.int .i64 a0_0, .int .i64 a0_1, .int .i64 a0_2, .int .i64 a0_3, .int .i64 a0_4, .int .i64 a0_5, .bool a0_6]) (t := 28) ?hr ?_; (case hd => rfl); (case hg => rfl); (case hr => first | (go_simp; done) | (go_simp; rfl)); intro gb107 hg w56 hbox hb; have n0_ := Aside0.mk (below_step (by repeat (first | (with_reducible first | exact HB.out | apply below_alloc | apply pw_below_drewN | apply below_drew1) | exact HB.out)) hb); have n1_ := Aside0.mk (hbox); have n2_ := Aside0.mk ((by rw [hg]; exact (below_size (by repeat (first | (with_reducible first | exact HB.out | apply below_alloc | apply pw_below_drewN | apply below_drew1) | exact HB.out))) : w.heap.size ≤ gb107)); have n3_ := Aside0.mk ((by rw [hg]; exact (below_size (by repeat (first | (with_reducible first | exact HB.out | apply below_alloc | apply pw_below_drewN | apply below_drew1) | exact HB.out))) : w.heap.size ≤ gb107)); clear HB; have HB := n0_; have BK107 := n1_; have GW107 := n2_; have GE107 := n3_; clear n0_ n1_ n2_ n3_; clear hb hbox hg; have hcz57_0 : w56.cell? ⟨gb107, 0, none⟩ = some (.int .i64 a0_0) := bc BK107 0; have hcz57_1 : w56.cell? ⟨gb107, 1, none⟩ = some (.int .i64 a0_1) := bc BK107 1; have hcz57_2 : w56.cell? ⟨gb107, 2, none⟩ = some (.int .i64 a0_2) := bc BK107 2; have hcz57_3 : w56.cell? ⟨gb107, 3, none⟩ = some (.int .i64 a0_3) := bc BK107 3; have hcz57_4 : w56.cell? ⟨gb107, 4, none⟩ = some (.int .i64 a0_4) := bc BK107 4; have hcz57_5 : w56.cell? ⟨gb107, 5, none⟩ = some (.int .i64 a0_5) := bc BK107 5; have hcz57_6 : w56.cell? ⟨gb107, 6, none⟩ = some (.bool a0_6) := bc BK107 6; have hfz57_0 := blk_frozen BK107.out 0; have hfz57_1 := blk_frozen BK107.out 1; have hfz57_2 := blk_frozen BK107.out 2; have hfz57_3 := blk_frozen BK107.out 3; have hfz57_4 := blk_frozen BK107.out 4; have hfz57_5 := blk_frozen BK107.out 5; have hfz57_6 := blk_frozen BK107.out 6))
                go_ret
                exact ⟨by first | rfl | (simp [errW_none, errW_some] <;> rfl) | (simp [*, errW_none, errW_some] <;> rfl), by repeat (first | (with_reducible first | exact HB.out | apply below_alloc | apply pw_below_drewN | apply below_drew1 | refine below_set ?_ GE107.out) | exact HB.out)⟩
            · rw [if_neg c52] at H
              have c52b0 : decide (a0_2 ≤ 1000000) = false := decide_eq_false c52
              clear c52
              obtain rfl := Option.some.inj H
              go_enter Try.func11, Try.ntmps11
              go_wp2_with (first | ((with_reducible refine gate_dst (N := 1) rfl ?_); refine box_event ?hg (N := 1) ?hd (cs := #[.int .i64 a0_0, .int .i64 a0_1, .int .i64 a0_2, .int .i64 a0_3, .int .i64 a0_4, .int .i64 a0_5, .bool a0_6]) (t := 28) ?hr ?_; (case hd => rfl); (case hg => rfl); (case hr => first | (go_simp; done) | (go_simp; rfl)); intro gb107 hg w58 hbox hb; have n0_ := Aside0.mk (below_step (by repeat (first | (with_reducible first | exact HB.out | apply below_alloc | apply pw_below_drewN | apply below_drew1) | exact HB.out)) hb); have n1_ := Aside0.mk (hbox); have n2_ := Aside0.mk ((by rw [hg]; exact (below_size (by repeat (first | (with_reducible first | exact HB.out | apply below_alloc | apply pw_below_drewN | apply below_drew1) | exact HB.out))) : w.heap.size ≤ gb107)); have n3_ := Aside0.mk ((by rw [hg]; exact (below_size (by repeat (first | (with_reducible first | exact HB.out | apply below_alloc | apply pw_below_drewN | apply below_drew1) | exact HB.out))) : w.heap.size ≤ gb107)); clear HB; have HB := n0_; have BK107 := n1_; have GW107 := n2_; have GE107 := n3_; clear n0_ n1_ n2_ n3_; clear hb hbox hg; have hcz59_0 : w58.cell? ⟨gb107, 0, none⟩ = some (.int .i64 a0_0) := bc BK107 0; have hcz59_1 : w58.cell? ⟨gb107, 1, none⟩ = some (.int .i64 a0_1) := bc BK107 1; have hcz59_2 : w58.cell? ⟨gb107, 2, none⟩ = some (.int .i64 a0_2) := bc BK107 2; have hcz59_3 : w58.cell? ⟨gb107, 3, none⟩ = some (.int .i64 a0_3) := bc BK107 3; have hcz59_4 : w58.cell? ⟨gb107, 4, none⟩ = some (.int .i64 a0_4) := bc BK107 4; have hcz59_5 : w58.cell? ⟨gb107, 5, none⟩ = some (.int .i64 a0_5) := bc BK107 5; have hcz59_6 : w58.cell? ⟨gb107, 6, none⟩ = some (.bool a0_6) := bc BK107 6; have hfz59_0 := blk_frozen BK107.out 0; have hfz59_1 := blk_frozen BK107.out 1; have hfz59_2 := blk_frozen BK107.out 2; have hfz59_3 := blk_frozen BK107.out 3; have hfz59_4 := blk_frozen BK107.out 4; have hfz59_5 := blk_frozen BK107.out 5; have hfz59_6 := blk_frozen BK107.out 6))
              go_ret
              exact ⟨by first | rfl | (simp [errW_none, errW_some] <;> rfl) | (simp [*, errW_none, errW_some] <;> rfl), by repeat (first | (with_reducible first | exact HB.out | apply below_alloc | apply pw_below_drewN | apply below_drew1 | refine below_set ?_ GE107.out) | exact HB.out)⟩
          · rw [if_neg c51] at H
            have c51b0 : decide (0 ≤ a0_2) = false := decide_eq_false c51
            clear c51
            obtain rfl := Option.some.inj H
            go_enter Try.func11, Try.ntmps11
            go_wp2_with (first | ((with_reducible refine gate_dst (N := 1) rfl ?_); refine box_event ?hg (N := 1) ?hd (cs := #[.int .i64 a0_0, .int .i64 a0_1, .int .i64 a0_2, .int .i64 a0_3, .int .i64 a0_4, .int .i64 a0_5, .bool a0_6]) (t := 28) ?hr ?_; (case hd => rfl); (case hg => rfl); (case hr => first | (go_simp; done) | (go_simp; rfl)); intro gb107 hg w60 hbox hb; have n0_ := Aside0.mk (below_step (by repeat (first | (with_reducible first | exact HB.out | apply below_alloc | apply pw_below_drewN | apply below_drew1) | exact HB.out)) hb); have n1_ := Aside0.mk (hbox); have n2_ := Aside0.mk ((by rw [hg]; exact (below_size (by repeat (first | (with_reducible first | exact HB.out | apply below_alloc | apply pw_below_drewN | apply below_drew1) | exact HB.out))) : w.heap.size ≤ gb107)); have n3_ := Aside0.mk ((by rw [hg]; exact (below_size (by repeat (first | (with_reducible first | exact HB.out | apply below_alloc | apply pw_below_drewN | apply below_drew1) | exact HB.out))) : w.heap.size ≤ gb107)); clear HB; have HB := n0_; have BK107 := n1_; have GW107 := n2_; have GE107 := n3_; clear n0_ n1_ n2_ n3_; clear hb hbox hg; have hcz61_0 : w60.cell? ⟨gb107, 0, none⟩ = some (.int .i64 a0_0) := bc BK107 0; have hcz61_1 : w60.cell? ⟨gb107, 1, none⟩ = some (.int .i64 a0_1) := bc BK107 1; have hcz61_2 : w60.cell? ⟨gb107, 2, none⟩ = some (.int .i64 a0_2) := bc BK107 2; have hcz61_3 : w60.cell? ⟨gb107, 3, none⟩ = some (.int .i64 a0_3) := bc BK107 3; have hcz61_4 : w60.cell? ⟨gb107, 4, none⟩ = some (.int .i64 a0_4) := bc BK107 4; have hcz61_5 : w60.cell? ⟨gb107, 5, none⟩ = some (.int .i64 a0_5) := bc BK107 5; have hcz61_6 : w60.cell? ⟨gb107, 6, none⟩ = some (.bool a0_6) := bc BK107 6; have hfz61_0 := blk_frozen BK107.out 0; have hfz61_1 := blk_frozen BK107.out 1; have hfz61_2 := blk_frozen BK107.out 2; have hfz61_3 := blk_frozen BK107.out 3; have hfz61_4 := blk_frozen BK107.out 4; have hfz61_5 := blk_frozen BK107.out 5; have hfz61_6 := blk_frozen BK107.out 6))
            go_ret
            exact ⟨by first | rfl | (simp [errW_none, errW_some] <;> rfl) | (simp [*, errW_none, errW_some] <;> rfl), by repeat (first | (with_reducible first | exact HB.out | apply below_alloc | apply pw_below_drewN | apply below_drew1 | refine below_set ?_ GE107.out) | exact HB.out)⟩
      · rw [if_neg c4] at H
        have c4b0 : decide (a0_5 ≤ 1000000) = false := decide_eq_false c4
        clear c4
        by_cases c62 : 0 ≤ a0_2
        · rw [if_pos c62] at H
          have c62b0 : decide (0 ≤ a0_2) = true := decide_eq_true c62
          clear c62
          by_cases c63 : a0_2 ≤ 1000000
          · rw [if_pos c63] at H
            have c63b0 : decide (a0_2 ≤ 1000000) = true := decide_eq_true c63
            clear c63
            by_cases c64 : 0 ≤ a0_3
            · rw [if_pos c64] at H
              have c64b0 : decide (0 ≤ a0_3) = true := decide_eq_true c64
              clear c64
              obtain rfl := Option.some.inj H
              go_enter Try.func11, Try.ntmps11
              go_wp2_with (first | ((with_reducible refine gate_dst (N := 1) rfl ?_); refine box_event ?hg (N := 1) ?hd (cs := #[.int .i64 a0_0, .int .i64 a0_1, .int .i64 a0_2, .int .i64 a0_3, .int .i64 a0_4, .int .i64 a0_5, .bool a0_6]) (t := 28) ?hr ?_; (case hd => rfl); (case hg => rfl); (case hr => first | (go_simp; done) | (go_simp; rfl)); intro gb107 hg w65 hbox hb; have n0_ := Aside0.mk (below_step (by repeat (first | (with_reducible first | exact HB.out | apply below_alloc | apply pw_below_drewN | apply below_drew1) | exact HB.out)) hb); have n1_ := Aside0.mk (hbox); have n2_ := Aside0.mk ((by rw [hg]; exact (below_size (by repeat (first | (with_reducible first | exact HB.out | apply below_alloc | apply pw_below_drewN | apply below_drew1) | exact HB.out))) : w.heap.size ≤ gb107)); have n3_ := Aside0.mk ((by rw [hg]; exact (below_size (by repeat (first | (with_reducible first | exact HB.out | apply below_alloc | apply pw_below_drewN | apply below_drew1) | exact HB.out))) : w.heap.size ≤ gb107)); clear HB; have HB := n0_; have BK107 := n1_; have GW107 := n2_; have GE107 := n3_; clear n0_ n1_ n2_ n3_; clear hb hbox hg; have hcz66_0 : w65.cell? ⟨gb107, 0, none⟩ = some (.int .i64 a0_0) := bc BK107 0; have hcz66_1 : w65.cell? ⟨gb107, 1, none⟩ = some (.int .i64 a0_1) := bc BK107 1; have hcz66_2 : w65.cell? ⟨gb107, 2, none⟩ = some (.int .i64 a0_2) := bc BK107 2; have hcz66_3 : w65.cell? ⟨gb107, 3, none⟩ = some (.int .i64 a0_3) := bc BK107 3; have hcz66_4 : w65.cell? ⟨gb107, 4, none⟩ = some (.int .i64 a0_4) := bc BK107 4; have hcz66_5 : w65.cell? ⟨gb107, 5, none⟩ = some (.int .i64 a0_5) := bc BK107 5; have hcz66_6 : w65.cell? ⟨gb107, 6, none⟩ = some (.bool a0_6) := bc BK107 6; have hfz66_0 := blk_frozen BK107.out 0; have hfz66_1 := blk_frozen BK107.out 1; have hfz66_2 := blk_frozen BK107.out 2; have hfz66_3 := blk_frozen BK107.out 3; have hfz66_4 := blk_frozen BK107.out 4; have hfz66_5 := blk_frozen BK107.out 5; have hfz66_6 := blk_frozen BK107.out 6))
              go_ret
              exact ⟨by first | rfl | (simp [errW_none, errW_some] <;> rfl) | (simp [*, errW_none, errW_some] <;> rfl), by repeat (first | (with_reducible first | exact HB.out | apply below_alloc | apply pw_below_drewN | apply below_drew1 | refine below_set ?_ GE107.out) | exact HB.out)⟩
            · rw [if_neg c64] at H
              have c64b0 : decide (0 ≤ a0_3) = false := decide_eq_false c64
              clear c64
              obtain rfl := Option.some.inj H
              go_enter Try.func11, Try.ntmps11
              go_wp2_with (first | ((with_reducible refine gate_dst (N := 1) rfl ?_); refine box_event ?hg (N := 1) ?hd (cs := #[.int .i64 a0_0, .int .i64 a0_1, .int .i64 a0_2, .int .i64 a0_3, .int .i64 a0_4, .int .i64 a0_5, .bool a0_6]) (t := 28) ?hr ?_; (case hd => rfl); (case hg => rfl); (case hr => first | (go_simp; done) | (go_simp; rfl)); intro gb107 hg w67 hbox hb; have n0_ := Aside0.mk (below_step (by repeat (first | (with_reducible first | exact HB.out | apply below_alloc | apply pw_below_drewN | apply below_drew1) | exact HB.out)) hb); have n1_ := Aside0.mk (hbox); have n2_ := Aside0.mk ((by rw [hg]; exact (below_size (by repeat (first | (with_reducible first | exact HB.out | apply below_alloc | apply pw_below_drewN | apply below_drew1) | exact HB.out))) : w.heap.size ≤ gb107)); have n3_ := Aside0.mk ((by rw [hg]; exact (below_size (by repeat (first | (with_reducible first | exact HB.out | apply below_alloc | apply pw_below_drewN | apply below_drew1) | exact HB.out))) : w.heap.size ≤ gb107)); clear HB; have HB := n0_; have BK107 := n1_; have GW107 := n2_; have GE107 := n3_; clear n0_ n1_ n2_ n3_; clear hb hbox hg; have hcz68_0 : w67.cell? ⟨gb107, 0, none⟩ = some (.int .i64 a0_0) := bc BK107 0; have hcz68_1 : w67.cell? ⟨gb107, 1, none⟩ = some (.int .i64 a0_1) := bc BK107 1; have hcz68_2 : w67.cell? ⟨gb107, 2, none⟩ = some (.int .i64 a0_2) := bc BK107 2; have hcz68_3 : w67.cell? ⟨gb107, 3, none⟩ = some (.int .i64 a0_3) := bc BK107 3; have hcz68_4 : w67.cell? ⟨gb107, 4, none⟩ = some (.int .i64 a0_4) := bc BK107 4; have hcz68_5 : w67.cell? ⟨gb107, 5, none⟩ = some (.int .i64 a0_5) := bc BK107 5; have hcz68_6 : w67.cell? ⟨gb107, 6, none⟩ = some (.bool a0_6) := bc BK107 6; have hfz68_0 := blk_frozen BK107.out 0; have hfz68_1 := blk_frozen BK107.out 1; have hfz68_2 := blk_frozen BK107.out 2; have hfz68_3 := blk_frozen BK107.out 3; have hfz68_4 := blk_frozen BK107.out 4; have hfz68_5 := blk_frozen BK107.out 5; have hfz68_6 := blk_frozen BK107.out 6))
              go_ret
              exact ⟨by first | rfl | (simp [errW_none, errW_some] <;> rfl) | (simp [*, errW_none, errW_some] <;> rfl), by repeat (first | (with_reducible first | exact HB.out | apply below_alloc | apply pw_below_drewN | apply below_drew1 | refine below_set ?_ GE107.out) | exact HB.out)⟩
          · rw [if_neg c63] at H
            have c63b0 : decide (a0_2 ≤ 1000000) = false := decide_eq_false c63
            clear c63
            obtain rfl := Option.some.inj H
            go_enter Try.func11, Try.ntmps11
            go_wp2_with (first | ((with_reducible refine gate_dst (N := 1) rfl ?_); refine box_event ?hg (N := 1) ?hd (cs := #[.int .i64 a0_0, .int .i64 a0_1, .int .i64 a0_2, .int .i64 a0_3, .int .i64 a0_4, .int .i64 a0_5, .bool a0_6]) (t := 28) ?hr ?_; (case hd => rfl); (case hg => rfl); (case hr => first | (go_simp; done) | (go_simp; rfl)); intro gb107 hg w69 hbox hb; have n0_ := Aside0.mk (below_step (by repeat (first | (with_reducible first | exact HB.out | apply below_alloc | apply pw_below_drewN | apply below_drew1) | exact HB.out)) hb); have n1_ := Aside0.mk (hbox); have n2_ := Aside0.mk ((by rw [hg]; exact (below_size (by repeat (first | (with_reducible first | exact HB.out | apply below_alloc | apply pw_below_drewN | apply below_drew1) | exact HB.out))) : w.heap.size ≤ gb107)); have n3_ := Aside0.mk ((by rw [hg]; exact (below_size (by repeat (first | (with_reducible first | exact HB.out | apply below_alloc | apply pw_below_drewN | apply below_drew1) | exact HB.out))) : w.heap.size ≤ gb107)); clear HB; have HB := n0_; have BK107 := n1_; have GW107 := n2_; have GE107 := n3_; clear n0_ n1_ n2_ n3_; clear hb hbox hg; have hcz70_0 : w69.cell? ⟨gb107, 0, none⟩ = some (.int .i64 a0_0) := bc BK107 0; have hcz70_1 : w69.cell? ⟨gb107, 1, none⟩ = some (.int .i64 a0_1) := bc BK107 1; have hcz70_2 : w69.cell? ⟨gb107, 2, none⟩ = some (.int .i64 a0_2) := bc BK107 2; have hcz70_3 : w69.cell? ⟨gb107, 3, none⟩ = some (.int .i64 a0_3) := bc BK107 3; have hcz70_4 : w69.cell? ⟨gb107, 4, none⟩ = some (.int .i64 a0_4) := bc BK107 4; have hcz70_5 : w69.cell? ⟨gb107, 5, none⟩ = some (.int .i64 a0_5) := bc BK107 5; have hcz70_6 : w69.cell? ⟨gb107, 6, none⟩ = some (.bool a0_6) := bc BK107 6; have hfz70_0 := blk_frozen BK107.out 0; have hfz70_1 := blk_frozen BK107.out 1; have hfz70_2 := blk_frozen BK107.out 2; have hfz70_3 := blk_frozen BK107.out 3; have hfz70_4 := blk_frozen BK107.out 4; have hfz70_5 := blk_frozen BK107.out 5; have hfz70_6 := blk_frozen BK107.out 6))
            go_ret
            exact ⟨by first | rfl | (simp [errW_none, errW_some] <;> rfl) | (simp [*, errW_none, errW_some] <;> rfl), by repeat (first | (with_reducible first | exact HB.out | apply below_alloc | apply pw_below_drewN | apply below_drew1 | refine below_set ?_ GE107.out) | exact HB.out)⟩
        · rw [if_neg c62] at H
          have c62b0 : decide (0 ≤ a0_2) = false := decide_eq_false c62
          clear c62
          obtain rfl := Option.some.inj H
          go_enter Try.func11, Try.ntmps11
          go_wp2_with (first | ((with_reducible refine gate_dst (N := 1) rfl ?_); refine box_event ?hg (N := 1) ?hd (cs := #[.int .i64 a0_0, .int .i64 a0_1, .int .i64 a0_2, .int .i64 a0_3, .int .i64 a0_4, .int .i64 a0_5, .bool a0_6]) (t := 28) ?hr ?_; (case hd => rfl); (case hg => rfl); (case hr => first | (go_simp; done) | (go_simp; rfl)); intro gb107 hg w71 hbox hb; have n0_ := Aside0.mk (below_step (by repeat (first | (with_reducible first | exact HB.out | apply below_alloc | apply pw_below_drewN | apply below_drew1) | exact HB.out)) hb); have n1_ := Aside0.mk (hbox); have n2_ := Aside0.mk ((by rw [hg]; exact (below_size (by repeat (first | (with_reducible first | exact HB.out | apply below_alloc | apply pw_below_drewN | apply below_drew1) | exact HB.out))) : w.heap.size ≤ gb107)); have n3_ := Aside0.mk ((by rw [hg]; exact (below_size (by repeat (first | (with_reducible first | exact HB.out | apply below_alloc | apply pw_below_drewN | apply below_drew1) | exact HB.out))) : w.heap.size ≤ gb107)); clear HB; have HB := n0_; have BK107 := n1_; have GW107 := n2_; have GE107 := n3_; clear n0_ n1_ n2_ n3_; clear hb hbox hg; have hcz72_0 : w71.cell? ⟨gb107, 0, none⟩ = some (.int .i64 a0_0) := bc BK107 0; have hcz72_1 : w71.cell? ⟨gb107, 1, none⟩ = some (.int .i64 a0_1) := bc BK107 1; have hcz72_2 : w71.cell? ⟨gb107, 2, none⟩ = some (.int .i64 a0_2) := bc BK107 2; have hcz72_3 : w71.cell? ⟨gb107, 3, none⟩ = some (.int .i64 a0_3) := bc BK107 3; have hcz72_4 : w71.cell? ⟨gb107, 4, none⟩ = some (.int .i64 a0_4) := bc BK107 4; have hcz72_5 : w71.cell? ⟨gb107, 5, none⟩ = some (.int .i64 a0_5) := bc BK107 5; have hcz72_6 : w71.cell? ⟨gb107, 6, none⟩ = some (.bool a0_6) := bc BK107 6; have hfz72_0 := blk_frozen BK107.out 0; have hfz72_1 := blk_frozen BK107.out 1; have hfz72_2 := blk_frozen BK107.out 2; have hfz72_3 := blk_frozen BK107.out 3; have hfz72_4 := blk_frozen BK107.out 4; have hfz72_5 := blk_frozen BK107.out 5; have hfz72_6 := blk_frozen BK107.out 6))
          go_ret
          exact ⟨by first | rfl | (simp [errW_none, errW_some] <;> rfl) | (simp [*, errW_none, errW_some] <;> rfl), by repeat (first | (with_reducible first | exact HB.out | apply below_alloc | apply pw_below_drewN | apply below_drew1 | refine below_set ?_ GE107.out) | exact HB.out)⟩
    · rw [if_neg c3] at H
      have c3b0 : decide (a0_4 ≤ a0_5) = false := decide_eq_false c3
      clear c3
      by_cases c73 : 0 ≤ a0_2
      · rw [if_pos c73] at H
        have c73b0 : decide (0 ≤ a0_2) = true := decide_eq_true c73
        clear c73
        by_cases c74 : a0_2 ≤ 1000000
        · rw [if_pos c74] at H
          have c74b0 : decide (a0_2 ≤ 1000000) = true := decide_eq_true c74
          clear c74
          by_cases c75 : 0 ≤ a0_3
          · rw [if_pos c75] at H
            have c75b0 : decide (0 ≤ a0_3) = true := decide_eq_true c75
            clear c75
            obtain rfl := Option.some.inj H
            go_enter Try.func11, Try.ntmps11
            go_wp2_with (first | ((with_reducible refine gate_dst (N := 1) rfl ?_); refine box_event ?hg (N := 1) ?hd (cs := #[.int .i64 a0_0, .int .i64 a0_1, .int .i64 a0_2, .int .i64 a0_3, .int .i64 a0_4, .int .i64 a0_5, .bool a0_6]) (t := 28) ?hr ?_; (case hd => rfl); (case hg => rfl); (case hr => first | (go_simp; done) | (go_simp; rfl)); intro gb107 hg w76 hbox hb; have n0_ := Aside0.mk (below_step (by repeat (first | (with_reducible first | exact HB.out | apply below_alloc | apply pw_below_drewN | apply below_drew1) | exact HB.out)) hb); have n1_ := Aside0.mk (hbox); have n2_ := Aside0.mk ((by rw [hg]; exact (below_size (by repeat (first | (with_reducible first | exact HB.out | apply below_alloc | apply pw_below_drewN | apply below_drew1) | exact HB.out))) : w.heap.size ≤ gb107)); have n3_ := Aside0.mk ((by rw [hg]; exact (below_size (by repeat (first | (with_reducible first | exact HB.out | apply below_alloc | apply pw_below_drewN | apply below_drew1) | exact HB.out))) : w.heap.size ≤ gb107)); clear HB; have HB := n0_; have BK107 := n1_; have GW107 := n2_; have GE107 := n3_; clear n0_ n1_ n2_ n3_; clear hb hbox hg; have hcz77_0 : w76.cell? ⟨gb107, 0, none⟩ = some (.int .i64 a0_0) := bc BK107 0; have hcz77_1 : w76.cell? ⟨gb107, 1, none⟩ = some (.int .i64 a0_1) := bc BK107 1; have hcz77_2 : w76.cell? ⟨gb107, 2, none⟩ = some (.int .i64 a0_2) := bc BK107 2; have hcz77_3 : w76.cell? ⟨gb107, 3, none⟩ = some (.int .i64 a0_3) := bc BK107 3; have hcz77_4 : w76.cell? ⟨gb107, 4, none⟩ = some (.int .i64 a0_4) := bc BK107 4; have hcz77_5 : w76.cell? ⟨gb107, 5, none⟩ = some (.int .i64 a0_5) := bc BK107 5; have hcz77_6 : w76.cell? ⟨gb107, 6, none⟩ = some (.bool a0_6) := bc BK107 6; have hfz77_0 := blk_frozen BK107.out 0; have hfz77_1 := blk_frozen BK107.out 1; have hfz77_2 := blk_frozen BK107.out 2; have hfz77_3 := blk_frozen BK107.out 3; have hfz77_4 := blk_frozen BK107.out 4; have hfz77_5 := blk_frozen BK107.out 5; have hfz77_6 := blk_frozen BK107.out 6))
            go_ret
            exact ⟨by first | rfl | (simp [errW_none, errW_some] <;> rfl) | (simp [*, errW_none, errW_some] <;> rfl), by repeat (first | (with_reducible first | exact HB.out | apply below_alloc | apply pw_below_drewN | apply below_drew1 | refine below_set ?_ GE107.out) | exact HB.out)⟩
          · rw [if_neg c75] at H
            have c75b0 : decide (0 ≤ a0_3) = false := decide_eq_false c75
            clear c75
            obtain rfl := Option.some.inj H
            go_enter Try.func11, Try.ntmps11
            go_wp2_with (first | ((with_reducible refine gate_dst (N := 1) rfl ?_); refine box_event ?hg (N := 1) ?hd (cs := #[.int .i64 a0_0, .int .i64 a0_1, .int .i64 a0_2, .int .i64 a0_3, .int .i64 a0_4, .int .i64 a0_5, .bool a0_6]) (t := 28) ?hr ?_; (case hd => rfl); (case hg => rfl); (case hr => first | (go_simp; done) | (go_simp; rfl)); intro gb107 hg w78 hbox hb; have n0_ := Aside0.mk (below_step (by repeat (first | (with_reducible first | exact HB.out | apply below_alloc | apply pw_below_drewN | apply below_drew1) | exact HB.out)) hb); have n1_ := Aside0.mk (hbox); have n2_ := Aside0.mk ((by rw [hg]; exact (below_size (by repeat (first | (with_reducible first | exact HB.out | apply below_alloc | apply pw_below_drewN | apply below_drew1) | exact HB.out))) : w.heap.size ≤ gb107)); have n3_ := Aside0.mk ((by rw [hg]; exact (below_size (by repeat (first | (with_reducible first | exact HB.out | apply below_alloc | apply pw_below_drewN | apply below_drew1) | exact HB.out))) : w.heap.size ≤ gb107)); clear HB; have HB := n0_; have BK107 := n1_; have GW107 := n2_; have GE107 := n3_; clear n0_ n1_ n2_ n3_; clear hb hbox hg; have hcz79_0 : w78.cell? ⟨gb107, 0, none⟩ = some (.int .i64 a0_0) := bc BK107 0; have hcz79_1 : w78.cell? ⟨gb107, 1, none⟩ = some (.int .i64 a0_1) := bc BK107 1; have hcz79_2 : w78.cell? ⟨gb107, 2, none⟩ = some (.int .i64 a0_2) := bc BK107 2; have hcz79_3 : w78.cell? ⟨gb107, 3, none⟩ = some (.int .i64 a0_3) := bc BK107 3; have hcz79_4 : w78.cell? ⟨gb107, 4, none⟩ = some (.int .i64 a0_4) := bc BK107 4; have hcz79_5 : w78.cell? ⟨gb107, 5, none⟩ = some (.int .i64 a0_5) := bc BK107 5; have hcz79_6 : w78.cell? ⟨gb107, 6, none⟩ = some (.bool a0_6) := bc BK107 6; have hfz79_0 := blk_frozen BK107.out 0; have hfz79_1 := blk_frozen BK107.out 1; have hfz79_2 := blk_frozen BK107.out 2; have hfz79_3 := blk_frozen BK107.out 3; have hfz79_4 := blk_frozen BK107.out 4; have hfz79_5 := blk_frozen BK107.out 5; have hfz79_6 := blk_frozen BK107.out 6))
            go_ret
            exact ⟨by first | rfl | (simp [errW_none, errW_some] <;> rfl) | (simp [*, errW_none, errW_some] <;> rfl), by repeat (first | (with_reducible first | exact HB.out | apply below_alloc | apply pw_below_drewN | apply below_drew1 | refine below_set ?_ GE107.out) | exact HB.out)⟩
        · rw [if_neg c74] at H
          have c74b0 : decide (a0_2 ≤ 1000000) = false := decide_eq_false c74
          clear c74
          obtain rfl := Option.some.inj H
          go_enter Try.func11, Try.ntmps11
          go_wp2_with (first | ((with_reducible refine gate_dst (N := 1) rfl ?_); refine box_event ?hg (N := 1) ?hd (cs := #[.int .i64 a0_0, .int .i64 a0_1, .int .i64 a0_2, .int .i64 a0_3, .int .i64 a0_4, .int .i64 a0_5, .bool a0_6]) (t := 28) ?hr ?_; (case hd => rfl); (case hg => rfl); (case hr => first | (go_simp; done) | (go_simp; rfl)); intro gb107 hg w80 hbox hb; have n0_ := Aside0.mk (below_step (by repeat (first | (with_reducible first | exact HB.out | apply below_alloc | apply pw_below_drewN | apply below_drew1) | exact HB.out)) hb); have n1_ := Aside0.mk (hbox); have n2_ := Aside0.mk ((by rw [hg]; exact (below_size (by repeat (first | (with_reducible first | exact HB.out | apply below_alloc | apply pw_below_drewN | apply below_drew1) | exact HB.out))) : w.heap.size ≤ gb107)); have n3_ := Aside0.mk ((by rw [hg]; exact (below_size (by repeat (first | (with_reducible first | exact HB.out | apply below_alloc | apply pw_below_drewN | apply below_drew1) | exact HB.out))) : w.heap.size ≤ gb107)); clear HB; have HB := n0_; have BK107 := n1_; have GW107 := n2_; have GE107 := n3_; clear n0_ n1_ n2_ n3_; clear hb hbox hg; have hcz81_0 : w80.cell? ⟨gb107, 0, none⟩ = some (.int .i64 a0_0) := bc BK107 0; have hcz81_1 : w80.cell? ⟨gb107, 1, none⟩ = some (.int .i64 a0_1) := bc BK107 1; have hcz81_2 : w80.cell? ⟨gb107, 2, none⟩ = some (.int .i64 a0_2) := bc BK107 2; have hcz81_3 : w80.cell? ⟨gb107, 3, none⟩ = some (.int .i64 a0_3) := bc BK107 3; have hcz81_4 : w80.cell? ⟨gb107, 4, none⟩ = some (.int .i64 a0_4) := bc BK107 4; have hcz81_5 : w80.cell? ⟨gb107, 5, none⟩ = some (.int .i64 a0_5) := bc BK107 5; have hcz81_6 : w80.cell? ⟨gb107, 6, none⟩ = some (.bool a0_6) := bc BK107 6; have hfz81_0 := blk_frozen BK107.out 0; have hfz81_1 := blk_frozen BK107.out 1; have hfz81_2 := blk_frozen BK107.out 2; have hfz81_3 := blk_frozen BK107.out 3; have hfz81_4 := blk_frozen BK107.out 4; have hfz81_5 := blk_frozen BK107.out 5; have hfz81_6 := blk_frozen BK107.out 6))
          go_ret
          exact ⟨by first | rfl | (simp [errW_none, errW_some] <;> rfl) | (simp [*, errW_none, errW_some] <;> rfl), by repeat (first | (with_reducible first | exact HB.out | apply below_alloc | apply pw_below_drewN | apply below_drew1 | refine below_set ?_ GE107.out) | exact HB.out)⟩
      · rw [if_neg c73] at H
        have c73b0 : decide (0 ≤ a0_2) = false := decide_eq_false c73
        clear c73
        obtain rfl := Option.some.inj H
        go_enter Try.func11, Try.ntmps11
        go_wp2_with (first | ((with_reducible refine gate_dst (N := 1) rfl ?_); refine box_event ?hg (N := 1) ?hd (cs := #[.int .i64 a0_0, .int .i64 a0_1, .int .i64 a0_2, .int .i64 a0_3, .int .i64 a0_4, .int .i64 a0_5, .bool a0_6]) (t := 28) ?hr ?_; (case hd => rfl); (case hg => rfl); (case hr => first | (go_simp; done) | (go_simp; rfl)); intro gb107 hg w82 hbox hb; have n0_ := Aside0.mk (below_step (by repeat (first | (with_reducible first | exact HB.out | apply below_alloc | apply pw_below_drewN | apply below_drew1) | exact HB.out)) hb); have n1_ := Aside0.mk (hbox); have n2_ := Aside0.mk ((by rw [hg]; exact (below_size (by repeat (first | (with_reducible first | exact HB.out | apply below_alloc | apply pw_below_drewN | apply below_drew1) | exact HB.out))) : w.heap.size ≤ gb107)); have n3_ := Aside0.mk ((by rw [hg]; exact (below_size (by repeat (first | (with_reducible first | exact HB.out | apply below_alloc | apply pw_below_drewN | apply below_drew1) | exact HB.out))) : w.heap.size ≤ gb107)); clear HB; have HB := n0_; have BK107 := n1_; have GW107 := n2_; have GE107 := n3_; clear n0_ n1_ n2_ n3_; clear hb hbox hg; have hcz83_0 : w82.cell? ⟨gb107, 0, none⟩ = some (.int .i64 a0_0) := bc BK107 0; have hcz83_1 : w82.cell? ⟨gb107, 1, none⟩ = some (.int .i64 a0_1) := bc BK107 1; have hcz83_2 : w82.cell? ⟨gb107, 2, none⟩ = some (.int .i64 a0_2) := bc BK107 2; have hcz83_3 : w82.cell? ⟨gb107, 3, none⟩ = some (.int .i64 a0_3) := bc BK107 3; have hcz83_4 : w82.cell? ⟨gb107, 4, none⟩ = some (.int .i64 a0_4) := bc BK107 4; have hcz83_5 : w82.cell? ⟨gb107, 5, none⟩ = some (.int .i64 a0_5) := bc BK107 5; have hcz83_6 : w82.cell? ⟨gb107, 6, none⟩ = some (.bool a0_6) := bc BK107 6; have hfz83_0 := blk_frozen BK107.out 0; have hfz83_1 := blk_frozen BK107.out 1; have hfz83_2 := blk_frozen BK107.out 2; have hfz83_3 := blk_frozen BK107.out 3; have hfz83_4 := blk_frozen BK107.out 4; have hfz83_5 := blk_frozen BK107.out 5; have hfz83_6 := blk_frozen BK107.out 6))
        go_ret
        exact ⟨by first | rfl | (simp [errW_none, errW_some] <;> rfl) | (simp [*, errW_none, errW_some] <;> rfl), by repeat (first | (with_reducible first | exact HB.out | apply below_alloc | apply pw_below_drewN | apply below_drew1 | refine below_set ?_ GE107.out) | exact HB.out)⟩
  · rw [if_neg c2] at H
    have c2b0 : decide (1 ≤ a0_4) = false := decide_eq_false c2
    clear c2
    by_cases c84 : 0 ≤ a0_2
    · rw [if_pos c84] at H
      have c84b0 : decide (0 ≤ a0_2) = true := decide_eq_true c84
      clear c84
      by_cases c85 : a0_2 ≤ 1000000
      · rw [if_pos c85] at H
        have c85b0 : decide (a0_2 ≤ 1000000) = true := decide_eq_true c85
        clear c85
        by_cases c86 : 0 ≤ a0_3
        · rw [if_pos c86] at H
          have c86b0 : decide (0 ≤ a0_3) = true := decide_eq_true c86
          clear c86
          obtain rfl := Option.some.inj H
          go_enter Try.func11, Try.ntmps11
          go_wp2_with (first | ((with_reducible refine gate_dst (N := 1) rfl ?_); refine box_event ?hg (N := 1) ?hd (cs := #[.int .i64 a0_0, .int .i64 a0_1, .int .i64 a0_2, .int .i64 a0_3, .int .i64 a0_4, .int .i64 a0_5, .bool a0_6]) (t := 28) ?hr ?_; (case hd => rfl); (case hg => rfl); (case hr => first | (go_simp; done) | (go_simp; rfl)); intro gb107 hg w87 hbox hb; have n0_ := Aside0.mk (below_step (by repeat (first | (with_reducible first | exact HB.out | apply below_alloc | apply pw_below_drewN | apply below_drew1) | exact HB.out)) hb); have n1_ := Aside0.mk (hbox); have n2_ := Aside0.mk ((by rw [hg]; exact (below_size (by repeat (first | (with_reducible first | exact HB.out | apply below_alloc | apply pw_below_drewN | apply below_drew1) | exact HB.out))) : w.heap.size ≤ gb107)); have n3_ := Aside0.mk ((by rw [hg]; exact (below_size (by repeat (first | (with_reducible first | exact HB.out | apply below_alloc | apply pw_below_drewN | apply below_drew1) | exact HB.out))) : w.heap.size ≤ gb107)); clear HB; have HB := n0_; have BK107 := n1_; have GW107 := n2_; have GE107 := n3_; clear n0_ n1_ n2_ n3_; clear hb hbox hg; have hcz88_0 : w87.cell? ⟨gb107, 0, none⟩ = some (.int .i64 a0_0) := bc BK107 0; have hcz88_1 : w87.cell? ⟨gb107, 1, none⟩ = some (.int .i64 a0_1) := bc BK107 1; have hcz88_2 : w87.cell? ⟨gb107, 2, none⟩ = some (.int .i64 a0_2) := bc BK107 2; have hcz88_3 : w87.cell? ⟨gb107, 3, none⟩ = some (.int .i64 a0_3) := bc BK107 3; have hcz88_4 : w87.cell? ⟨gb107, 4, none⟩ = some (.int .i64 a0_4) := bc BK107 4; have hcz88_5 : w87.cell? ⟨gb107, 5, none⟩ = some (.int .i64 a0_5) := bc BK107 5; have hcz88_6 : w87.cell? ⟨gb107, 6, none⟩ = some (.bool a0_6) := bc BK107 6; have hfz88_0 := blk_frozen BK107.out 0; have hfz88_1 := blk_frozen BK107.out 1; have hfz88_2 := blk_frozen BK107.out 2; have hfz88_3 := blk_frozen BK107.out 3; have hfz88_4 := blk_frozen BK107.out 4; have hfz88_5 := blk_frozen BK107.out 5; have hfz88_6 := blk_frozen BK107.out 6))
          go_ret
          exact ⟨by first | rfl | (simp [errW_none, errW_some] <;> rfl) | (simp [*, errW_none, errW_some] <;> rfl), by repeat (first | (with_reducible first | exact HB.out | apply below_alloc | apply pw_below_drewN | apply below_drew1 | refine below_set ?_ GE107.out) | exact HB.out)⟩
        · rw [if_neg c86] at H
          have c86b0 : decide (0 ≤ a0_3) = false := decide_eq_false c86
          clear c86
          obtain rfl := Option.some.inj H
          go_enter Try.func11, Try.ntmps11
          go_wp2_with (first | ((with_reducible refine gate_dst (N := 1) rfl ?_); refine box_event ?hg (N := 1) ?hd (cs := #[.int .i64 a0_0, .int .i64 a0_1, .int .i64 a0_2, .int .i64 a0_3, .int .i64 a0_4, .int .i64 a0_5, .bool a0_6]) (t := 28) ?hr ?_; (case hd => rfl); (case hg => rfl); (case hr => first | (go_simp; done) | (go_simp; rfl)); intro gb107 hg w89 hbox hb; have n0_ := Aside0.mk (below_step (by repeat (first | (with_reducible first | exact HB.out | apply below_alloc | apply pw_below_drewN | apply below_drew1) | exact HB.out)) hb); have n1_ := Aside0.mk (hbox); have n2_ := Aside0.mk ((by rw [hg]; exact (below_size (by repeat (first | (with_reducible first | exact HB.out | apply below_alloc | apply pw_below_drewN | apply below_drew1) | exact HB.out))) : w.heap.size ≤ gb107)); have n3_ := Aside0.mk ((by rw [hg]; exact (below_size (by repeat (first | (with_reducible first | exact HB.out | apply below_alloc | apply pw_below_drewN | apply below_drew1) | exact HB.out))) : w.heap.size ≤ gb107)); clear HB; have HB := n0_; have BK107 := n1_; have GW107 := n2_; have GE107 := n3_; clear n0_ n1_ n2_ n3_; clear hb hbox hg; have hcz90_0 : w89.cell? ⟨gb107, 0, none⟩ = some (.int .i64 a0_0) := bc BK107 0; have hcz90_1 : w89.cell? ⟨gb107, 1, none⟩ = some (.int .i64 a0_1) := bc BK107 1; have hcz90_2 : w89.cell? ⟨gb107, 2, none⟩ = some (.int .i64 a0_2) := bc BK107 2; have hcz90_3 : w89.cell? ⟨gb107, 3, none⟩ = some (.int .i64 a0_3) := bc BK107 3; have hcz90_4 : w89.cell? ⟨gb107, 4, none⟩ = some (.int .i64 a0_4) := bc BK107 4; have hcz90_5 : w89.cell? ⟨gb107, 5, none⟩ = some (.int .i64 a0_5) := bc BK107 5; have hcz90_6 : w89.cell? ⟨gb107, 6, none⟩ = some (.bool a0_6) := bc BK107 6; have hfz90_0 := blk_frozen BK107.out 0; have hfz90_1 := blk_frozen BK107.out 1; have hfz90_2 := blk_frozen BK107.out 2; have hfz90_3 := blk_frozen BK107.out 3; have hfz90_4 := blk_frozen BK107.out 4; have hfz90_5 := blk_frozen BK107.out 5; have hfz90_6 := blk_frozen BK107.out 6))
          go_ret
          exact ⟨by first | rfl | (simp [errW_none, errW_some] <;> rfl) | (simp [*, errW_none, errW_some] <;> rfl), by repeat (first | (with_reducible first | exact HB.out | apply below_alloc | apply pw_below_drewN | apply below_drew1 | refine below_set ?_ GE107.out) | exact HB.out)⟩
      · rw [if_neg c85] at H
        have c85b0 : decide (a0_2 ≤ 1000000) = false := decide_eq_false c85
        clear c85
        obtain rfl := Option.some.inj H
        go_enter Try.func11, Try.ntmps11
        go_wp2_with (first | ((with_reducible refine gate_dst (N := 1) rfl ?_); refine box_event ?hg (N := 1) ?hd (cs := #[.int .i64 a0_0, .int .i64 a0_1, .int .i64 a0_2, .int .i64 a0_3, .int .i64 a0_4, .int .i64 a0_5, .bool a0_6]) (t := 28) ?hr ?_; (case hd => rfl); (case hg => rfl); (case hr => first | (go_simp; done) | (go_simp; rfl)); intro gb107 hg w91 hbox hb; have n0_ := Aside0.mk (below_step (by repeat (first | (with_reducible first | exact HB.out | apply below_alloc | apply pw_below_drewN | apply below_drew1) | exact HB.out)) hb); have n1_ := Aside0.mk (hbox); have n2_ := Aside0.mk ((by rw [hg]; exact (below_size (by repeat (first | (with_reducible first | exact HB.out | apply below_alloc | apply pw_below_drewN | apply below_drew1) | exact HB.out))) : w.heap.size ≤ gb107)); have n3_ := Aside0.mk ((by rw [hg]; exact (below_size (by repeat (first | (with_reducible first | exact HB.out | apply below_alloc | apply pw_below_drewN | apply below_drew1) | exact HB.out))) : w.heap.size ≤ gb107)); clear HB; have HB := n0_; have BK107 := n1_; have GW107 := n2_; have GE107 := n3_; clear n0_ n1_ n2_ n3_; clear hb hbox hg; have hcz92_0 : w91.cell? ⟨gb107, 0, none⟩ = some (.int .i64 a0_0) := bc BK107 0; have hcz92_1 : w91.cell? ⟨gb107, 1, none⟩ = some (.int .i64 a0_1) := bc BK107 1; have hcz92_2 : w91.cell? ⟨gb107, 2, none⟩ = some (.int .i64 a0_2) := bc BK107 2; have hcz92_3 : w91.cell? ⟨gb107, 3, none⟩ = some (.int .i64 a0_3) := bc BK107 3; have hcz92_4 : w91.cell? ⟨gb107, 4, none⟩ = some (.int .i64 a0_4) := bc BK107 4; have hcz92_5 : w91.cell? ⟨gb107, 5, none⟩ = some (.int .i64 a0_5) := bc BK107 5; have hcz92_6 : w91.cell? ⟨gb107, 6, none⟩ = some (.bool a0_6) := bc BK107 6; have hfz92_0 := blk_frozen BK107.out 0; have hfz92_1 := blk_frozen BK107.out 1; have hfz92_2 := blk_frozen BK107.out 2; have hfz92_3 := blk_frozen BK107.out 3; have hfz92_4 := blk_frozen BK107.out 4; have hfz92_5 := blk_frozen BK107.out 5; have hfz92_6 := blk_frozen BK107.out 6))
        go_ret
        exact ⟨by first | rfl | (simp [errW_none, errW_some] <;> rfl) | (simp [*, errW_none, errW_some] <;> rfl), by repeat (first | (with_reducible first | exact HB.out | apply below_alloc | apply pw_below_drewN | apply below_drew1 | refine below_set ?_ GE107.out) | exact HB.out)⟩
    · rw [if_neg c84] at H
      have c84b0 : decide (0 ≤ a0_2) = false := decide_eq_false c84
      clear c84
      obtain rfl := Option.some.inj H
      go_enter Try.func11, Try.ntmps11
      go_wp2_with (first | ((with_reducible refine gate_dst (N := 1) rfl ?_); refine box_event ?hg (N := 1) ?hd (cs := #[.int .i64 a0_0, .int .i64 a0_1, .int .i64 a0_2, .int .i64 a0_3, .int .i64 a0_4, .int .i64 a0_5, .bool a0_6]) (t := 28) ?hr ?_; (case hd => rfl); (case hg => rfl); (case hr => first | (go_simp; done) | (go_simp; rfl)); intro gb107 hg w93 hbox hb; have n0_ := Aside0.mk (below_step (by repeat (first | (with_reducible first | exact HB.out | apply below_alloc | apply pw_below_drewN | apply below_drew1) | exact HB.out)) hb); have n1_ := Aside0.mk (hbox); have n2_ := Aside0.mk ((by rw [hg]; exact (below_size (by repeat (first | (with_reducible first | exact HB.out | apply below_alloc | apply pw_below_drewN | apply below_drew1) | exact HB.out))) : w.heap.size ≤ gb107)); have n3_ := Aside0.mk ((by rw [hg]; exact (below_size (by repeat (first | (with_reducible first | exact HB.out | apply below_alloc | apply pw_below_drewN | apply below_drew1) | exact HB.out))) : w.heap.size ≤ gb107)); clear HB; have HB := n0_; have BK107 := n1_; have GW107 := n2_; have GE107 := n3_; clear n0_ n1_ n2_ n3_; clear hb hbox hg; have hcz94_0 : w93.cell? ⟨gb107, 0, none⟩ = some (.int .i64 a0_0) := bc BK107 0; have hcz94_1 : w93.cell? ⟨gb107, 1, none⟩ = some (.int .i64 a0_1) := bc BK107 1; have hcz94_2 : w93.cell? ⟨gb107, 2, none⟩ = some (.int .i64 a0_2) := bc BK107 2; have hcz94_3 : w93.cell? ⟨gb107, 3, none⟩ = some (.int .i64 a0_3) := bc BK107 3; have hcz94_4 : w93.cell? ⟨gb107, 4, none⟩ = some (.int .i64 a0_4) := bc BK107 4; have hcz94_5 : w93.cell? ⟨gb107, 5, none⟩ = some (.int .i64 a0_5) := bc BK107 5; have hcz94_6 : w93.cell? ⟨gb107, 6, none⟩ = some (.bool a0_6) := bc BK107 6; have hfz94_0 := blk_frozen BK107.out 0; have hfz94_1 := blk_frozen BK107.out 1; have hfz94_2 := blk_frozen BK107.out 2; have hfz94_3 := blk_frozen BK107.out 3; have hfz94_4 := blk_frozen BK107.out 4; have hfz94_5 := blk_frozen BK107.out 5; have hfz94_6 := blk_frozen BK107.out 6))
      go_ret
      exact ⟨by first | rfl | (simp [errW_none, errW_some] <;> rfl) | (simp [*, errW_none, errW_some] <;> rfl), by repeat (first | (with_reducible first | exact HB.out | apply below_alloc | apply pw_below_drewN | apply below_drew1 | refine below_set ?_ GE107.out) | exact HB.out)⟩

end Go.Proofs.Ytlofmgdjnaajjaa.Q

