/- Own text: slices.Backward over spans, as an iterator. -/
import Derived.RangeFuncNested
import Derived.RangeFuncBound
import Derived.RangeFuncCalls
import Derived.RangeFuncLeaves
import Derived.RangeFuncBox
import Derived.Shelf.Abstract
import Derived.Shelf.RegionOpen
import Derived.WalkKit
import Derived.OwnWalkIn
import Derived.TacticsInMore
import Derived.LoopNIn
import Derived.LoopIn
import Derived.KernelRfl
import Derived.Test.YtlofmgdjnaajjaaProg
namespace Go.Proofs.Ytlofmgdjnaajjaa
open Go Go.RowKit Go.Shelf Go.Proofs
set_option linter.unusedVariables false
set_option linter.unusedSimpArgs false
attribute [local go_sem] Oper.semAt_some
/-- What has come when k rounds are over. -/
def upto {α : Type} (f : Nat → α) (k : Nat) : List α := (List.range k).map f
theorem upto_succ {α : Type} (f : Nat → α) (k : Nat) : upto f (k + 1) = upto f k ++ [f k] := by simp [upto, List.range_succ]
theorem upto_length {α : Type} (f : Nat → α) (k : Nat) : (upto f k).length = k := by simp [upto]
/-- An index and an interval. -/
structure Row where
  i : Nat
  lo : Int
  hi : Int
abbrev Row.enc (x : Row) : Array Value := #[.int .i64 (x.i : Int), .agg #[.int .i64 x.lo, .int .i64 x.hi]]
/-- Two blocks lie as they lay. -/
def Two (c d : Nat) (W W' : World) : Prop := W'.heap[c]? = W.heap[c]? ∧ W'.heap[d]? = W.heap[d]?
theorem Two.cell {c d : Nat} {W W' : World} (h : Two c d W W') (off : Nat) : W'.cell? ⟨c, off, none⟩ = W.cell? ⟨c, off, none⟩ ∧ W'.cell? ⟨d, off, none⟩ = W.cell? ⟨d, off, none⟩ := by
  simp only [World.cell?, h.1, h.2, and_self]
theorem Two.trans {c d : Nat} {A B C : World} (h : Two c d A B) (k : Two c d B C) : Two c d A C := ⟨k.1.trans h.1, k.2.trans h.2⟩
theorem Two.refl (c d : Nat) (A : World) : Two c d A A := ⟨rfl, rfl⟩
abbrev down (len : Nat) (lo hi : Nat → Int) (j : Nat) : Row := ⟨len - 1 - j, lo (len - 1 - j), hi (len - 1 - j)⟩
set_option maxRecDepth 100000 in
set_option maxHeartbeats 2000000 in
theorem bw1_in {α : Type} (enc : α → Row) (f : Nat → α) (F : Fence) (n : Nat) (hF : F.fn 45) (hro : F.round = none) (hn : 1 ≤ n) (l Bs c off len cap : Nat) (lo hi : Nat → Int) (hlen : len ≤ 1001) (hf : ∀ k, k < len → enc (f k) = down len lo hi k) (J Jx : List α → World → Prop)
    (hY : ∀ pre x W, J pre W → pre.length < len → YieldAt F (n - 1) Try.prog l #[.int .i64 ((enc x).i : Int), .agg #[.int .i64 (enc x).lo, .int .i64 (enc x).hi]] W fun e W' =>
      (e = .returned (.bool true) ∧ J (pre ++ [x]) W' ∧ Two c Bs W W') ∨ (e = .returned (.bool false) ∧ Jx (pre ++ [x]) W'))
    (W : World) (hBs : W.cell? ⟨Bs, 0, none⟩ = some (.slice (some ⟨c, off, none⟩) len cap)) (hc : ∀ j, j < len → W.cell? ⟨c, off + j * 2, none⟩ = some (.int .i64 (lo j)) ∧ W.cell? ⟨c, off + j * 2 + 1, none⟩ = some (.int .i64 (hi j))) (h0 : J [] W) :
    CallsIn F n Try.prog 45 #[.func (.yield l) #[] #[], .pointer (some ⟨Bs, 0, none⟩)] W fun e W' => (∃ v, e = .returned v) ∧
      ((∃ ys, ys = upto f len ∧ J ys W') ∨ (∃ pre, (∃ k, k ≤ len ∧ pre = upto f k) ∧ Jx pre W')) := by
  refine callsIn_of_wp Try.func45 rfl hF ?_ hro
  simp only [Try.ntmps45, List.size_toArray, List.length_cons, List.length_nil, Nat.reduceAdd, Nat.reduceSub, Array.replicate_succ, Array.replicate_zero, List.push_toArray, List.append_toArray, List.nil_append, List.cons_append]
  have hw1 : wrap64 ((len : Int) - 1) = (len : Int) - 1 := by unfold wrap64; omega
  gi_wp2
  gi_loopw [3] (fun i wr => ∃ k : Nat, k ≤ len ∧ i = .int .i64 ((len : Int) - 1 - k) ∧ J (upto f k) wr ∧ Two c Bs W wr)
    (fun i _ => (intOf i + 1).toNat)
  case atStart => exact ⟨0, Nat.zero_le _, by simp [hw1], h0, Two.refl _ _ _⟩
  case round =>
    obtain ⟨k, hk, rfl, hJs, hnx⟩ := hrel
    have hBs' : wr.cell? ⟨Bs, 0, none⟩ = some (.slice (some ⟨c, off, none⟩) len cap) := (hnx.cell 0).2.trans hBs
    have hcx : ∀ j, j < len → wr.cell? ⟨c, off + j * 2, none⟩ = some (.int .i64 (lo j)) ∧ wr.cell? ⟨c, off + j * 2 + 1, none⟩ = some (.int .i64 (hi j)) := fun j hj => ⟨(hnx.cell _).1.trans (hc j hj).1, (hnx.cell _).1.trans (hc j hj).2⟩
    by_cases hlt : k < len
    · obtain ⟨fn, tmps, assign, body, hy, hR⟩ := hY _ (f k) wr hJs (by rw [upto_length]; exact hlt)
      rw [hf k hlt] at hy
      dsimp only at hy
      have e0 : (((len - 1 - k : Nat) : Int)) = (len : Int) - 1 - k := by omega
      have e1 : ((len : Int) - 1 - k).toNat = len - 1 - k := by omega
      have hge : (0 : Int) ≤ (len : Int) - 1 - k := by omega
      have hll : (len : Int) - 1 - k < len := by omega
      have hcc := hcx (len - 1 - k) (by omega)
      have hc1 := hcc.1
      have hc2 := hcc.2
      rw [e0] at hy
      have hw2 : wrap64 ((len : Int) - 1 - k - 1) = (len : Int) - 1 - k - 1 := by unfold wrap64; omega
      gi_wp2
      refine hR.mono ?_
      rintro e W3 (⟨rfl, hJ3, hk3⟩ | ⟨rfl, hJx3⟩)
      · gi_wp2
        go_roundw
        case rel => exact ⟨k + 1, by omega, by simp; omega, by rw [upto_succ]; exact hJ3, hnx.trans hk3⟩
        case measure => simp [intOf]; omega
      · gi_wp2
        refine bodyPost_ret (results_none rfl _ _ _) rfl ?_
        exact ⟨⟨_, rfl⟩, .inr ⟨_, ⟨k + 1, by omega, (upto_succ _ _).symm⟩, hJx3⟩⟩
    · obtain rfl : k = len := by omega
      have hneg : ¬ (0 : Int) ≤ (k : Int) - 1 - k := by omega
      gi_wp2
      go_end0
      exact ⟨⟨_, rfl⟩, .inl hJs⟩
theorem backward_in (F : Fence) (n : Nat) (h5 : F.fn 40) (hro : F.round = none) (a : Option Addr) (len cap : Nat) (w : World) :
    CallsIn F n Try.prog 40 #[.slice a len cap] w fun e w' => e = .returned (.func (.func 45) #[] #[.pointer (some ⟨w.heap.size, 0, none⟩)]) ∧ w' = w.alloc (.cells #[.slice a len cap] 84) := by
  refine callsIn_of_wp Try.func40 rfl h5 ?_ hro
  simp only [Try.ntmps40, List.size_toArray, List.length_cons, List.length_nil, Nat.reduceAdd, Nat.reduceSub, Array.replicate_succ, Array.replicate_zero, List.push_toArray, List.append_toArray, List.nil_append, List.cons_append]
  gi_wp2
  go_ret
  exact ⟨rfl, rfl⟩
theorem bw_stops {α : Type} (enc : α → Row) (f : Nat → α) (F : Fence) (n : Nat) (hF : F.fn 45) (hro : F.round = none) (hn : 1 ≤ n) (Bs c off len cap : Nat) (lo hi : Nat → Int) (hlen : len ≤ 1001) (hf : ∀ k, k < len → enc (f k) = down len lo hi k) (w : World) (hBs : w.cell? ⟨Bs, 0, none⟩ = some (.slice (some ⟨c, off, none⟩) len cap)) (hc : ∀ j, j < len → w.cell? ⟨c, off + j * 2, none⟩ = some (.int .i64 (lo j)) ∧ w.cell? ⟨c, off + j * 2 + 1, none⟩ = some (.int .i64 (hi j))) (hBl : Bs < w.heap.size) (hcl : 0 < len → c < w.heap.size) :
    SeqStopsK F n Try.prog 45 #[.pointer (some ⟨Bs, 0, none⟩)] (fun x => (enc x).enc) (Two c Bs) (fun ys => ys = upto f len) (fun pre => ∃ k, k ≤ len ∧ pre = upto f k) len w := fun l J Jx W hW _ _ hY h0 =>
  bw1_in enc f F n hF hro hn l Bs c off len cap lo hi hlen hf J Jx hY W ((hW.cell (p := ⟨Bs, 0, none⟩) hBl).trans hBs) (fun j hj => ⟨(hW.cell (p := ⟨c, off + j * 2, none⟩) (hcl (by omega))).trans (hc j hj).1, (hW.cell (p := ⟨c, off + j * 2 + 1, none⟩) (hcl (by omega))).trans (hc j hj).2⟩) h0
/-- A loop over an iterator whose second variable, two cells, lies in a box. -/
theorem rangeB {α : Type} {P : Program} {g : Operand} {ps : Array Tmp} {assign body : Code} {Q : Exit → Act → World → Prop} {a : Act} {w : World} {n : Nat}
    (h1 : 1 ≤ n) {gf : Nat} {lb : Array Value} (hg : a.eval g = .func (.func gf) #[] lb) (eg : ∀ args w, (callFunc gf args).run P w = .ok (.enter gf args) w)
    {encs : α → Array Value} {Kp : World → World → Prop} {S Sp : List α → Prop} {N : Nat} (hseq : SeqStopsK Fence.wide (n - 1) P gf lb encs Kp S Sp N w)
    (hKt : ∀ {A B C : World}, Kp A B → Kp B C → Kp A C) (hKb : ∀ (W : World) (l : Nat) (o o' : Obj), w.heap.size ≤ l → W.heap[l]? = some o → o.isCells = false → o.isWalk = false → Kp W (W.putObj l o')) (hps : ∀ x, (encs x).size = ps.size)
    (I : List α → World → Prop) (hI : OwnFrom w.heap.size I) (h0 : I [] w) (hKa : ∀ pre W o, I pre W → w.heap.size ≤ W.heap.size ∧ Kp W (W.alloc o)) (ti tb T : Nat) (iv lo hi : α → Value)
    (hassign : ∀ (l : Nat) (x : α) (W : World) (K : Act → World → Prop), K { tmps := (((ps.zip (encs x)).foldl (fun t (p, v) => t.setIfInBounds p v) a.tmps).setIfInBounds ti (iv x)).setIfInBounds tb (.pointer (some ⟨W.heap.size, 0, none⟩)), defers := [] } (W.alloc (.cells #[lo x, hi x] T)) →
      assign.wpIn (Fence.wide.inRound l) (n - 1 - 1) P (Exit.then K (fun _ _ _ => False)) { tmps := (ps.zip (encs x)).foldl (fun t (p, v) => t.setIfInBounds p v) a.tmps, defers := [] } W)
    (hbody : ∀ (l : Nat) (pre : List α) (x : α) (Bx : Nat) (W : World), I pre W → w.heap.size ≤ Bx → W.cell? ⟨Bx, 0, none⟩ = some (lo x) → W.cell? ⟨Bx, 1, none⟩ = some (hi x) → pre.length < N →
      body.wpIn (Fence.wide.inRound l) (n - 1 - 1) P (ownPostG w.heap.size Kp I (fun _ _ _ => False) (pre ++ [x]) W) { tmps := (((ps.zip (encs x)).foldl (fun t (p, v) => t.setIfInBounds p v) a.tmps).setIfInBounds ti (iv x)).setIfInBounds tb (.pointer (some ⟨Bx, 0, none⟩)), defers := [] } W)
    (hdone : ∀ (D : Nat) (xs : List α) (W : World), w.heap.size ≤ D → S xs → I xs W → W.heap[D]? = some (.deferred (some [])) → Q .normal { a with defers := { target := .collected D, args := #[] } :: a.defers } W) :
    (Code.rangeFunc g ps assign body).wpIn Fence.wide n P Q a w := by
  refine wpIn_rangeFunc_ownH rfl h1 hg trivial eg hseq hKt hKb (Below.refl _ _) hps I (fun _ _ _ => False) hI (fun _ _ _ _ _ h _ _ => h) h0
    (fun x a' W => ∃ Bx, w.heap.size ≤ Bx ∧ W.cell? ⟨Bx, 0, none⟩ = some (lo x) ∧ W.cell? ⟨Bx, 1, none⟩ = some (hi x) ∧ a' = { tmps := (((ps.zip (encs x)).foldl (fun t (p, v) => t.setIfInBounds p v) a.tmps).setIfInBounds ti (iv x)).setIfInBounds tb (.pointer (some ⟨Bx, 0, none⟩)), defers := [] })
    (fun x a' => Own.from (fun s A B row ⟨Bx, hB, e1, e2, e3⟩ hg hr => ⟨Bx, hB, cell_kept e1 hg hr, cell_kept e2 hg hr, e3⟩) _) ?_ ?_ hdone ?_
  · intro l pre x W K hi' hK
    obtain ⟨hs, hk⟩ := hKa pre W (.cells #[lo x, hi x] T) hi'
    refine hassign l x W K (hK _ _ ((KeepsOthers.alloc W _).from _) hk (hI.alloc _ hi') ⟨W.heap.size, hs, ?_, ?_, rfl⟩)
    · simp only [World.cell?, World.alloc_heap_new]; rfl
    · simp only [World.cell?, World.alloc_heap_new]; rfl
  · rintro l pre x a' W hl ⟨r, hr⟩ hi' ⟨Bx, hB, e1, e2, rfl⟩ hlt
    exact hbody l pre x Bx W hi' hB e1 e2 hlt
  · intro D c pre W _ _ h _
    exact h.elim
end Go.Proofs.Ytlofmgdjnaajjaa
