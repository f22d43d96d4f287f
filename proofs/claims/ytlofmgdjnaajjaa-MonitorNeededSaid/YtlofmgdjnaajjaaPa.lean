/- Own text: paths of drifts. -/
import Derived.Test.YtlofmgdjnaajjaaBw
import Derived.Test.YtlofmgdjnaajjaaDr
namespace Go.Proofs.Ytlofmgdjnaajjaa
open Go Go.RowKit Go.Shelf Go.Proofs
set_option linter.unusedVariables false
set_option linter.unusedSimpArgs false
attribute [local go_sem] Oper.semAt_some
attribute [local irreducible] Go.Ev.callN Go.Ev.codeE
open Go.Ev (AV VRel VRels VRow Ctr CtrOk APure AVEqs AVEq noEta Kept)
theorem vrel_kept_box {w : World} {O : Nat → Prop} {η : Go.Ev.Eta} {a : AV} {x : Value} (o : Obj) (h : VRel w O η a x) : VRel (w.alloc o) (fun c => O c ∨ c = w.heap.size) η a x :=
  h.kept ⟨fun c hc _ => Below.heap_alloc w o c hc, fun c hc => hc.elim .inl (fun e => .inr (by omega))⟩
theorem vrow_two {w : World} {O : Nat → Prop} {c off : Nat} {a b : Value} (h : VRow w O c off [.v a, .v b]) : ¬ O c ∧ w.cell? ⟨c, off, none⟩ = some a ∧ w.cell? ⟨c, off + 1, none⟩ = some b := by
  cases h with
  | cons _ _ _ x _ h1 h2 h3 h4 h5 =>
    cases h4
    cases h5 with
    | cons _ _ _ y _ g1 g2 g3 g4 g5 =>
      cases g4
      exact ⟨h1, h2, g2⟩
theorem cell_box {W : World} {B : Nat} {v : Value} {t : TypeId} (h : W.heap[B]? = some (.cells #[v] t (0, 0))) : W.cell? ⟨B, 0, none⟩ = some v ∧ W.frozen? ⟨B, 0, none⟩ = false := by
  constructor <;> simp [World.cell?, World.frozen?, h]
theorem cell_new (W : World) (v : Value) (t : TypeId) : (W.alloc (.cells #[v] t)).cell? ⟨W.heap.size, 0, none⟩ = some v ∧ (W.alloc (.cells #[v] t)).frozen? ⟨W.heap.size, 0, none⟩ = false :=
  cell_box (World.alloc_heap_new W _)
theorem frozen_more {W : World} {a : Addr} {v : Value} (o : Obj) (h : W.cell? a = some v) (hf : W.frozen? a = false) : (W.alloc o).frozen? a = false := (frozen_kept h (World.grownBy_alloc W o none) (fun r e => by cases e)).trans hf
theorem cell_more {W : World} {a : Addr} {v : Value} (o : Obj) (h : W.cell? a = some v) : (W.alloc o).cell? a = some v := _root_.Go.cell_kept h (World.grownBy_alloc W o none) (fun r e => by cases e)
/-- What a call of spans gives. -/
theorem spans_calls (d : Dr) (R : IL) (hd : d.ok) (hn : R.n ≤ 1000) (w : World) (O : Nat → Prop) (xr : Value) (hO : ∀ c, O c → c < w.heap.size) (hR : VRel w O noEta R.av xr) :
    Calls Try.prog 39 #[.int .i64 d.lo, .int .i64 d.hi, .int .i64 d.step, .int .i64 d.err, xr] w fun e w' => ∃ c off cap, ¬ O c ∧ c < w'.heap.size ∧
      e = .returned (.tuple #[.agg #[.int .i64 d.lo, .int .i64 d.hi, .int .i64 d.step, .int .i64 d.err], .slice (some ⟨c, off, none⟩) (d.got R.g R.n + 1) cap, .int .i64 (if d.got R.g R.n = R.n then 0 else 440)]) ∧
      (∀ j, j < d.got R.g R.n + 1 → w'.cell? ⟨c, off + j * 2, none⟩ = some (.int .i64 (d.sp R.g j).lo) ∧ w'.cell? ⟨c, off + j * 2 + 1, none⟩ = some (.int .i64 (d.sp R.g j).hi)) ∧ Below w.heap.size w w' := by
  have h := (ok_spans.2 [.v (.int .i64 d.lo), .v (.int .i64 d.hi), .v (.int .i64 d.step), .v (.int .i64 d.err), R.av] _ _ rfl ⟨fun _ _ => rfl, hd, hn⟩) w O [.int .i64 d.lo, .int .i64 d.hi, .int .i64 d.step, .int .i64 d.err, xr] hO (.cons _ _ _ _ _ (.v _ _) (.cons _ _ _ _ _ (.v _ _) (.cons _ _ _ _ _ (.v _ _) (.cons _ _ _ _ _ (.v _ _) (.cons _ _ _ _ _ hR (.nil _))))))
  refine h.mono fun e w' ⟨x, he, hv, hb⟩ => ?_
  subst he
  cases hv with
  | tup _ _ xs hv =>
  cases hv with
  | cons _ _ x0 _ _ h0 hv =>
  cases hv with
  | cons _ _ x1 _ _ h1 hv =>
  cases hv with
  | cons _ _ x2 _ _ h2 hv =>
  cases hv
  cases h2
  cases h0 with
  | agg _ _ ys h0 _ =>
  cases h0 with
  | cons _ _ y0 _ _ g0 h0 =>
  cases h0 with
  | cons _ _ y1 _ _ g1 h0 =>
  cases h0 with
  | cons _ _ y2 _ _ g2 h0 =>
  cases h0 with
  | cons _ _ y3 _ _ g3 h0 =>
  cases h0
  cases g0
  cases g1
  cases g2
  cases g3
  cases h1 with
  | rs _ _ _ _ _ c off cap k1 k2 k3 k4 =>
  refine ⟨c, off, cap, (vrow_two (k4 0 (by omega))).1, ?_, rfl, fun j hj => (vrow_two (k4 j hj)).2, hb⟩
  exact Go.Ev.cell_lt (vrow_two (k4 0 (by omega))).2.1
namespace Dr
/-- What Path keeps in hand behind its rounds. -/
def lasts (d : Dr) (g : Nat → Int) (n : Nat) (last : Int) : Nat → Int
  | 0 => last
  | m + 1 => min (max (d.lasts g n last m) (d.sp g (n - m)).lo) (d.sp g (n - m)).hi
def back (d : Dr) (g : Nat → Int) (n : Nat) (last : Int) (i : Nat) : Int := d.lasts g n last (n + 1 - i)
def pathE (d : Dr) (g : Nat → Int) (n : Nat) (last : Int) : Int := if d.got g n = n then (if (d.sp g n).lo ≤ last ∧ last ≤ (d.sp g n).hi then 0 else 4) else 440
def pathN (d : Dr) (g : Nat → Int) (n : Nat) (last : Int) : Nat := if d.pathE g n last = 0 then n + 1 else 0
end Dr
theorem err_rel {W : World} {O : Nat → Prop} {N : Nat} {f : Nat → List AV} {e e' : Int} (hN : N = 0) (he : e' = e) : VRel W O noEta (.tup [.rs 1 N none f, .v (.int .i64 e')]) (.tuple #[.slice none 0 0, .int .i64 e]) := by
  subst hN he
  exact .tup _ _ [.slice none 0 0, .int .i64 e'] (.cons _ _ _ _ _ (.rsNil _ _ _ _ _ (fun m h => by cases h)) (.cons _ _ _ _ _ (.v _ _) (.nil _)))
/-- What Path has in hand behind rounds, and what its new row holds. -/
def pst (n : Nat) (last : Int) (pre : List {x : Row // x.i < n + 1}) : Int × (Nat → Int) := pre.foldl (fun s x => (min (max s.1 x.1.lo) x.1.hi, fun j => if j = x.1.i then min (max s.1 x.1.lo) x.1.hi else s.2 j)) (last, fun _ => 0)
theorem pst_snoc (n : Nat) (last : Int) (pre : List {x : Row // x.i < n + 1}) (x : {x : Row // x.i < n + 1}) : pst n last (pre ++ [x]) = (min (max (pst n last pre).1 x.1.lo) x.1.hi, fun j => if j = x.1.i then min (max (pst n last pre).1 x.1.lo) x.1.hi else (pst n last pre).2 j) := by
  simp [pst, List.foldl_append]
def rowAt (d : Dr) (g : Nat → Int) (n : Nat) (k : Nat) : {x : Row // x.i < n + 1} := ⟨down (n + 1) (fun j => (d.sp g j).lo) (fun j => (d.sp g j).hi) k, by show n + 1 - 1 - k < n + 1; omega⟩
theorem pst_upto (d : Dr) (g : Nat → Int) (n : Nat) (last : Int) : ∀ k, k ≤ n + 1 → (pst n last (upto (rowAt d g n) k)).1 = d.lasts g n last k ∧ ∀ j, n + 1 - k ≤ j → j < n + 1 → (pst n last (upto (rowAt d g n) k)).2 j = d.back g n last j
  | 0, _ => ⟨rfl, fun j h1 h2 => by omega⟩
  | k + 1, hk => by
    obtain ⟨h1, h2⟩ := pst_upto d g n last k (by omega)
    rw [upto_succ, pst_snoc]
    have e : min (max (pst n last (upto (rowAt d g n) k)).1 (rowAt d g n k).1.lo) (rowAt d g n k).1.hi = d.lasts g n last (k + 1) := by
      rw [h1]
      show min (max (d.lasts g n last k) (d.sp g (n + 1 - 1 - k)).lo) (d.sp g (n + 1 - 1 - k)).hi = min (max (d.lasts g n last k) (d.sp g (n - k)).lo) (d.sp g (n - k)).hi
      rfl
    refine ⟨e, fun j h3 h4 => ?_⟩
    have hi : (rowAt d g n k).1.i = n - k := rfl
    show (if j = (rowAt d g n k).1.i then _ else _) = _
    rw [hi]
    by_cases hj : j = n - k
    · rw [if_pos hj, e]
      unfold Dr.back
      congr 1
      omega
    · rw [if_neg hj]
      exact h2 j (by omega) h4
theorem made_at {n i : Nat} {M : Array Value} (h : M = madeCells (Value.int .i64 0).cells n) (hi : i < n) : M[i]? = some (.int .i64 0) := by
  subst h
  simp [madeCells, hi, Value.cells, Nat.mod_one]
theorem two_alloc {c d : Nat} {W : World} (o : Obj) (hc : c < W.heap.size) (hd : d < W.heap.size) : Two c d W (W.alloc o) := ⟨Below.heap_alloc W o c hc, Below.heap_alloc W o d hd⟩
theorem two_put {c d l : Nat} {W : World} (o : Obj) (hc : c ≠ l) (hd : d ≠ l) : Two c d W (W.putObj l o) := ⟨World.putObj_heap_other hc, World.putObj_heap_other hd⟩
theorem two_set {c d : Nat} {W : World} {p : Addr} (v : Value) (hc : c ≠ p.block) (hd : d ≠ p.block) : Two c d W (W.setCell p v) := ⟨Below.heap_setCell _ _ _ _ hc, Below.heap_setCell _ _ _ _ hd⟩
theorem far {W : World} {b c i j : Nat} (v : Value) (h : b ≠ c) : (W.setCell ⟨b, i, none⟩ v).cell? ⟨c, j, none⟩ = W.cell? ⟨c, j, none⟩ :=
  World.cell?_setCell_other _ _ _ _ (fun e => h (congrArg Addr.block e))
theorem far' {W : World} {b i j : Nat} (v : Value) (h : i ≠ j) : (W.setCell ⟨b, i, none⟩ v).cell? ⟨b, j, none⟩ = W.cell? ⟨b, j, none⟩ :=
  World.cell?_setCell_other _ _ _ _ (fun e => h (congrArg Addr.off e))
theorem ok_rel {W : World} {O : Nat → Prop} {N n b : Nat} {g : Nat → Int} {e' : Int} (hN : N = n) (he : e' = 0) (hO : ¬ O b) (h : ∀ j, j < n → W.cell? ⟨b, j, none⟩ = some (.int .i64 (g j))) : VRel W O noEta (.tup [.rs 1 N none (fun i => [.v (.int .i64 (g i))]), .v (.int .i64 e')]) (.tuple #[.slice (some ⟨b, 0, none⟩) n n, .int .i64 0]) := by
  subst hN he
  refine .tup _ _ [.slice (some ⟨b, 0, none⟩) N N, .int .i64 0] (.cons _ _ _ _ _ (.rs _ _ _ _ _ _ _ _ (Nat.le_refl _) (fun m h => by cases h) (fun i hi => rfl) (fun i hi => .cons _ _ _ _ _ hO ?_ rfl (.v _ _) (.nil _ _))) (.cons _ _ _ _ _ (.v _ _) (.nil _)))
  have := h i hi
  simpa using this
abbrev ints' (n : Nat) (f : Nat → Int) : AV := .rs 1 n none (fun i => [.v (.int .i64 (f i))])
set_option maxRecDepth 100000
set_option maxHeartbeats 4000000
def g_Path : List AV → Option (Prop × AV)
  | [.v (.int .i64 lo), .v (.int .i64 hi), .v (.int .i64 step), .v (.int .i64 err), .rs 1 R_0 R_1 R_2, .v (.int .i64 last)] => some ((∀ i, i < R_0 → R_2 i = [.v (.int .i64 (intAt (R_2 i)))]) ∧ ((Dr.mk lo hi step err).ok ∧ (⟨R_0, fun i => intAt (R_2 i)⟩ : IL).n ≤ 1000), .tup [ints' ((Dr.mk lo hi step err).pathN (⟨R_0, fun i => intAt (R_2 i)⟩ : IL).g (⟨R_0, fun i => intAt (R_2 i)⟩ : IL).n last) ((Dr.mk lo hi step err).back (⟨R_0, fun i => intAt (R_2 i)⟩ : IL).g (⟨R_0, fun i => intAt (R_2 i)⟩ : IL).n last), .v (.int .i64 ((Dr.mk lo hi step err).pathE (⟨R_0, fun i => intAt (R_2 i)⟩ : IL).g (⟨R_0, fun i => intAt (R_2 i)⟩ : IL).n last))])
  | _ => none
theorem g_Path_of {args : List AV} {p : Prop} {v : AV} (h : g_Path  args = some (p, v)) : ∃ lo hi step err R_0 R_1 R_2 last, args = [.v (.int .i64 lo), .v (.int .i64 hi), .v (.int .i64 step), .v (.int .i64 err), .rs 1 R_0 R_1 R_2, .v (.int .i64 last)] ∧ p = ((∀ i, i < R_0 → R_2 i = [.v (.int .i64 (intAt (R_2 i)))]) ∧ ((Dr.mk lo hi step err).ok ∧ (⟨R_0, fun i => intAt (R_2 i)⟩ : IL).n ≤ 1000)) ∧ v = .tup [ints' ((Dr.mk lo hi step err).pathN (⟨R_0, fun i => intAt (R_2 i)⟩ : IL).g (⟨R_0, fun i => intAt (R_2 i)⟩ : IL).n last) ((Dr.mk lo hi step err).back (⟨R_0, fun i => intAt (R_2 i)⟩ : IL).g (⟨R_0, fun i => intAt (R_2 i)⟩ : IL).n last), .v (.int .i64 ((Dr.mk lo hi step err).pathE (⟨R_0, fun i => intAt (R_2 i)⟩ : IL).g (⟨R_0, fun i => intAt (R_2 i)⟩ : IL).n last))] := by
  unfold g_Path at h
  split at h
  · cases h; exact ⟨_, _, _, _, _, _, _, _, rfl, rfl, rfl⟩
  · cases h
def c_Path : Ctr := ⟨26, g_Path ⟩
theorem ok_Path : CtrOk Try.prog (c_Path ) := by
  refine ⟨⟨_, Try.func26, by kernel_rfl, by kernel_rfl⟩, fun args p v h hp => ?_⟩
  obtain ⟨lo, hi, step, err, R_0, R_1, R_2, last, rfl, rfl, rfl⟩ := g_Path_of  h
  obtain ⟨e_0, hp⟩ := hp
  intro w O xs hO hV
  replace hV := AVEqs.rel (.cons _ _ _ _ (.refl _) (.cons _ _ _ _ (.refl _) (.cons _ _ _ _ (.refl _) (.cons _ _ _ _ (.refl _) (.cons _ _ _ _ (IL.eqv e_0) (.cons _ _ _ _ (.refl _) .nil)))))) hV
  generalize hx_R : (⟨R_0, fun i => intAt (R_2 i)⟩ : IL) = R at *
  clear h
  clear hx_R
  obtain ⟨d, hd⟩ : ∃ d, d = Dr.mk lo hi step err := ⟨_, rfl⟩
  rw [← hd] at hp ⊢
  obtain ⟨e1, e2, e3, e4⟩ : d.lo = lo ∧ d.hi = hi ∧ d.step = step ∧ d.err = err := by rw [hd]; exact ⟨rfl, rfl, rfl, rfl⟩
  clear hd
  subst e1 e2 e3 e4
  obtain ⟨hdo, hn⟩ := hp
  cases hV with
  | cons _ _ x0 _ _ h0 hV =>
  cases hV with
  | cons _ _ x1 _ _ h1 hV =>
  cases hV with
  | cons _ _ x2 _ _ h2 hV =>
  cases hV with
  | cons _ _ x3 _ _ h3 hV =>
  cases hV with
  | cons _ _ xr _ _ hR hV =>
  cases hV with
  | cons _ _ x5 _ _ h5 hV =>
  cases hV
  cases h0
  cases h1
  cases h2
  cases h3
  cases h5
  have hsp := spans_calls d R hdo hn (w.alloc (.cells #[.int .i64 last] 3)) (fun c => O c ∨ c = w.heap.size) xr (fun c hc => by
    rw [World.size_alloc]
    rcases hc with hc | hc
    · have := hO c hc; omega
    · omega) (vrel_kept_box _ hR)
  have hg := d.got_le R.g R.n
  refine (callsIn_wide (n := 10)).1 ?_
  refine callsIn_of_wp_marks Try.func26 rfl trivial ?_ rfl
  simp only [Try.ntmps26, List.size_toArray, List.length_cons, List.length_nil, Nat.reduceAdd, Nat.reduceSub, Array.replicate_succ, Array.replicate_zero, List.push_toArray, List.append_toArray, List.nil_append, List.cons_append]
  gi_wp2
  refine ⟨trivial, (callsIn_wide.2 hsp).mono ?_⟩
  rintro e w' ⟨c, off, cap, hOc, hcl, rfl, hcells, hB⟩
  have hws : w.heap.size < w'.heap.size := by
    have := hB.size
    simp at this
    omega
  have hBw : Below w.heap.size w w' := ((Below.refl w.heap.size w).alloc (Nat.le_refl _) _).trans (hB.mono (by simp))
  by_cases hgot : d.got R.g R.n = R.n
  · rw [if_pos hgot, hgot]
    rw [hgot] at hcells
    have hl0 : w'.cell? ⟨w.heap.size, 0, none⟩ = some (.int .i64 last) := (hB.cell (p := ⟨w.heap.size, 0, none⟩) (by simp)).trans (cell_new w (.int .i64 last) 3).1
    have hl1 := fun o => cell_more o hl0
    have hl2 := fun o o' => cell_more o' (hl1 o)
    have hn0 := (hcells R.n (by omega)).1
    have hn1 := (hcells R.n (by omega)).2
    have hm0 := fun o => cell_more o hn0
    have hm1 := fun o => cell_more o hn1
    have hw1 : wrap64 (((R.n + 1 : Nat) : Int) - 1) = (R.n : Int) := by unfold wrap64; omega
    have hw1' : wrap64 ((R.n : Int) + 1 - 1) = (R.n : Int) := by unfold wrap64; omega
    have hw2 : (R.n : Int).toNat = R.n := rfl
    by_cases hlo : (d.sp R.g R.n).lo ≤ last
    · by_cases hhi : last ≤ (d.sp R.g R.n).hi
      · have hN : d.pathN R.g R.n last = R.n + 1 := by simp [Dr.pathN, Dr.pathE, hgot, hlo, hhi]
        have hE : d.pathE R.g R.n last = 0 := by simp [Dr.pathE, hgot, hlo, hhi]
        have q1 : ¬ last < (d.sp R.g R.n).lo := by omega
        have q2 : ¬ (d.sp R.g R.n).hi < last := by omega
        have hinfo : (Try.prog.info? 3).map (fun i => (i.zero, i.size, i.bytes)) = some (some (.int .i64 0), 1, 8) := by kernel_rfl
        obtain ⟨i0, hi0, hz0, hz1, hz2⟩ := info_parts hinfo
        obtain ⟨M, hM⟩ : ∃ M, M = madeCells (Value.int .i64 0).cells (((R.n : Int) + 1).toNat * i0.size) := ⟨_, rfl⟩
        have hMs : M.size = R.n + 1 := by rw [hM, size_madeCells, hz1]; omega
        have hMat : ∀ i, i < R.n + 1 → M[i]? = some (.int .i64 0) := fun i hi => made_at hM (by rw [hz1]; omega)
        have hmk : ∀ W : World, (Instr.makeSlice 47 (.int .i64 ((R.n : Int) + 1)) (.int .i64 ((R.n : Int) + 1))).run Try.prog W = .ok (.slice (some ⟨W.heap.size, 0, none⟩) (R.n + 1) (R.n + 1)) (W.alloc (.cells M 3)) := fun W => by
          have h := run_makeSlice (P := Try.prog) W 47 3 i0 (.int .i64 0) (by kernel_rfl) hi0 hz0 .i64 .i64 ((R.n : Int) + 1) ((R.n : Int) + 1) (by omega) (by omega) (by rw [hz1]; omega) (by rw [hz2]; omega) (by omega)
          rw [← hM] at h
          have e : ((R.n : Int) + 1).toNat = R.n + 1 := by omega
          rw [e] at h
          exact h
        clear hM
        gi_wp2
        refine ⟨trivial, (backward_in Fence.wide 9 trivial rfl _ _ _ _).mono ?_⟩
        rintro e w2 ⟨rfl, rfl⟩
        gi_wp2
        obtain ⟨WL, hWL⟩ : ∃ WL, WL = ((((w'.alloc (.cells #[.int .i64 d.lo, .int .i64 d.hi, .int .i64 d.step, .int .i64 d.err] 79)).alloc (.cells #[.int .i64 (d.sp R.g R.n).lo, .int .i64 (d.sp R.g R.n).hi] 77)).alloc (.cells M 3)).alloc (.cells #[.slice (some ⟨w'.heap.size + 1 + 1, 0, none⟩) (R.n + 1) (R.n + 1)] 47)).alloc (.cells #[.slice (some ⟨c, off, none⟩) (R.n + 1) cap] 84) := ⟨_, rfl⟩
        rw [← hWL]
        have hsz : WL.heap.size = w'.heap.size + 5 := by rw [hWL]; simp
        have hLB : Below w.heap.size w WL := by
          rw [hWL]
          exact ((((hBw.alloc (Nat.le_of_lt hws) _).alloc (by simp; omega) _).alloc (by simp; omega) _).alloc (by simp; omega) _).alloc (by simp; omega) _
        have hLl : WL.cell? ⟨w.heap.size, 0, none⟩ = some (.int .i64 last) := by
          rw [hWL]; exact cell_more _ (cell_more _ (cell_more _ (cell_more _ (cell_more _ hl0))))
        have hLb : WL.cell? ⟨w'.heap.size + 1 + 1 + 1, 0, none⟩ = some (.slice (some ⟨w'.heap.size + 1 + 1, 0, none⟩) (R.n + 1) (R.n + 1)) := by
          rw [hWL]
          refine cell_more _ ?_
          have := (cell_new (((w'.alloc (.cells #[.int .i64 d.lo, .int .i64 d.hi, .int .i64 d.step, .int .i64 d.err] 79)).alloc (.cells #[.int .i64 (d.sp R.g R.n).lo, .int .i64 (d.sp R.g R.n).hi] 77)).alloc (.cells M 3)) (.slice (some ⟨w'.heap.size + 1 + 1, 0, none⟩) (R.n + 1) (R.n + 1)) 47).1
          simpa using this
        have hLs : WL.cell? ⟨w'.heap.size + 1 + 1 + 1 + 1, 0, none⟩ = some (.slice (some ⟨c, off, none⟩) (R.n + 1) cap) := by
          rw [hWL]
          have := (cell_new ((((w'.alloc (.cells #[.int .i64 d.lo, .int .i64 d.hi, .int .i64 d.step, .int .i64 d.err] 79)).alloc (.cells #[.int .i64 (d.sp R.g R.n).lo, .int .i64 (d.sp R.g R.n).hi] 77)).alloc (.cells M 3)).alloc (.cells #[.slice (some ⟨w'.heap.size + 1 + 1, 0, none⟩) (R.n + 1) (R.n + 1)] 47)) (.slice (some ⟨c, off, none⟩) (R.n + 1) cap) 84).1
          simpa using this
        have hLc : ∀ j, j < R.n + 1 → WL.cell? ⟨c, off + j * 2, none⟩ = some (.int .i64 (d.sp R.g j).lo) ∧ WL.cell? ⟨c, off + j * 2 + 1, none⟩ = some (.int .i64 (d.sp R.g j).hi) := fun j hj => by
          rw [hWL]
          exact ⟨cell_more _ (cell_more _ (cell_more _ (cell_more _ (cell_more _ (hcells j hj).1)))), cell_more _ (cell_more _ (cell_more _ (cell_more _ (cell_more _ (hcells j hj).2))))⟩
        have hLo : WL.heap[w'.heap.size + 1 + 1]? = some (.cells M 3 (0, 0)) := by
          rw [hWL]
          rw [Below.heap_alloc _ _ _ (by simp), Below.heap_alloc _ _ _ (by simp)]
          have := World.alloc_heap_new ((w'.alloc (.cells #[.int .i64 d.lo, .int .i64 d.hi, .int .i64 d.step, .int .i64 d.err] 79)).alloc (.cells #[.int .i64 (d.sp R.g R.n).lo, .int .i64 (d.sp R.g R.n).hi] 77)) (.cells M 3)
          simpa using this
        have hLf : WL.frozen? ⟨w.heap.size, 0, none⟩ = false := by
          have h5 : Below w'.heap.size w' WL := by
            rw [hWL]
            exact (((((Below.refl _ w').alloc (Nat.le_refl _) _).alloc (by simp) _).alloc (by simp; omega) _).alloc (by simp; omega) _).alloc (by simp; omega) _
          have e1 := h5.block w.heap.size hws
          have e2 := hB.block w.heap.size (by simp)
          exact (cell_box ((e1.trans e2).trans (World.alloc_heap_new w (.cells #[.int .i64 last] 3)))).2
        clear hl1 hl2 hm0 hm1
        refine rangeB (w := WL) (n := 10) (by omega) (gf := 45) (lb := #[.pointer (some ⟨w'.heap.size + 1 + 1 + 1 + 1, 0, none⟩)]) rfl (enters_of Try.func45 (by kernel_rfl) rfl)
          (bw_stops (fun x => x.1) (rowAt d R.g R.n) Fence.wide 9 trivial rfl (by omega) (w'.heap.size + 1 + 1 + 1 + 1) c off (R.n + 1) cap (fun j => (d.sp R.g j).lo) (fun j => (d.sp R.g j).hi) (by omega) (fun k hk => rfl) WL hLs hLc (by omega) (fun _ => by omega))
          (fun h k => h.trans k) (fun W l o o' hl _ _ _ => two_put o' (by omega) (by omega)) (fun _ => rfl)
          (fun pre W => (W.cell? ⟨w.heap.size, 0, none⟩ = some (.int .i64 (pst R.n last pre).1) ∧ W.frozen? ⟨w.heap.size, 0, none⟩ = false ∧ W.cell? ⟨w'.heap.size + 1 + 1 + 1, 0, none⟩ = some (.slice (some ⟨w'.heap.size + 1 + 1, 0, none⟩) (R.n + 1) (R.n + 1)) ∧
            ∀ j, j < R.n + 1 → W.cell? ⟨w'.heap.size + 1 + 1, j, none⟩ = some (.int .i64 ((pst R.n last pre).2 j)) ∧ W.frozen? ⟨w'.heap.size + 1 + 1, j, none⟩ = false) ∧ (Below w.heap.size w W ∧ WL.heap.size ≤ W.heap.size))
          ?hI ?h0 ?hKa 19 20 77 (fun x => .int .i64 (x.1.i : Int)) (fun x => .int .i64 x.1.lo) (fun x => .int .i64 x.1.hi) ?assign ?body ?done
        case hI =>
          exact OwnFrom.and (Own.from (fun s A B row hs hg hr => ⟨_root_.Go.cell_kept hs.1 hg hr, (frozen_kept hs.1 hg hr).trans hs.2.1, _root_.Go.cell_kept hs.2.2.1 hg hr, fun j hj => ⟨_root_.Go.cell_kept (hs.2.2.2 j hj).1 hg hr, (frozen_kept (hs.2.2.2 j hj).1 hg hr).trans (hs.2.2.2 j hj).2⟩⟩) _) (OwnFrom.and (ownFrom_below (Nat.le_refl _) (by omega)) (Own.from (fun s A B row hs hg hr => Nat.le_trans hs hg.size) _))
        case h0 =>
          refine ⟨⟨hLl, hLf, hLb, fun j hj => ⟨?_, ?_⟩⟩, hLB, Nat.le_refl _⟩
          · simp only [World.cell?, hLo]; exact hMat j hj
          · simp [World.frozen?, hLo]
        case hKa => exact fun pre W o h => ⟨h.2.2, two_alloc o (by have := h.2.2; omega) (by have := h.2.2; omega)⟩
        case assign =>
          intro l x W K hK
          gi_wp2
          simp at hK
          exact hK
        case body =>
          rintro l pre x Bx W ⟨⟨i1, i2, i3, i4⟩, i5, i6⟩ hBx e1 e2 hlt
          have hxi := x.2
          gi_wp2
          refine ⟨((KeepsOthers.setCell _ _ _).trans (KeepsOthers.setCell _ _ _)).from _, (two_set _ (by show c ≠ w.heap.size; exact fun e => hOc (.inr e)) (by show _ ≠ w.heap.size; omega)).trans (two_set _ (by show c ≠ w'.heap.size + 1 + 1; omega) (by show _ ≠ w'.heap.size + 1 + 1; omega)), ⟨?_, ?_, ?_, fun j hj => ⟨?_, ?_⟩⟩, (i5.setCell (p := ⟨w.heap.size, 0, none⟩) (Nat.le_refl _) _).setCell (p := ⟨w'.heap.size + 1 + 1, x.1.i, none⟩) (by show w.heap.size ≤ w'.heap.size + 1 + 1; omega) _, by simpa [World.setCell] using i6⟩
          · rw [far _ (by omega), pst_snoc]
            exact World.cell?_setCell_same _ _ _ i1
          · simpa using i2
          · rw [far _ (by omega), far _ (by omega)]
            exact i3
          · rw [pst_snoc]
            by_cases hjx : j = x.1.i
            · subst hjx
              show _ = some (Value.int IntKind.i64 (if x.1.i = x.1.i then _ else _))
              rw [if_pos rfl]
              exact World.cell?_setCell_same _ _ _ ((far _ (by omega)).trans (i4 _ hj).1)
            · show _ = some (Value.int IntKind.i64 (if j = x.1.i then _ else _))
              rw [if_neg hjx, far' _ (Ne.symm hjx), far _ (by omega)]
              exact (i4 j hj).1
          · simpa using (i4 j hj).2
        case done =>
          rintro D ys W hD rfl ⟨⟨i1, i2, i3, i4⟩, i5, i6⟩ hK
          gi_wp2
          obtain ⟨p1, p2⟩ := pst_upto d R.g R.n last (R.n + 1) (Nat.le_refl _)
          refine ⟨by simp, .inl ⟨_, _, rfl, run_takeDeferred hK, ?_⟩⟩
          refine ⟨_, results_tmp2 rfl _ _ _, _, rfl, ok_rel hN hE (fun h => by have := hO _ h; omega) (fun j hj => ?_), i5.trans (belowK_b (w := w) (Nat.le_refl _) W D _ _ (by omega) hK rfl rfl)⟩
          rw [← p2 j (by omega) hj]
          exact _root_.Go.cell_kept (i4 j hj).1 (grownBy_putObj' _ D (.deferred none)) (fun r e => by cases e; exact ⟨_, hK, rfl⟩)
      · have q1 : ¬ last < (d.sp R.g R.n).lo := by omega
        have q2 : (d.sp R.g R.n).hi < last := by omega
        have hE : d.pathE R.g R.n last = 4 := by simp [Dr.pathE, hgot, hhi]
        have hN : d.pathN R.g R.n last = 0 := by simp [Dr.pathN, hE]
        gi_wp2
        exact ⟨_, results_tmp2 rfl _ _ _, _, rfl, err_rel hN hE, (hBw.alloc (Nat.le_of_lt hws) _).alloc (by simp; omega) _⟩
    · have q1 : last < (d.sp R.g R.n).lo := by omega
      have hE : d.pathE R.g R.n last = 4 := by simp [Dr.pathE, hgot, hlo]
      have hN : d.pathN R.g R.n last = 0 := by simp [Dr.pathN, hE]
      gi_wp2
      exact ⟨_, results_tmp2 rfl _ _ _, _, rfl, err_rel hN hE, (hBw.alloc (Nat.le_of_lt hws) _).alloc (by simp; omega) _⟩
  · rw [if_neg hgot]
    have hE : d.pathE R.g R.n last = 440 := by simp [Dr.pathE, hgot]
    have hN : d.pathN R.g R.n last = 0 := by simp [Dr.pathN, hE]
    gi_wp2
    exact ⟨_, results_tmp2 rfl _ _ _, _, rfl, err_rel hN hE, hBw.alloc (Nat.le_of_lt hws) _⟩
end Go.Proofs.Ytlofmgdjnaajjaa
