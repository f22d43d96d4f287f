/- Own text, packed by pack.py, part 5: words, functions with their walks, plain lemmas. -/
import Derived.Test.YtlofmgdjnaajjaaMm4
namespace Go.Proofs.Ytlofmgdjnaajjaa.Q
open Go.RowKit Go.Proofs.YtlofmgdjnaajjaaW.PrintWords Go.Proofs.YtlofmgdjnaajjaaW.PrintLast Go.Proofs.YtlofmgdjnaajjaaW.PrintMore
attribute [local go_sem] run_makeFunc_own max2_int min2_int max_two min_two max_three min_three max_four min_four   -- for this text's walks alone
set_option linter.unusedVariables false
set_option linter.unusedSimpArgs false

/-! ### monitor_New: function 30 -/
def monitor_New.f (a0_0 : Int) (a0_1 : Int) (a0_2 : Int) (a0_3 : Int) (a0_4 : Int) (a0_5 : Int) (a0_6 : Bool) : Option (Int × Int × Int × Int × Int × Int × Bool × Int) := (monitor_Valid.f a0_0 a0_1 a0_2 a0_3 a0_4 a0_5 true).bind fun t120 => (if t120 = true then ((monitor_look.f a0_0 a0_1 a0_2 a0_3 a0_4 a0_5 true).bind fun bt121 => ((monitor_view_inRange.f bt121.1 bt121.2.1 bt121.2.2.1 bt121.2.2.2.1 bt121.2.2.2.2.1 bt121.2.2.2.2.2.1 bt121.2.2.2.2.2.2.1 bt121.2.2.2.2.2.2.2.1 bt121.2.2.2.2.2.2.2.2).bind fun t130 => (some (a0_0, a0_1, a0_2, a0_3, a0_4, a0_5, !t130, 0)))) else (some (0, 0, 0, 0, 0, 0, false, 1)))
set_option maxHeartbeats 8000000 in
set_option maxRecDepth 100000 in
theorem monitor_New.calls (a0_0 : Int) (a0_1 : Int) (a0_2 : Int) (a0_3 : Int) (a0_4 : Int) (a0_5 : Int) (a0_6 : Bool) (r1 : Int) (r2 : Int) (r3 : Int) (r4 : Int) (r5 : Int) (r6 : Int) (r7 : Bool) (r8 : Int) (w : World) (h : monitor_New.f a0_0 a0_1 a0_2 a0_3 a0_4 a0_5 a0_6 = some (r1, r2, r3, r4, r5, r6, r7, r8)) :
    Calls Try.prog 30 #[.agg #[.int .i64 a0_0, .int .i64 a0_1, .int .i64 a0_2, .int .i64 a0_3, .int .i64 a0_4, .int .i64 a0_5, .bool a0_6]] w fun e w' => e = .returned (.tuple #[.agg #[.int .i64 r1, .int .i64 r2, .int .i64 r3, .int .i64 r4, .int .i64 r5, .int .i64 r6, .bool r7], .int .i64 r8]) ∧ Below w.heap.size w w' := by
  have hu28 := Try.underlying28
  have HB := Aside0.mk (Below.refl w.heap.size w)
  have H : ((monitor_Valid.f a0_0 a0_1 a0_2 a0_3 a0_4 a0_5 true).bind fun t120 => (if t120 = true then ((monitor_look.f a0_0 a0_1 a0_2 a0_3 a0_4 a0_5 true).bind fun bt121 => ((monitor_view_inRange.f bt121.1 bt121.2.1 bt121.2.2.1 bt121.2.2.2.1 bt121.2.2.2.2.1 bt121.2.2.2.2.2.1 bt121.2.2.2.2.2.2.1 bt121.2.2.2.2.2.2.2.1 bt121.2.2.2.2.2.2.2.2).bind fun t130 => (some (a0_0, a0_1, a0_2, a0_3, a0_4, a0_5, !t130, 0)))) else (some (0, 0, 0, 0, 0, 0, false, 1)))) = some (r1, r2, r3, r4, r5, r6, r7, r8) := h
  clear h
  replace H := Option.bind_eq_some_iff.mp H
  obtain ⟨t120, A20, H⟩ := H
  replace H : (if t120 = true then ((monitor_look.f a0_0 a0_1 a0_2 a0_3 a0_4 a0_5 true).bind fun bt121 => ((monitor_view_inRange.f bt121.1 bt121.2.1 bt121.2.2.1 bt121.2.2.2.1 bt121.2.2.2.2.1 bt121.2.2.2.2.2.1 bt121.2.2.2.2.2.2.1 bt121.2.2.2.2.2.2.2.1 bt121.2.2.2.2.2.2.2.2).bind fun t130 => (some (a0_0, a0_1, a0_2, a0_3, a0_4, a0_5, !t130, 0)))) else (some (0, 0, 0, 0, 0, 0, false, 1))) = some (r1, r2, r3, r4, r5, r6, r7, r8) := H
  have A2 := Aside0.mk A20
  clear A20
  by_cases c3 : t120 = true
  · subst c3
    have H1 : ((monitor_look.f a0_0 a0_1 a0_2 a0_3 a0_4 a0_5 true).bind fun bt121 => ((monitor_view_inRange.f bt121.1 bt121.2.1 bt121.2.2.1 bt121.2.2.2.1 bt121.2.2.2.2.1 bt121.2.2.2.2.2.1 bt121.2.2.2.2.2.2.1 bt121.2.2.2.2.2.2.2.1 bt121.2.2.2.2.2.2.2.2).bind fun t130 => (some (a0_0, a0_1, a0_2, a0_3, a0_4, a0_5, !t130, 0)))) = some (r1, r2, r3, r4, r5, r6, r7, r8) := by rw [if_pos rfl] at H; exact H
    clear H
    have H := H1
    clear H1
    replace H := Option.bind_eq_some_iff.mp H
    obtain ⟨⟨t121, t122, t123, t124, t125, t126, t127, t128, t129⟩, A40, H⟩ := H
    replace H : ((monitor_view_inRange.f t121 t122 t123 t124 t125 t126 t127 t128 t129).bind fun t130 => (some (a0_0, a0_1, a0_2, a0_3, a0_4, a0_5, !t130, 0))) = some (r1, r2, r3, r4, r5, r6, r7, r8) := H
    have A4 := Aside0.mk A40
    clear A40
    replace H := Option.bind_eq_some_iff.mp H
    obtain ⟨t130, A50, H⟩ := H
    replace H : (some (a0_0, a0_1, a0_2, a0_3, a0_4, a0_5, !t130, 0)) = some (r1, r2, r3, r4, r5, r6, r7, r8) := H
    have A5 := Aside0.mk A50
    clear A50
    simp only [Option.some.injEq, Prod.mk.injEq] at H
    obtain ⟨rfl, rfl, rfl, rfl, rfl, rfl, rfl, rfl⟩ := H
    go_enter Try.func30, Try.ntmps30
    go_wp2_with (first | ((with_reducible refine gate_dst (N := 1) rfl ?_); refine box_event ?hg (N := 1) ?hd (cs := #[.int .i64 a0_0, .int .i64 a0_1, .int .i64 a0_2, .int .i64 a0_3, .int .i64 a0_4, .int .i64 a0_5, .bool a0_6]) (t := 28) ?hr ?_; (case hd => rfl); (case hg => rfl); (case hr => first | (go_simp; done) | (go_simp; rfl)); intro gb118 hg w6 hbox hb; have n0_ := Aside0.mk (below_step (by repeat (first | (with_reducible first | exact HB.out | apply below_alloc | apply pw_below_drewN | apply below_drew1) | exact HB.out)) hb); have n1_ := Aside0.mk (hbox); have n2_ := Aside0.mk ((by rw [hg]; exact (below_size (by repeat (first | (with_reducible first | exact HB.out | apply below_alloc | apply pw_below_drewN | apply below_drew1) | exact HB.out))) : w.heap.size ≤ gb118)); have n3_ := Aside0.mk ((by rw [hg]; exact (below_size (by repeat (first | (with_reducible first | exact HB.out | apply below_alloc | apply pw_below_drewN | apply below_drew1) | exact HB.out))) : w.heap.size ≤ gb118)); clear HB; have HB := n0_; have BK118 := n1_; have GW118 := n2_; have GE118 := n3_; clear n0_ n1_ n2_ n3_; clear hb hbox hg) | ((with_reducible refine gate_dst (N := 2) rfl ?_); refine box_event ?hg (N := 2) ?hd (cs := #[.int .i64 0, .int .i64 0, .int .i64 0, .int .i64 0, .int .i64 0, .int .i64 0, .bool false]) (t := 28) ?hr ?_; (case hd => rfl); (case hg => rfl); (case hr => first | (go_simp; done) | (go_simp; rfl)); intro gb119 hg w7 hbox hb; have n0_ := bxb BK118 hb; have n1_ := Aside0.mk (below_step (bwt HB) hb); have n2_ := Aside0.mk (hbox); have n3_ := Aside0.mk ((by rw [hg]; exact (below_size (bwt HB)) : w.heap.size ≤ gb119)); have n4_ := Aside0.mk ((by rw [hg]; exact (below_size (bwt HB)) : w.heap.size ≤ gb119)); have n5_ := nlt_ BK118 hg; have n6_ := ngt_ BK118 hg; clear BK118; clear HB; have BK118 := n0_; have HB := n1_; have BK119 := n2_; have GW119 := n3_; have GE119 := n4_; have NB118_119 := n5_; have NB119_118 := n6_; clear n0_ n1_ n2_ n3_ n4_ n5_ n6_; clear hb hbox hg; have hnb8 := NB118_119.out; have hnc8 := NB119_118.out; have hcz9_0 : w7.cell? ⟨gb118, 0, none⟩ = some (.int .i64 a0_0) := bc BK118 0; have hcz9_1 : w7.cell? ⟨gb118, 1, none⟩ = some (.int .i64 a0_1) := bc BK118 1; have hcz9_2 : w7.cell? ⟨gb118, 2, none⟩ = some (.int .i64 a0_2) := bc BK118 2; have hcz9_3 : w7.cell? ⟨gb118, 3, none⟩ = some (.int .i64 a0_3) := bc BK118 3; have hcz9_4 : w7.cell? ⟨gb118, 4, none⟩ = some (.int .i64 a0_4) := bc BK118 4; have hcz9_5 : w7.cell? ⟨gb118, 5, none⟩ = some (.int .i64 a0_5) := bc BK118 5; have hcz9_6 : w7.cell? ⟨gb118, 6, none⟩ = some (.bool a0_6) := bc BK118 6; have hfz9_0 := blk_frozen BK118.out 0; have hfz9_1 := blk_frozen BK118.out 1; have hfz9_2 := blk_frozen BK118.out 2; have hfz9_3 := blk_frozen BK118.out 3; have hfz9_4 := blk_frozen BK118.out 4; have hfz9_5 := blk_frozen BK118.out 5; have hfz9_6 := blk_frozen BK118.out 6) | ((with_reducible refine gate_callee (f := 11) rfl ?_); refine goesL_ (some 6) rfl rfl Try.func11 (by kernel_rfl) rfl #[.agg #[.int .i64 a0_0, .int .i64 a0_1, .int .i64 a0_2, .int .i64 a0_3, .int .i64 a0_4, .int .i64 a0_5, .bool true]] rfl (by (try simp only [List.map_toArray, List.map_cons, List.map_nil]); first | done | rfl | (simp only [List.length_drop, List.length_take]; rfl)) ?_; (with_reducible refine (monitor_Valid.calls a0_0 a0_1 a0_2 a0_3 a0_4 a0_5 true true _ A2.out).mono ?_); rintro e w10 ⟨rfl, hb⟩; refine ⟨_, rfl, ?_⟩; have n0_ := Aside0.mk (blk_below (g := gb118) (o := .cells #[.int .i64 a0_0, .int .i64 a0_1, .int .i64 a0_2, .int .i64 a0_3, .int .i64 a0_4, .int .i64 a0_5, .bool true] 28 (0, 0)) (by (with_reducible repeat refine bp_ ?_); refine blk_put (cs := #[.int .i64 a0_0, .int .i64 a0_1, .int .i64 a0_2, .int .i64 a0_3, .int .i64 a0_4, .int .i64 a0_5, .bool a0_6]) ?_ 6 _ rfl; (with_reducible repeat refine bp_ ?_); exact BK118.out) hb); have n1_ := Aside0.mk (blk_below (g := gb119) (o := .cells #[.int .i64 0, .int .i64 0, .int .i64 0, .int .i64 0, .int .i64 0, .int .i64 0, .bool false] 28 (0, 0)) (by (with_reducible repeat refine bp_ ?_); refine blk_far ?_ NB119_118.out _; (with_reducible repeat refine bp_ ?_); exact BK119.out) hb); have n2_ := Aside0.mk (below_step (by repeat (first | (with_reducible first | exact HB.out | apply below_alloc | apply pw_below_drewN | apply below_drew1 | refine below_set ?_ GE118.out | refine below_set ?_ GE119.out) | exact HB.out)) hb); clear BK118; clear BK119; clear HB; have BK118 := n0_; have BK119 := n1_; have HB := n2_; clear n0_ n1_ n2_; (try clear hb); (try clear hb2); (try clear hk); (try clear hi); have hcz11_0 : w10.cell? ⟨gb118, 0, none⟩ = some (.int .i64 a0_0) := bc BK118 0; have hcz11_1 : w10.cell? ⟨gb118, 1, none⟩ = some (.int .i64 a0_1) := bc BK118 1; have hcz11_2 : w10.cell? ⟨gb118, 2, none⟩ = some (.int .i64 a0_2) := bc BK118 2; have hcz11_3 : w10.cell? ⟨gb118, 3, none⟩ = some (.int .i64 a0_3) := bc BK118 3; have hcz11_4 : w10.cell? ⟨gb118, 4, none⟩ = some (.int .i64 a0_4) := bc BK118 4; have hcz11_5 : w10.cell? ⟨gb118, 5, none⟩ = some (.int .i64 a0_5) := bc BK118 5; have hcz11_6 : w10.cell? ⟨gb118, 6, none⟩ = some (.bool true) := bc BK118 6; have hfz11_0 := blk_frozen BK118.out 0; have hfz11_1 := blk_frozen BK118.out 1; have hfz11_2 := blk_frozen BK118.out 2; have hfz11_3 := blk_frozen BK118.out 3; have hfz11_4 := blk_frozen BK118.out 4; have hfz11_5 := blk_frozen BK118.out 5; have hfz11_6 := blk_frozen BK118.out 6) | ((with_reducible refine gate_callee (f := 27) rfl ?_); refine goesL_ (some 10) rfl rfl Try.func27 (by kernel_rfl) rfl #[.agg #[.int .i64 a0_0, .int .i64 a0_1, .int .i64 a0_2, .int .i64 a0_3, .int .i64 a0_4, .int .i64 a0_5, .bool true]] rfl (by (try simp only [List.map_toArray, List.map_cons, List.map_nil]); first | done | rfl | (simp only [List.length_drop, List.length_take]; rfl)) ?_; (with_reducible refine (monitor_look.calls a0_0 a0_1 a0_2 a0_3 a0_4 a0_5 true t121 t122 t123 t124 t125 t126 t127 t128 t129 _ A4.out).mono ?_); rintro e w12 ⟨rfl, hb⟩; refine ⟨_, rfl, ?_⟩; have n0_ := bxb BK118 hb; have n1_ := bxb BK119 hb; have n2_ := Aside0.mk (below_step (bwt HB) hb); clear BK118; clear BK119; clear HB; have BK118 := n0_; have BK119 := n1_; have HB := n2_; clear n0_ n1_ n2_; (try clear hb); (try clear hb2); (try clear hk); (try clear hi)) | ((with_reducible refine gate_callee (f := 28) rfl ?_); refine goesL_ (some 11) rfl rfl Try.func28 (by kernel_rfl) rfl #[.agg #[.int .i64 t121, .int .i64 t122, .int .i64 t123, .int .i64 t124, .int .i64 t125, .int .i64 t126, .bool t127, .int .i64 t128, .int .i64 t129]] rfl (by (try simp only [List.map_toArray, List.map_cons, List.map_nil]); first | done | rfl | (simp only [List.length_drop, List.length_take]; rfl)) ?_; (with_reducible refine (monitor_view_inRange.calls t121 t122 t123 t124 t125 t126 t127 t128 t129 t130 _ A5.out).mono ?_); rintro e w13 ⟨rfl, hb⟩; refine ⟨_, rfl, ?_⟩; have n0_ := bxb BK118 hb; have n1_ := bxb BK119 hb; have n2_ := Aside0.mk (below_step (bwt HB) hb); clear BK118; clear BK119; clear HB; have BK118 := n0_; have BK119 := n1_; have HB := n2_; clear n0_ n1_ n2_; (try clear hb); (try clear hb2); (try clear hk); (try clear hi); have hcz14_0 : w13.cell? ⟨gb118, 0, none⟩ = some (.int .i64 a0_0) := bc BK118 0; have hcz14_1 : w13.cell? ⟨gb118, 1, none⟩ = some (.int .i64 a0_1) := bc BK118 1; have hcz14_2 : w13.cell? ⟨gb118, 2, none⟩ = some (.int .i64 a0_2) := bc BK118 2; have hcz14_3 : w13.cell? ⟨gb118, 3, none⟩ = some (.int .i64 a0_3) := bc BK118 3; have hcz14_4 : w13.cell? ⟨gb118, 4, none⟩ = some (.int .i64 a0_4) := bc BK118 4; have hcz14_5 : w13.cell? ⟨gb118, 5, none⟩ = some (.int .i64 a0_5) := bc BK118 5; have hcz14_6 : w13.cell? ⟨gb118, 6, none⟩ = some (.bool true) := bc BK118 6; have hfz14_0 := blk_frozen BK118.out 0; have hfz14_1 := blk_frozen BK118.out 1; have hfz14_2 := blk_frozen BK118.out 2; have hfz14_3 := blk_frozen BK118.out 3; have hfz14_4 := blk_frozen BK118.out 4; have hfz14_5 := blk_frozen BK118.out 5; have hfz14_6 := blk_frozen BK118.out 6; have hcz15_0 : w13.cell? ⟨gb119, 0, none⟩ = some (.int .i64 0) := bc BK119 0; have hcz15_1 : w13.cell? ⟨gb119, 1, none⟩ = some (.int .i64 0) := bc BK119 1; have hcz15_2 : w13.cell? ⟨gb119, 2, none⟩ = some (.int .i64 0) := bc BK119 2; have hcz15_3 : w13.cell? ⟨gb119, 3, none⟩ = some (.int .i64 0) := bc BK119 3; have hcz15_4 : w13.cell? ⟨gb119, 4, none⟩ = some (.int .i64 0) := bc BK119 4; have hcz15_5 : w13.cell? ⟨gb119, 5, none⟩ = some (.int .i64 0) := bc BK119 5; have hcz15_6 : w13.cell? ⟨gb119, 6, none⟩ = some (.bool false) := bc BK119 6; have hfz15_0 := blk_frozen BK119.out 0; have hfz15_1 := blk_frozen BK119.out 1; have hfz15_2 := blk_frozen BK119.out 2; have hfz15_3 := blk_frozen BK119.out 3; have hfz15_4 := blk_frozen BK119.out 4; have hfz15_5 := blk_frozen BK119.out 5; have hfz15_6 := blk_frozen BK119.out 6))
    refine bodyPost_ret (results_ct rfl _ _ gb119 28 #[.int .i64 a0_0, .int .i64 a0_1, .int .i64 a0_2, .int .i64 a0_3, .int .i64 a0_4, .int .i64 a0_5, .bool (!t130)] (0, 0) _ rfl (by (with_reducible repeat refine bp_ ?_); refine blk_put (cs := #[.int .i64 a0_0, .int .i64 a0_1, .int .i64 a0_2, .int .i64 a0_3, .int .i64 a0_4, .int .i64 a0_5, .bool false]) ?_ 6 _ rfl; (with_reducible repeat refine bp_ ?_); refine blk_put (cs := #[.int .i64 a0_0, .int .i64 a0_1, .int .i64 a0_2, .int .i64 a0_3, .int .i64 a0_4, .int .i64 0, .bool false]) ?_ 5 _ rfl; (with_reducible repeat refine bp_ ?_); refine blk_put (cs := #[.int .i64 a0_0, .int .i64 a0_1, .int .i64 a0_2, .int .i64 a0_3, .int .i64 0, .int .i64 0, .bool false]) ?_ 4 _ rfl; (with_reducible repeat refine bp_ ?_); refine blk_put (cs := #[.int .i64 a0_0, .int .i64 a0_1, .int .i64 a0_2, .int .i64 0, .int .i64 0, .int .i64 0, .bool false]) ?_ 3 _ rfl; (with_reducible repeat refine bp_ ?_); refine blk_put (cs := #[.int .i64 a0_0, .int .i64 a0_1, .int .i64 0, .int .i64 0, .int .i64 0, .int .i64 0, .bool false]) ?_ 2 _ rfl; (with_reducible repeat refine bp_ ?_); refine blk_put (cs := #[.int .i64 a0_0, .int .i64 0, .int .i64 0, .int .i64 0, .int .i64 0, .int .i64 0, .bool false]) ?_ 1 _ rfl; (with_reducible repeat refine bp_ ?_); refine blk_put (cs := #[.int .i64 0, .int .i64 0, .int .i64 0, .int .i64 0, .int .i64 0, .int .i64 0, .bool false]) ?_ 0 _ rfl; (with_reducible repeat refine bp_ ?_); refine blk_far ?_ NB119_118.out _; (with_reducible repeat refine bp_ ?_); exact BK119.out) Try.underlying28 rfl (by kernel_rfl)) rfl ?_
    exact ⟨by first | rfl | (simp [errW_none, errW_some] <;> rfl) | (simp [*, errW_none, errW_some] <;> rfl), by repeat (first | (with_reducible first | exact HB.out | apply below_alloc | apply pw_below_drewN | apply below_drew1 | refine below_set ?_ GE118.out | refine below_set ?_ GE119.out) | exact HB.out)⟩
  · replace c3 := Bool.eq_false_iff.mpr c3
    subst c3
    have H1 : (some (0, 0, 0, 0, 0, 0, false, 1)) = some (r1, r2, r3, r4, r5, r6, r7, r8) := by rw [if_neg (show ¬ (false = true) by decide)] at H; exact H
    clear H
    have H := H1
    clear H1
    simp only [Option.some.injEq, Prod.mk.injEq] at H
    obtain ⟨rfl, rfl, rfl, rfl, rfl, rfl, rfl, rfl⟩ := H
    go_enter Try.func30, Try.ntmps30
    go_wp2_with (first | ((with_reducible refine gate_dst (N := 1) rfl ?_); refine box_event ?hg (N := 1) ?hd (cs := #[.int .i64 a0_0, .int .i64 a0_1, .int .i64 a0_2, .int .i64 a0_3, .int .i64 a0_4, .int .i64 a0_5, .bool a0_6]) (t := 28) ?hr ?_; (case hd => rfl); (case hg => rfl); (case hr => first | (go_simp; done) | (go_simp; rfl)); intro gb118 hg w16 hbox hb; have n0_ := Aside0.mk (below_step (by repeat (first | (with_reducible first | exact HB.out | apply below_alloc | apply pw_below_drewN | apply below_drew1) | exact HB.out)) hb); have n1_ := Aside0.mk (hbox); have n2_ := Aside0.mk ((by rw [hg]; exact (below_size (by repeat (first | (with_reducible first | exact HB.out | apply below_alloc | apply pw_below_drewN | apply below_drew1) | exact HB.out))) : w.heap.size ≤ gb118)); have n3_ := Aside0.mk ((by rw [hg]; exact (below_size (by repeat (first | (with_reducible first | exact HB.out | apply below_alloc | apply pw_below_drewN | apply below_drew1) | exact HB.out))) : w.heap.size ≤ gb118)); clear HB; have HB := n0_; have BK118 := n1_; have GW118 := n2_; have GE118 := n3_; clear n0_ n1_ n2_ n3_; clear hb hbox hg) | ((with_reducible refine gate_dst (N := 2) rfl ?_); refine box_event ?hg (N := 2) ?hd (cs := #[.int .i64 0, .int .i64 0, .int .i64 0, .int .i64 0, .int .i64 0, .int .i64 0, .bool false]) (t := 28) ?hr ?_; (case hd => rfl); (case hg => rfl); (case hr => first | (go_simp; done) | (go_simp; rfl)); intro gb119 hg w17 hbox hb; have n0_ := bxb BK118 hb; have n1_ := Aside0.mk (below_step (bwt HB) hb); have n2_ := Aside0.mk (hbox); have n3_ := Aside0.mk ((by rw [hg]; exact (below_size (bwt HB)) : w.heap.size ≤ gb119)); have n4_ := Aside0.mk ((by rw [hg]; exact (below_size (bwt HB)) : w.heap.size ≤ gb119)); have n5_ := nlt_ BK118 hg; have n6_ := ngt_ BK118 hg; clear BK118; clear HB; have BK118 := n0_; have HB := n1_; have BK119 := n2_; have GW119 := n3_; have GE119 := n4_; have NB118_119 := n5_; have NB119_118 := n6_; clear n0_ n1_ n2_ n3_ n4_ n5_ n6_; clear hb hbox hg; have hnb18 := NB118_119.out; have hnc18 := NB119_118.out; have hcz19_0 : w17.cell? ⟨gb118, 0, none⟩ = some (.int .i64 a0_0) := bc BK118 0; have hcz19_1 : w17.cell? ⟨gb118, 1, none⟩ = some (.int .i64 a0_1) := bc BK118 1; have hcz19_2 : w17.cell? ⟨gb118, 2, none⟩ = some (.int .i64 a0_2) := bc BK118 2; have hcz19_3 : w17.cell? ⟨gb118, 3, none⟩ = some (.int .i64 a0_3) := bc BK118 3; have hcz19_4 : w17.cell? ⟨gb118, 4, none⟩ = some (.int .i64 a0_4) := bc BK118 4; have hcz19_5 : w17.cell? ⟨gb118, 5, none⟩ = some (.int .i64 a0_5) := bc BK118 5; have hcz19_6 : w17.cell? ⟨gb118, 6, none⟩ = some (.bool a0_6) := bc BK118 6; have hfz19_0 := blk_frozen BK118.out 0; have hfz19_1 := blk_frozen BK118.out 1; have hfz19_2 := blk_frozen BK118.out 2; have hfz19_3 := blk_frozen BK118.out 3; have hfz19_4 := blk_frozen BK118.out 4; have hfz19_5 := blk_frozen BK118.out 5; have hfz19_6 := blk_frozen BK118.out 6) | ((with_reducible refine gate_callee (f := 11) rfl ?_); refine goesL_ (some 6) rfl rfl Try.func11 (by kernel_rfl) rfl #[.agg #[.int .i64 a0_0, .int .i64 a0_1, .int .i64 a0_2, .int .i64 a0_3, .int .i64 a0_4, .int .i64 a0_5, .bool true]] rfl (by (try simp only [List.map_toArray, List.map_cons, List.map_nil]); first | done | rfl | (simp only [List.length_drop, List.length_take]; rfl)) ?_; (with_reducible refine (monitor_Valid.calls a0_0 a0_1 a0_2 a0_3 a0_4 a0_5 true false _ A2.out).mono ?_); rintro e w20 ⟨rfl, hb⟩; refine ⟨_, rfl, ?_⟩; have n0_ := Aside0.mk (blk_below (g := gb118) (o := .cells #[.int .i64 a0_0, .int .i64 a0_1, .int .i64 a0_2, .int .i64 a0_3, .int .i64 a0_4, .int .i64 a0_5, .bool true] 28 (0, 0)) (by (with_reducible repeat refine bp_ ?_); refine blk_put (cs := #[.int .i64 a0_0, .int .i64 a0_1, .int .i64 a0_2, .int .i64 a0_3, .int .i64 a0_4, .int .i64 a0_5, .bool a0_6]) ?_ 6 _ rfl; (with_reducible repeat refine bp_ ?_); exact BK118.out) hb); have n1_ := Aside0.mk (blk_below (g := gb119) (o := .cells #[.int .i64 0, .int .i64 0, .int .i64 0, .int .i64 0, .int .i64 0, .int .i64 0, .bool false] 28 (0, 0)) (by (with_reducible repeat refine bp_ ?_); refine blk_far ?_ NB119_118.out _; (with_reducible repeat refine bp_ ?_); exact BK119.out) hb); have n2_ := Aside0.mk (below_step (by repeat (first | (with_reducible first | exact HB.out | apply below_alloc | apply pw_below_drewN | apply below_drew1 | refine below_set ?_ GE118.out | refine below_set ?_ GE119.out) | exact HB.out)) hb); clear BK118; clear BK119; clear HB; have BK118 := n0_; have BK119 := n1_; have HB := n2_; clear n0_ n1_ n2_; (try clear hb); (try clear hb2); (try clear hk); (try clear hi); have hcz21_0 : w20.cell? ⟨gb119, 0, none⟩ = some (.int .i64 0) := bc BK119 0; have hcz21_1 : w20.cell? ⟨gb119, 1, none⟩ = some (.int .i64 0) := bc BK119 1; have hcz21_2 : w20.cell? ⟨gb119, 2, none⟩ = some (.int .i64 0) := bc BK119 2; have hcz21_3 : w20.cell? ⟨gb119, 3, none⟩ = some (.int .i64 0) := bc BK119 3; have hcz21_4 : w20.cell? ⟨gb119, 4, none⟩ = some (.int .i64 0) := bc BK119 4; have hcz21_5 : w20.cell? ⟨gb119, 5, none⟩ = some (.int .i64 0) := bc BK119 5; have hcz21_6 : w20.cell? ⟨gb119, 6, none⟩ = some (.bool false) := bc BK119 6; have hfz21_0 := blk_frozen BK119.out 0; have hfz21_1 := blk_frozen BK119.out 1; have hfz21_2 := blk_frozen BK119.out 2; have hfz21_3 := blk_frozen BK119.out 3; have hfz21_4 := blk_frozen BK119.out 4; have hfz21_5 := blk_frozen BK119.out 5; have hfz21_6 := blk_frozen BK119.out 6))
    refine bodyPost_ret (results_ct rfl _ _ gb119 28 #[.int .i64 0, .int .i64 0, .int .i64 0, .int .i64 0, .int .i64 0, .int .i64 0, .bool false] (0, 0) _ rfl (by (with_reducible repeat refine bp_ ?_); refine blk_put (cs := #[.int .i64 0, .int .i64 0, .int .i64 0, .int .i64 0, .int .i64 0, .int .i64 0, .bool false]) ?_ 6 _ rfl; (with_reducible repeat refine bp_ ?_); refine blk_put (cs := #[.int .i64 0, .int .i64 0, .int .i64 0, .int .i64 0, .int .i64 0, .int .i64 0, .bool false]) ?_ 5 _ rfl; (with_reducible repeat refine bp_ ?_); refine blk_put (cs := #[.int .i64 0, .int .i64 0, .int .i64 0, .int .i64 0, .int .i64 0, .int .i64 0, .bool false]) ?_ 4 _ rfl; (with_reducible repeat refine bp_ ?_); refine blk_put (cs := #[.int .i64 0, .int .i64 0, .int .i64 0, .int .i64 0, .int .i64 0, .int .i64 0, .bool false]) ?_ 3 _ rfl; (with_reducible repeat refine bp_ ?_); refine blk_put (cs := #[.int .i64 0, .int .i64 0, .int .i64 0, .int .i64 0, .int .i64 0, .int .i64 0, .bool false]) ?_ 2 _ rfl; (with_reducible repeat refine bp_ ?_); refine blk_put (cs := #[.int .i64 0, .int .i64 0, .int .i64 0, .int .i64 0, .int .i64 0, .int .i64 0, .bool false]) ?_ 1 _ rfl; (with_reducible repeat refine bp_ ?_); refine blk_put (cs := #[.int .i64 0, .int .i64 0, .int .i64 0, .int .i64 0, .int .i64 0, .int .i64 0, .bool false]) ?_ 0 _ rfl; (with_reducible repeat refine bp_ ?_); exact BK119.out) Try.underlying28 rfl (by kernel_rfl)) rfl ?_
    exact ⟨by first | rfl | (simp [errW_none, errW_some] <;> rfl) | (simp [*, errW_none, errW_some] <;> rfl), by repeat (first | (with_reducible first | exact HB.out | apply below_alloc | apply pw_below_drewN | apply below_drew1 | refine below_set ?_ GE118.out | refine below_set ?_ GE119.out) | exact HB.out)⟩

end Go.Proofs.Ytlofmgdjnaajjaa.Q

namespace Go.Proofs.Ytlofmgdjnaajjaa.Q
open Go.RowKit Go.Proofs.YtlofmgdjnaajjaaW.PrintWords Go.Proofs.YtlofmgdjnaajjaaW.PrintLast Go.Proofs.YtlofmgdjnaajjaaW.PrintMore
attribute [local go_sem] run_makeFunc_own max2_int min2_int max_two min_two max_three min_three max_four min_four   -- for this text's walks alone
set_option linter.unusedVariables false
set_option linter.unusedSimpArgs false

/-! ### wireloomlaw45_made: function 13 -/
def wireloomlaw45_made.f (a0_0 : Int) (a0_1 : Int) (a0_2 : Int) (a0_3 : Int) (a0_4 : Int) (a0_5 : Int) (a0_6 : Bool) : Option (Int × Int × Int × Int × Int × Int × Bool × Int) := (monitor_New.f a0_0 a0_1 a0_2 a0_3 a0_4 a0_5 a0_6).bind fun bt133 => (some (bt133.1, bt133.2.1, bt133.2.2.1, bt133.2.2.2.1, bt133.2.2.2.2.1, bt133.2.2.2.2.2.1, bt133.2.2.2.2.2.2.1, bt133.2.2.2.2.2.2.2))
set_option maxHeartbeats 8000000 in
set_option maxRecDepth 100000 in
theorem wireloomlaw45_made.calls (a0_0 : Int) (a0_1 : Int) (a0_2 : Int) (a0_3 : Int) (a0_4 : Int) (a0_5 : Int) (a0_6 : Bool) (r1 : Int) (r2 : Int) (r3 : Int) (r4 : Int) (r5 : Int) (r6 : Int) (r7 : Bool) (r8 : Int) (w : World) (h : wireloomlaw45_made.f a0_0 a0_1 a0_2 a0_3 a0_4 a0_5 a0_6 = some (r1, r2, r3, r4, r5, r6, r7, r8)) :
    Calls Try.prog 13 #[.agg #[.int .i64 a0_0, .int .i64 a0_1, .int .i64 a0_2, .int .i64 a0_3, .int .i64 a0_4, .int .i64 a0_5, .bool a0_6]] w fun e w' => e = .returned (.agg #[.int .i64 r1, .int .i64 r2, .int .i64 r3, .int .i64 r4, .int .i64 r5, .int .i64 r6, .bool r7, .int .i64 r8]) ∧ Below w.heap.size w w' := by
  have hu28 := Try.underlying28
  have hu34 := Try.underlying34
  have HB := Aside0.mk (Below.refl w.heap.size w)
  have H : ((monitor_New.f a0_0 a0_1 a0_2 a0_3 a0_4 a0_5 a0_6).bind fun bt133 => (some (bt133.1, bt133.2.1, bt133.2.2.1, bt133.2.2.2.1, bt133.2.2.2.2.1, bt133.2.2.2.2.2.1, bt133.2.2.2.2.2.2.1, bt133.2.2.2.2.2.2.2))) = some (r1, r2, r3, r4, r5, r6, r7, r8) := h
  clear h
  replace H := Option.bind_eq_some_iff.mp H
  obtain ⟨⟨t133, t134, t135, t136, t137, t138, t139, t140⟩, A20, H⟩ := H
  replace H : (some (t133, t134, t135, t136, t137, t138, t139, t140)) = some (r1, r2, r3, r4, r5, r6, r7, r8) := H
  have A2 := Aside0.mk A20
  clear A20
  simp only [Option.some.injEq, Prod.mk.injEq] at H
  obtain ⟨rfl, rfl, rfl, rfl, rfl, rfl, rfl, rfl⟩ := H
  go_enter Try.func13, Try.ntmps13
  go_wp2_with (first | ((with_reducible refine gate_dst (N := 1) rfl ?_); refine box_event ?hg (N := 1) ?hd (cs := #[.int .i64 a0_0, .int .i64 a0_1, .int .i64 a0_2, .int .i64 a0_3, .int .i64 a0_4, .int .i64 a0_5, .bool a0_6]) (t := 28) ?hr ?_; (case hd => rfl); (case hg => rfl); (case hr => first | (go_simp; done) | (go_simp; rfl)); intro gb131 hg w3 hbox hb; have n0_ := Aside0.mk (below_step (by repeat (first | (with_reducible first | exact HB.out | apply below_alloc | apply pw_below_drewN | apply below_drew1) | exact HB.out)) hb); have n1_ := Aside0.mk (hbox); have n2_ := Aside0.mk ((by rw [hg]; exact (below_size (by repeat (first | (with_reducible first | exact HB.out | apply below_alloc | apply pw_below_drewN | apply below_drew1) | exact HB.out))) : w.heap.size ≤ gb131)); have n3_ := Aside0.mk ((by rw [hg]; exact (below_size (by repeat (first | (with_reducible first | exact HB.out | apply below_alloc | apply pw_below_drewN | apply below_drew1) | exact HB.out))) : w.heap.size ≤ gb131)); clear HB; have HB := n0_; have BK131 := n1_; have GW131 := n2_; have GE131 := n3_; clear n0_ n1_ n2_ n3_; clear hb hbox hg) | ((with_reducible refine gate_dst (N := 2) rfl ?_); refine box_event ?hg (N := 2) ?hd (cs := #[.int .i64 0, .int .i64 0, .int .i64 0, .int .i64 0, .int .i64 0, .int .i64 0, .bool false, .int .i64 0]) (t := 34) ?hr ?_; (case hd => rfl); (case hg => rfl); (case hr => first | (go_simp; done) | (go_simp; rfl)); intro gb132 hg w4 hbox hb; have n0_ := bxb BK131 hb; have n1_ := Aside0.mk (below_step (bwt HB) hb); have n2_ := Aside0.mk (hbox); have n3_ := Aside0.mk ((by rw [hg]; exact (below_size (bwt HB)) : w.heap.size ≤ gb132)); have n4_ := Aside0.mk ((by rw [hg]; exact (below_size (bwt HB)) : w.heap.size ≤ gb132)); have n5_ := nlt_ BK131 hg; have n6_ := ngt_ BK131 hg; clear BK131; clear HB; have BK131 := n0_; have HB := n1_; have BK132 := n2_; have GW132 := n3_; have GE132 := n4_; have NB131_132 := n5_; have NB132_131 := n6_; clear n0_ n1_ n2_ n3_ n4_ n5_ n6_; clear hb hbox hg; have hnb5 := NB131_132.out; have hnc5 := NB132_131.out; have hcz6_0 : w4.cell? ⟨gb131, 0, none⟩ = some (.int .i64 a0_0) := bc BK131 0; have hcz6_1 : w4.cell? ⟨gb131, 1, none⟩ = some (.int .i64 a0_1) := bc BK131 1; have hcz6_2 : w4.cell? ⟨gb131, 2, none⟩ = some (.int .i64 a0_2) := bc BK131 2; have hcz6_3 : w4.cell? ⟨gb131, 3, none⟩ = some (.int .i64 a0_3) := bc BK131 3; have hcz6_4 : w4.cell? ⟨gb131, 4, none⟩ = some (.int .i64 a0_4) := bc BK131 4; have hcz6_5 : w4.cell? ⟨gb131, 5, none⟩ = some (.int .i64 a0_5) := bc BK131 5; have hcz6_6 : w4.cell? ⟨gb131, 6, none⟩ = some (.bool a0_6) := bc BK131 6; have hfz6_0 := blk_frozen BK131.out 0; have hfz6_1 := blk_frozen BK131.out 1; have hfz6_2 := blk_frozen BK131.out 2; have hfz6_3 := blk_frozen BK131.out 3; have hfz6_4 := blk_frozen BK131.out 4; have hfz6_5 := blk_frozen BK131.out 5; have hfz6_6 := blk_frozen BK131.out 6) | ((with_reducible refine gate_callee (f := 30) rfl ?_); refine goesL_ (some 7) rfl rfl Try.func30 (by kernel_rfl) rfl #[.agg #[.int .i64 a0_0, .int .i64 a0_1, .int .i64 a0_2, .int .i64 a0_3, .int .i64 a0_4, .int .i64 a0_5, .bool a0_6]] rfl (by (try simp only [List.map_toArray, List.map_cons, List.map_nil]); first | done | rfl | (simp only [List.length_drop, List.length_take]; rfl)) ?_; (with_reducible refine (monitor_New.calls a0_0 a0_1 a0_2 a0_3 a0_4 a0_5 a0_6 t133 t134 t135 t136 t137 t138 t139 t140 _ A2.out).mono ?_); rintro e w7 ⟨rfl, hb⟩; refine ⟨_, rfl, ?_⟩; have n0_ := bxb BK131 hb; have n1_ := bxb BK132 hb; have n2_ := Aside0.mk (below_step (bwt HB) hb); clear BK131; clear BK132; clear HB; have BK131 := n0_; have BK132 := n1_; have HB := n2_; clear n0_ n1_ n2_; (try clear hb); (try clear hb2); (try clear hk); (try clear hi)) | ((with_reducible refine gate_dst (N := 3) rfl ?_); refine box_event ?hg (N := 3) ?hd (cs := #[.int .i64 0, .int .i64 0, .int .i64 0, .int .i64 0, .int .i64 0, .int .i64 0, .bool false]) (t := 28) ?hr ?_; (case hd => rfl); (case hg => rfl); (case hr => first | (go_simp; done) | (go_simp; rfl)); intro gb141 hg w8 hbox hb; have n0_ := bxb BK131 hb; have n1_ := bxb BK132 hb; have n2_ := Aside0.mk (below_step (bwt HB) hb); have n3_ := Aside0.mk (hbox); have n4_ := Aside0.mk ((by rw [hg]; exact (below_size (bwt HB)) : w.heap.size ≤ gb141)); have n5_ := Aside0.mk ((by rw [hg]; exact (below_size (bwt HB)) : w.heap.size ≤ gb141)); have n6_ := nlt_ BK131 hg; have n7_ := ngt_ BK131 hg; have n8_ := nlt_ BK132 hg; have n9_ := ngt_ BK132 hg; clear BK131; clear BK132; clear HB; have BK131 := n0_; have BK132 := n1_; have HB := n2_; have BK141 := n3_; have GW141 := n4_; have GE141 := n5_; have NB131_141 := n6_; have NB141_131 := n7_; have NB132_141 := n8_; have NB141_132 := n9_; clear n0_ n1_ n2_ n3_ n4_ n5_ n6_ n7_ n8_ n9_; clear hb hbox hg; have hnb9 := NB141_131.out; have hnc9 := NB131_141.out; have hnb10 := NB141_132.out; have hnc10 := NB132_141.out; have hcz11_0 : w8.cell? ⟨gb141, 0, none⟩ = some (.int .i64 0) := bc BK141 0; have hcz11_1 : w8.cell? ⟨gb141, 1, none⟩ = some (.int .i64 0) := bc BK141 1; have hcz11_2 : w8.cell? ⟨gb141, 2, none⟩ = some (.int .i64 0) := bc BK141 2; have hcz11_3 : w8.cell? ⟨gb141, 3, none⟩ = some (.int .i64 0) := bc BK141 3; have hcz11_4 : w8.cell? ⟨gb141, 4, none⟩ = some (.int .i64 0) := bc BK141 4; have hcz11_5 : w8.cell? ⟨gb141, 5, none⟩ = some (.int .i64 0) := bc BK141 5; have hcz11_6 : w8.cell? ⟨gb141, 6, none⟩ = some (.bool false) := bc BK141 6; have hfz11_0 := blk_frozen BK141.out 0; have hfz11_1 := blk_frozen BK141.out 1; have hfz11_2 := blk_frozen BK141.out 2; have hfz11_3 := blk_frozen BK141.out 3; have hfz11_4 := blk_frozen BK141.out 4; have hfz11_5 := blk_frozen BK141.out 5; have hfz11_6 := blk_frozen BK141.out 6; have hcz12_0 : w8.cell? ⟨gb132, 0, none⟩ = some (.int .i64 0) := bc BK132 0; have hcz12_1 : w8.cell? ⟨gb132, 1, none⟩ = some (.int .i64 0) := bc BK132 1; have hcz12_2 : w8.cell? ⟨gb132, 2, none⟩ = some (.int .i64 0) := bc BK132 2; have hcz12_3 : w8.cell? ⟨gb132, 3, none⟩ = some (.int .i64 0) := bc BK132 3; have hcz12_4 : w8.cell? ⟨gb132, 4, none⟩ = some (.int .i64 0) := bc BK132 4; have hcz12_5 : w8.cell? ⟨gb132, 5, none⟩ = some (.int .i64 0) := bc BK132 5; have hcz12_6 : w8.cell? ⟨gb132, 6, none⟩ = some (.bool false) := bc BK132 6; have hcz12_7 : w8.cell? ⟨gb132, 7, none⟩ = some (.int .i64 0) := bc BK132 7; have hfz12_0 := blk_frozen BK132.out 0; have hfz12_1 := blk_frozen BK132.out 1; have hfz12_2 := blk_frozen BK132.out 2; have hfz12_3 := blk_frozen BK132.out 3; have hfz12_4 := blk_frozen BK132.out 4; have hfz12_5 := blk_frozen BK132.out 5; have hfz12_6 := blk_frozen BK132.out 6; have hfz12_7 := blk_frozen BK132.out 7))
  refine bodyPost_ret (results_cell_row rfl _ _ gb132 34 #[.int .i64 t133, .int .i64 t134, .int .i64 t135, .int .i64 t136, .int .i64 t137, .int .i64 t138, .bool t139, .int .i64 t140] (0, 0) _ rfl (by (with_reducible repeat refine bp_ ?_); refine blk_put (cs := #[.int .i64 t133, .int .i64 t134, .int .i64 t135, .int .i64 t136, .int .i64 t137, .int .i64 t138, .bool t139, .int .i64 0]) ?_ 7 _ rfl; (with_reducible repeat refine bp_ ?_); refine blk_put (cs := #[.int .i64 t133, .int .i64 t134, .int .i64 t135, .int .i64 t136, .int .i64 t137, .int .i64 t138, .bool false, .int .i64 0]) ?_ 6 _ rfl; (with_reducible repeat refine bp_ ?_); refine blk_put (cs := #[.int .i64 t133, .int .i64 t134, .int .i64 t135, .int .i64 t136, .int .i64 t137, .int .i64 0, .bool false, .int .i64 0]) ?_ 5 _ rfl; (with_reducible repeat refine bp_ ?_); refine blk_put (cs := #[.int .i64 t133, .int .i64 t134, .int .i64 t135, .int .i64 t136, .int .i64 0, .int .i64 0, .bool false, .int .i64 0]) ?_ 4 _ rfl; (with_reducible repeat refine bp_ ?_); refine blk_put (cs := #[.int .i64 t133, .int .i64 t134, .int .i64 t135, .int .i64 0, .int .i64 0, .int .i64 0, .bool false, .int .i64 0]) ?_ 3 _ rfl; (with_reducible repeat refine bp_ ?_); refine blk_put (cs := #[.int .i64 t133, .int .i64 t134, .int .i64 0, .int .i64 0, .int .i64 0, .int .i64 0, .bool false, .int .i64 0]) ?_ 2 _ rfl; (with_reducible repeat refine bp_ ?_); refine blk_put (cs := #[.int .i64 t133, .int .i64 0, .int .i64 0, .int .i64 0, .int .i64 0, .int .i64 0, .bool false, .int .i64 0]) ?_ 1 _ rfl; (with_reducible repeat refine bp_ ?_); refine blk_put (cs := #[.int .i64 0, .int .i64 0, .int .i64 0, .int .i64 0, .int .i64 0, .int .i64 0, .bool false, .int .i64 0]) ?_ 0 _ rfl; (with_reducible repeat refine bp_ ?_); refine blk_far ?_ NB132_141.out _; (with_reducible repeat refine bp_ ?_); refine blk_far ?_ NB132_141.out _; (with_reducible repeat refine bp_ ?_); refine blk_far ?_ NB132_141.out _; (with_reducible repeat refine bp_ ?_); refine blk_far ?_ NB132_141.out _; (with_reducible repeat refine bp_ ?_); refine blk_far ?_ NB132_141.out _; (with_reducible repeat refine bp_ ?_); refine blk_far ?_ NB132_141.out _; (with_reducible repeat refine bp_ ?_); refine blk_far ?_ NB132_141.out _; (with_reducible repeat refine bp_ ?_); exact BK132.out) Try.underlying34 rfl (by kernel_rfl)) rfl ?_
  exact ⟨by first | rfl | (simp [errW_none, errW_some] <;> rfl) | (simp [*, errW_none, errW_some] <;> rfl), by repeat (first | (with_reducible first | exact HB.out | apply below_alloc | apply pw_below_drewN | apply below_drew1 | refine below_set ?_ GE131.out | refine below_set ?_ GE132.out | refine below_set ?_ GE141.out) | exact HB.out)⟩

end Go.Proofs.Ytlofmgdjnaajjaa.Q

namespace Go.Proofs.Ytlofmgdjnaajjaa.Q
open Go.RowKit Go.Proofs.YtlofmgdjnaajjaaW.PrintWords Go.Proofs.YtlofmgdjnaajjaaW.PrintLast Go.Proofs.YtlofmgdjnaajjaaW.PrintMore
attribute [local go_sem] run_makeFunc_own max2_int min2_int max_two min_two max_three min_three max_four min_four   -- for this text's walks alone
set_option linter.unusedVariables false
set_option linter.unusedSimpArgs false

/-! ### monitor_Outlook: function 32 -/
def monitor_Outlook.f (a0_0 : Int) (a0_1 : Int) (a0_2 : Int) (a0_3 : Int) (a0_4 : Int) (a0_5 : Int) (a0_6 : Bool) : Option (Int × Int) := (monitor_look.f a0_0 a0_1 a0_2 a0_3 a0_4 a0_5 a0_6).bind fun bt143 => (some (bt143.2.2.2.2.2.2.2.1, bt143.2.2.2.2.2.2.2.2))
set_option maxHeartbeats 8000000 in
set_option maxRecDepth 100000 in
theorem monitor_Outlook.calls (a0_0 : Int) (a0_1 : Int) (a0_2 : Int) (a0_3 : Int) (a0_4 : Int) (a0_5 : Int) (a0_6 : Bool) (r1 : Int) (r2 : Int) (w : World) (h : monitor_Outlook.f a0_0 a0_1 a0_2 a0_3 a0_4 a0_5 a0_6 = some (r1, r2)) :
    Calls Try.prog 32 #[.agg #[.int .i64 a0_0, .int .i64 a0_1, .int .i64 a0_2, .int .i64 a0_3, .int .i64 a0_4, .int .i64 a0_5, .bool a0_6]] w fun e w' => e = .returned (.tuple #[.int .i64 r1, .int .i64 r2]) ∧ Below w.heap.size w w' := by
  have hu28 := Try.underlying28
  have hu66 := Try.underlying66
  have hu64 := Try.underlying64
  have HB := Aside0.mk (Below.refl w.heap.size w)
  have H : ((monitor_look.f a0_0 a0_1 a0_2 a0_3 a0_4 a0_5 a0_6).bind fun bt143 => (some (bt143.2.2.2.2.2.2.2.1, bt143.2.2.2.2.2.2.2.2))) = some (r1, r2) := h
  clear h
  replace H := Option.bind_eq_some_iff.mp H
  obtain ⟨⟨t143, t144, t145, t146, t147, t148, t149, t150, t151⟩, A20, H⟩ := H
  replace H : (some (t150, t151)) = some (r1, r2) := H
  have A2 := Aside0.mk A20
  clear A20
  simp only [Option.some.injEq, Prod.mk.injEq] at H
  obtain ⟨rfl, rfl⟩ := H
  go_enter Try.func32, Try.ntmps32
  go_wp2_with (first | ((with_reducible refine gate_dst (N := 1) rfl ?_); refine box_event ?hg (N := 1) ?hd (cs := #[.int .i64 a0_0, .int .i64 a0_1, .int .i64 a0_2, .int .i64 a0_3, .int .i64 a0_4, .int .i64 a0_5, .bool a0_6]) (t := 28) ?hr ?_; (case hd => rfl); (case hg => rfl); (case hr => first | (go_simp; done) | (go_simp; rfl)); intro gb142 hg w3 hbox hb; have n0_ := Aside0.mk (below_step (by repeat (first | (with_reducible first | exact HB.out | apply below_alloc | apply pw_below_drewN | apply below_drew1) | exact HB.out)) hb); have n1_ := Aside0.mk (hbox); have n2_ := Aside0.mk ((by rw [hg]; exact (below_size (by repeat (first | (with_reducible first | exact HB.out | apply below_alloc | apply pw_below_drewN | apply below_drew1) | exact HB.out))) : w.heap.size ≤ gb142)); have n3_ := Aside0.mk ((by rw [hg]; exact (below_size (by repeat (first | (with_reducible first | exact HB.out | apply below_alloc | apply pw_below_drewN | apply below_drew1) | exact HB.out))) : w.heap.size ≤ gb142)); clear HB; have HB := n0_; have BK142 := n1_; have GW142 := n2_; have GE142 := n3_; clear n0_ n1_ n2_ n3_; clear hb hbox hg; have hcz4_0 : w3.cell? ⟨gb142, 0, none⟩ = some (.int .i64 a0_0) := bc BK142 0; have hcz4_1 : w3.cell? ⟨gb142, 1, none⟩ = some (.int .i64 a0_1) := bc BK142 1; have hcz4_2 : w3.cell? ⟨gb142, 2, none⟩ = some (.int .i64 a0_2) := bc BK142 2; have hcz4_3 : w3.cell? ⟨gb142, 3, none⟩ = some (.int .i64 a0_3) := bc BK142 3; have hcz4_4 : w3.cell? ⟨gb142, 4, none⟩ = some (.int .i64 a0_4) := bc BK142 4; have hcz4_5 : w3.cell? ⟨gb142, 5, none⟩ = some (.int .i64 a0_5) := bc BK142 5; have hcz4_6 : w3.cell? ⟨gb142, 6, none⟩ = some (.bool a0_6) := bc BK142 6; have hfz4_0 := blk_frozen BK142.out 0; have hfz4_1 := blk_frozen BK142.out 1; have hfz4_2 := blk_frozen BK142.out 2; have hfz4_3 := blk_frozen BK142.out 3; have hfz4_4 := blk_frozen BK142.out 4; have hfz4_5 := blk_frozen BK142.out 5; have hfz4_6 := blk_frozen BK142.out 6) | (go_at_call 27; (with_reducible refine (monitor_look.calls a0_0 a0_1 a0_2 a0_3 a0_4 a0_5 a0_6 t143 t144 t145 t146 t147 t148 t149 t150 t151 _ A2.out).mono ?_); rintro e w5 ⟨rfl, hb⟩; have n0_ := bxb BK142 hb; have n1_ := Aside0.mk (below_step (bwt HB) hb); clear BK142; clear HB; have BK142 := n0_; have HB := n1_; clear n0_ n1_; (try clear hb); (try clear hb2); (try clear hk); (try clear hi)) | ((with_reducible refine gate_dst (N := 4) rfl ?_); refine box_event ?hg (N := 4) ?hd (cs := #[.int .i64 0, .int .i64 0, .int .i64 0, .int .i64 0, .int .i64 0, .int .i64 0, .bool false, .int .i64 0, .int .i64 0]) (t := 66) ?hr ?_; (case hd => rfl); (case hg => rfl); (case hr => first | (go_simp; done) | (go_simp; rfl)); intro gb152 hg w6 hbox hb; have n0_ := bxb BK142 hb; have n1_ := Aside0.mk (below_step (bwt HB) hb); have n2_ := Aside0.mk (hbox); have n3_ := Aside0.mk ((by rw [hg]; exact (below_size (bwt HB)) : w.heap.size ≤ gb152)); have n4_ := Aside0.mk ((by rw [hg]; exact (below_size (bwt HB)) : w.heap.size ≤ gb152)); have n5_ := nlt_ BK142 hg; have n6_ := ngt_ BK142 hg; clear BK142; clear HB; have BK142 := n0_; have HB := n1_; have BK152 := n2_; have GW152 := n3_; have GE152 := n4_; have NB142_152 := n5_; have NB152_142 := n6_; clear n0_ n1_ n2_ n3_ n4_ n5_ n6_; clear hb hbox hg; have hnb7 := NB152_142.out; have hnc7 := NB142_152.out; have hcz8_0 : w6.cell? ⟨gb152, 0, none⟩ = some (.int .i64 0) := bc BK152 0; have hcz8_1 : w6.cell? ⟨gb152, 1, none⟩ = some (.int .i64 0) := bc BK152 1; have hcz8_2 : w6.cell? ⟨gb152, 2, none⟩ = some (.int .i64 0) := bc BK152 2; have hcz8_3 : w6.cell? ⟨gb152, 3, none⟩ = some (.int .i64 0) := bc BK152 3; have hcz8_4 : w6.cell? ⟨gb152, 4, none⟩ = some (.int .i64 0) := bc BK152 4; have hcz8_5 : w6.cell? ⟨gb152, 5, none⟩ = some (.int .i64 0) := bc BK152 5; have hcz8_6 : w6.cell? ⟨gb152, 6, none⟩ = some (.bool false) := bc BK152 6; have hcz8_7 : w6.cell? ⟨gb152, 7, none⟩ = some (.int .i64 0) := bc BK152 7; have hcz8_8 : w6.cell? ⟨gb152, 8, none⟩ = some (.int .i64 0) := bc BK152 8; have hfz8_0 := blk_frozen BK152.out 0; have hfz8_1 := blk_frozen BK152.out 1; have hfz8_2 := blk_frozen BK152.out 2; have hfz8_3 := blk_frozen BK152.out 3; have hfz8_4 := blk_frozen BK152.out 4; have hfz8_5 := blk_frozen BK152.out 5; have hfz8_6 := blk_frozen BK152.out 6; have hfz8_7 := blk_frozen BK152.out 7; have hfz8_8 := blk_frozen BK152.out 8))
  repeat (go_quiet (first | ((with_reducible refine gate_dst (N := 1) rfl ?_); refine box_event ?hg (N := 1) ?hd (cs := #[.int .i64 a0_0, .int .i64 a0_1, .int .i64 a0_2, .int .i64 a0_3, .int .i64 a0_4, .int .i64 a0_5, .bool a0_6]) (t := 28) ?hr ?_; (case hd => rfl); (case hg => rfl); (case hr => first | (go_simp; done) | (go_simp; rfl)); intro gb142 hg w3 hbox hb; have n0_ := Aside0.mk (below_step (by repeat (first | (with_reducible first | exact HB.out | apply below_alloc | apply pw_below_drewN | apply below_drew1) | exact HB.out)) hb); have n1_ := Aside0.mk (hbox); have n2_ := Aside0.mk ((by rw [hg]; exact (below_size (by repeat (first | (with_reducible first | exact HB.out | apply below_alloc | apply pw_below_drewN | apply below_drew1) | exact HB.out))) : w.heap.size ≤ gb142)); have n3_ := Aside0.mk ((by rw [hg]; exact (below_size (by repeat (first | (with_reducible first | exact HB.out | apply below_alloc | apply pw_below_drewN | apply below_drew1) | exact HB.out))) : w.heap.size ≤ gb142)); clear HB; have HB := n0_; have BK142 := n1_; have GW142 := n2_; have GE142 := n3_; clear n0_ n1_ n2_ n3_; clear hb hbox hg; have hcz4_0 : w3.cell? ⟨gb142, 0, none⟩ = some (.int .i64 a0_0) := bc BK142 0; have hcz4_1 : w3.cell? ⟨gb142, 1, none⟩ = some (.int .i64 a0_1) := bc BK142 1; have hcz4_2 : w3.cell? ⟨gb142, 2, none⟩ = some (.int .i64 a0_2) := bc BK142 2; have hcz4_3 : w3.cell? ⟨gb142, 3, none⟩ = some (.int .i64 a0_3) := bc BK142 3; have hcz4_4 : w3.cell? ⟨gb142, 4, none⟩ = some (.int .i64 a0_4) := bc BK142 4; have hcz4_5 : w3.cell? ⟨gb142, 5, none⟩ = some (.int .i64 a0_5) := bc BK142 5; have hcz4_6 : w3.cell? ⟨gb142, 6, none⟩ = some (.bool a0_6) := bc BK142 6; have hfz4_0 := blk_frozen BK142.out 0; have hfz4_1 := blk_frozen BK142.out 1; have hfz4_2 := blk_frozen BK142.out 2; have hfz4_3 := blk_frozen BK142.out 3; have hfz4_4 := blk_frozen BK142.out 4; have hfz4_5 := blk_frozen BK142.out 5; have hfz4_6 := blk_frozen BK142.out 6) | (go_at_call 27; (with_reducible refine (monitor_look.calls a0_0 a0_1 a0_2 a0_3 a0_4 a0_5 a0_6 t143 t144 t145 t146 t147 t148 t149 t150 t151 _ A2.out).mono ?_); rintro e w5 ⟨rfl, hb⟩; have n0_ := bxb BK142 hb; have n1_ := Aside0.mk (below_step (bwt HB) hb); clear BK142; clear HB; have BK142 := n0_; have HB := n1_; clear n0_ n1_; (try clear hb); (try clear hb2); (try clear hk); (try clear hi)) | ((with_reducible refine gate_dst (N := 4) rfl ?_); refine box_event ?hg (N := 4) ?hd (cs := #[.int .i64 0, .int .i64 0, .int .i64 0, .int .i64 0, .int .i64 0, .int .i64 0, .bool false, .int .i64 0, .int .i64 0]) (t := 66) ?hr ?_; (case hd => rfl); (case hg => rfl); (case hr => first | (go_simp; done) | (go_simp; rfl)); intro gb152 hg w6 hbox hb; have n0_ := bxb BK142 hb; have n1_ := Aside0.mk (below_step (bwt HB) hb); have n2_ := Aside0.mk (hbox); have n3_ := Aside0.mk ((by rw [hg]; exact (below_size (bwt HB)) : w.heap.size ≤ gb152)); have n4_ := Aside0.mk ((by rw [hg]; exact (below_size (bwt HB)) : w.heap.size ≤ gb152)); have n5_ := nlt_ BK142 hg; have n6_ := ngt_ BK142 hg; clear BK142; clear HB; have BK142 := n0_; have HB := n1_; have BK152 := n2_; have GW152 := n3_; have GE152 := n4_; have NB142_152 := n5_; have NB152_142 := n6_; clear n0_ n1_ n2_ n3_ n4_ n5_ n6_; clear hb hbox hg; have hnb7 := NB152_142.out; have hnc7 := NB142_152.out; have hcz8_0 : w6.cell? ⟨gb152, 0, none⟩ = some (.int .i64 0) := bc BK152 0; have hcz8_1 : w6.cell? ⟨gb152, 1, none⟩ = some (.int .i64 0) := bc BK152 1; have hcz8_2 : w6.cell? ⟨gb152, 2, none⟩ = some (.int .i64 0) := bc BK152 2; have hcz8_3 : w6.cell? ⟨gb152, 3, none⟩ = some (.int .i64 0) := bc BK152 3; have hcz8_4 : w6.cell? ⟨gb152, 4, none⟩ = some (.int .i64 0) := bc BK152 4; have hcz8_5 : w6.cell? ⟨gb152, 5, none⟩ = some (.int .i64 0) := bc BK152 5; have hcz8_6 : w6.cell? ⟨gb152, 6, none⟩ = some (.bool false) := bc BK152 6; have hcz8_7 : w6.cell? ⟨gb152, 7, none⟩ = some (.int .i64 0) := bc BK152 7; have hcz8_8 : w6.cell? ⟨gb152, 8, none⟩ = some (.int .i64 0) := bc BK152 8; have hfz8_0 := blk_frozen BK152.out 0; have hfz8_1 := blk_frozen BK152.out 1; have hfz8_2 := blk_frozen BK152.out 2; have hfz8_3 := blk_frozen BK152.out 3; have hfz8_4 := blk_frozen BK152.out 4; have hfz8_5 := blk_frozen BK152.out 5; have hfz8_6 := blk_frozen BK152.out 6; have hfz8_7 := blk_frozen BK152.out 7; have hfz8_8 := blk_frozen BK152.out 8)); try go_wp2_with (first | ((with_reducible refine gate_dst (N := 1) rfl ?_); refine box_event ?hg (N := 1) ?hd (cs := #[.int .i64 a0_0, .int .i64 a0_1, .int .i64 a0_2, .int .i64 a0_3, .int .i64 a0_4, .int .i64 a0_5, .bool a0_6]) (t := 28) ?hr ?_; (case hd => rfl); (case hg => rfl); (case hr => first | (go_simp; done) | (go_simp; rfl)); intro gb142 hg w3 hbox hb; have n0_ := Aside0.mk (below_step (by repeat (first | (with_reducible first | exact HB.out | apply below_alloc | apply pw_below_drewN | apply below_drew1) | exact HB.out)) hb); have n1_ := Aside0.mk (hbox); have n2_ := Aside0.mk ((by rw [hg]; exact (below_size (by repeat (first | (with_reducible first | exact HB.out | apply below_alloc | apply pw_below_drewN | apply below_drew1) | exact HB.out))) : w.heap.size ≤ gb142)); have n3_ := Aside0.mk ((by rw [hg]; exact (below_size (by repeat (first | (with_reducible first | exact HB.out | apply below_alloc | apply pw_below_drewN | apply below_drew1) | exact HB.out))) : w.heap.size ≤ gb142)); clear HB; have HB := n0_; have BK142 := n1_; have GW142 := n2_; have GE142 := n3_; clear n0_ n1_ n2_ n3_; clear hb hbox hg; have hcz4_0 : w3.cell? ⟨gb142, 0, none⟩ = some (.int .i64 a0_0) := bc BK142 0; have hcz4_1 : w3.cell? ⟨gb142, 1, none⟩ = some (.int .i64 a0_1) := bc BK142 1; have hcz4_2 : w3.cell? ⟨gb142, 2, none⟩ = some (.int .i64 a0_2) := bc BK142 2; have hcz4_3 : w3.cell? ⟨gb142, 3, none⟩ = some (.int .i64 a0_3) := bc BK142 3; have hcz4_4 : w3.cell? ⟨gb142, 4, none⟩ = some (.int .i64 a0_4) := bc BK142 4; have hcz4_5 : w3.cell? ⟨gb142, 5, none⟩ = some (.int .i64 a0_5) := bc BK142 5; have hcz4_6 : w3.cell? ⟨gb142, 6, none⟩ = some (.bool a0_6) := bc BK142 6; have hfz4_0 := blk_frozen BK142.out 0; have hfz4_1 := blk_frozen BK142.out 1; have hfz4_2 := blk_frozen BK142.out 2; have hfz4_3 := blk_frozen BK142.out 3; have hfz4_4 := blk_frozen BK142.out 4; have hfz4_5 := blk_frozen BK142.out 5; have hfz4_6 := blk_frozen BK142.out 6) | (go_at_call 27; (with_reducible refine (monitor_look.calls a0_0 a0_1 a0_2 a0_3 a0_4 a0_5 a0_6 t143 t144 t145 t146 t147 t148 t149 t150 t151 _ A2.out).mono ?_); rintro e w5 ⟨rfl, hb⟩; have n0_ := bxb BK142 hb; have n1_ := Aside0.mk (below_step (bwt HB) hb); clear BK142; clear HB; have BK142 := n0_; have HB := n1_; clear n0_ n1_; (try clear hb); (try clear hb2); (try clear hk); (try clear hi)) | ((with_reducible refine gate_dst (N := 4) rfl ?_); refine box_event ?hg (N := 4) ?hd (cs := #[.int .i64 0, .int .i64 0, .int .i64 0, .int .i64 0, .int .i64 0, .int .i64 0, .bool false, .int .i64 0, .int .i64 0]) (t := 66) ?hr ?_; (case hd => rfl); (case hg => rfl); (case hr => first | (go_simp; done) | (go_simp; rfl)); intro gb152 hg w6 hbox hb; have n0_ := bxb BK142 hb; have n1_ := Aside0.mk (below_step (bwt HB) hb); have n2_ := Aside0.mk (hbox); have n3_ := Aside0.mk ((by rw [hg]; exact (below_size (bwt HB)) : w.heap.size ≤ gb152)); have n4_ := Aside0.mk ((by rw [hg]; exact (below_size (bwt HB)) : w.heap.size ≤ gb152)); have n5_ := nlt_ BK142 hg; have n6_ := ngt_ BK142 hg; clear BK142; clear HB; have BK142 := n0_; have HB := n1_; have BK152 := n2_; have GW152 := n3_; have GE152 := n4_; have NB142_152 := n5_; have NB152_142 := n6_; clear n0_ n1_ n2_ n3_ n4_ n5_ n6_; clear hb hbox hg; have hnb7 := NB152_142.out; have hnc7 := NB142_152.out; have hcz8_0 : w6.cell? ⟨gb152, 0, none⟩ = some (.int .i64 0) := bc BK152 0; have hcz8_1 : w6.cell? ⟨gb152, 1, none⟩ = some (.int .i64 0) := bc BK152 1; have hcz8_2 : w6.cell? ⟨gb152, 2, none⟩ = some (.int .i64 0) := bc BK152 2; have hcz8_3 : w6.cell? ⟨gb152, 3, none⟩ = some (.int .i64 0) := bc BK152 3; have hcz8_4 : w6.cell? ⟨gb152, 4, none⟩ = some (.int .i64 0) := bc BK152 4; have hcz8_5 : w6.cell? ⟨gb152, 5, none⟩ = some (.int .i64 0) := bc BK152 5; have hcz8_6 : w6.cell? ⟨gb152, 6, none⟩ = some (.bool false) := bc BK152 6; have hcz8_7 : w6.cell? ⟨gb152, 7, none⟩ = some (.int .i64 0) := bc BK152 7; have hcz8_8 : w6.cell? ⟨gb152, 8, none⟩ = some (.int .i64 0) := bc BK152 8; have hfz8_0 := blk_frozen BK152.out 0; have hfz8_1 := blk_frozen BK152.out 1; have hfz8_2 := blk_frozen BK152.out 2; have hfz8_3 := blk_frozen BK152.out 3; have hfz8_4 := blk_frozen BK152.out 4; have hfz8_5 := blk_frozen BK152.out 5; have hfz8_6 := blk_frozen BK152.out 6; have hfz8_7 := blk_frozen BK152.out 7; have hfz8_8 := blk_frozen BK152.out 8)))
  go_ret2
  exact ⟨by first | rfl | (simp [errW_none, errW_some] <;> rfl) | (simp [*, errW_none, errW_some] <;> rfl), by repeat (first | (with_reducible first | exact HB.out | apply below_alloc | apply pw_below_drewN | apply below_drew1 | refine below_set ?_ GE142.out | refine below_set ?_ GE152.out) | exact HB.out)⟩

end Go.Proofs.Ytlofmgdjnaajjaa.Q

namespace Go.Proofs.Ytlofmgdjnaajjaa.Q
open Go.RowKit Go.Proofs.YtlofmgdjnaajjaaW.PrintWords Go.Proofs.YtlofmgdjnaajjaaW.PrintLast Go.Proofs.YtlofmgdjnaajjaaW.PrintMore
attribute [local go_sem] run_makeFunc_own max2_int min2_int max_two min_two max_three min_three max_four min_four   -- for this text's walks alone
set_option linter.unusedVariables false
set_option linter.unusedSimpArgs false

/-! ### wireloomlaw45_outlook: function 17 -/
def wireloomlaw45_outlook.f (a0_0 : Int) (a0_1 : Int) (a0_2 : Int) (a0_3 : Int) (a0_4 : Int) (a0_5 : Int) (a0_6 : Bool) : Option (Int × Int) := (monitor_Outlook.f a0_0 a0_1 a0_2 a0_3 a0_4 a0_5 a0_6).bind fun bt155 => (some (bt155.1, bt155.2))
set_option maxHeartbeats 8000000 in
set_option maxRecDepth 100000 in
theorem wireloomlaw45_outlook.calls (a0_0 : Int) (a0_1 : Int) (a0_2 : Int) (a0_3 : Int) (a0_4 : Int) (a0_5 : Int) (a0_6 : Bool) (r1 : Int) (r2 : Int) (w : World) (h : wireloomlaw45_outlook.f a0_0 a0_1 a0_2 a0_3 a0_4 a0_5 a0_6 = some (r1, r2)) :
    Calls Try.prog 17 #[.agg #[.int .i64 a0_0, .int .i64 a0_1, .int .i64 a0_2, .int .i64 a0_3, .int .i64 a0_4, .int .i64 a0_5, .bool a0_6]] w fun e w' => e = .returned (.agg #[.int .i64 r1, .int .i64 r2]) ∧ Below w.heap.size w w' := by
  have hu28 := Try.underlying28
  have hu40 := Try.underlying40
  have HB := Aside0.mk (Below.refl w.heap.size w)
  have H : ((monitor_Outlook.f a0_0 a0_1 a0_2 a0_3 a0_4 a0_5 a0_6).bind fun bt155 => (some (bt155.1, bt155.2))) = some (r1, r2) := h
  clear h
  replace H := Option.bind_eq_some_iff.mp H
  obtain ⟨⟨t155, t156⟩, A20, H⟩ := H
  replace H : (some (t155, t156)) = some (r1, r2) := H
  have A2 := Aside0.mk A20
  clear A20
  simp only [Option.some.injEq, Prod.mk.injEq] at H
  obtain ⟨rfl, rfl⟩ := H
  go_enter Try.func17, Try.ntmps17
  go_wp2_with (first | ((with_reducible refine gate_dst (N := 1) rfl ?_); refine box_event ?hg (N := 1) ?hd (cs := #[.int .i64 a0_0, .int .i64 a0_1, .int .i64 a0_2, .int .i64 a0_3, .int .i64 a0_4, .int .i64 a0_5, .bool a0_6]) (t := 28) ?hr ?_; (case hd => rfl); (case hg => rfl); (case hr => first | (go_simp; done) | (go_simp; rfl)); intro gb153 hg w3 hbox hb; have n0_ := Aside0.mk (below_step (by repeat (first | (with_reducible first | exact HB.out | apply below_alloc | apply pw_below_drewN | apply below_drew1) | exact HB.out)) hb); have n1_ := Aside0.mk (hbox); have n2_ := Aside0.mk ((by rw [hg]; exact (below_size (by repeat (first | (with_reducible first | exact HB.out | apply below_alloc | apply pw_below_drewN | apply below_drew1) | exact HB.out))) : w.heap.size ≤ gb153)); have n3_ := Aside0.mk ((by rw [hg]; exact (below_size (by repeat (first | (with_reducible first | exact HB.out | apply below_alloc | apply pw_below_drewN | apply below_drew1) | exact HB.out))) : w.heap.size ≤ gb153)); clear HB; have HB := n0_; have BK153 := n1_; have GW153 := n2_; have GE153 := n3_; clear n0_ n1_ n2_ n3_; clear hb hbox hg) | ((with_reducible refine gate_dst (N := 2) rfl ?_); refine box_event ?hg (N := 2) ?hd (cs := #[.int .i64 0, .int .i64 0]) (t := 40) ?hr ?_; (case hd => rfl); (case hg => rfl); (case hr => first | (go_simp; done) | (go_simp; rfl)); intro gb154 hg w4 hbox hb; have n0_ := bxb BK153 hb; have n1_ := Aside0.mk (below_step (bwt HB) hb); have n2_ := Aside0.mk (hbox); have n3_ := Aside0.mk ((by rw [hg]; exact (below_size (bwt HB)) : w.heap.size ≤ gb154)); have n4_ := Aside0.mk ((by rw [hg]; exact (below_size (bwt HB)) : w.heap.size ≤ gb154)); have n5_ := nlt_ BK153 hg; have n6_ := ngt_ BK153 hg; clear BK153; clear HB; have BK153 := n0_; have HB := n1_; have BK154 := n2_; have GW154 := n3_; have GE154 := n4_; have NB153_154 := n5_; have NB154_153 := n6_; clear n0_ n1_ n2_ n3_ n4_ n5_ n6_; clear hb hbox hg; have hnb5 := NB153_154.out; have hnc5 := NB154_153.out; have hcz6_0 : w4.cell? ⟨gb153, 0, none⟩ = some (.int .i64 a0_0) := bc BK153 0; have hcz6_1 : w4.cell? ⟨gb153, 1, none⟩ = some (.int .i64 a0_1) := bc BK153 1; have hcz6_2 : w4.cell? ⟨gb153, 2, none⟩ = some (.int .i64 a0_2) := bc BK153 2; have hcz6_3 : w4.cell? ⟨gb153, 3, none⟩ = some (.int .i64 a0_3) := bc BK153 3; have hcz6_4 : w4.cell? ⟨gb153, 4, none⟩ = some (.int .i64 a0_4) := bc BK153 4; have hcz6_5 : w4.cell? ⟨gb153, 5, none⟩ = some (.int .i64 a0_5) := bc BK153 5; have hcz6_6 : w4.cell? ⟨gb153, 6, none⟩ = some (.bool a0_6) := bc BK153 6; have hfz6_0 := blk_frozen BK153.out 0; have hfz6_1 := blk_frozen BK153.out 1; have hfz6_2 := blk_frozen BK153.out 2; have hfz6_3 := blk_frozen BK153.out 3; have hfz6_4 := blk_frozen BK153.out 4; have hfz6_5 := blk_frozen BK153.out 5; have hfz6_6 := blk_frozen BK153.out 6) | ((with_reducible refine gate_callee (f := 32) rfl ?_); refine goesL_ (some 7) rfl rfl Try.func32 (by kernel_rfl) rfl #[.agg #[.int .i64 a0_0, .int .i64 a0_1, .int .i64 a0_2, .int .i64 a0_3, .int .i64 a0_4, .int .i64 a0_5, .bool a0_6]] rfl (by (try simp only [List.map_toArray, List.map_cons, List.map_nil]); first | done | rfl | (simp only [List.length_drop, List.length_take]; rfl)) ?_; (with_reducible refine (monitor_Outlook.calls a0_0 a0_1 a0_2 a0_3 a0_4 a0_5 a0_6 t155 t156 _ A2.out).mono ?_); rintro e w7 ⟨rfl, hb⟩; refine ⟨_, rfl, ?_⟩; have n0_ := bxb BK153 hb; have n1_ := bxb BK154 hb; have n2_ := Aside0.mk (below_step (bwt HB) hb); clear BK153; clear BK154; clear HB; have BK153 := n0_; have BK154 := n1_; have HB := n2_; clear n0_ n1_ n2_; (try clear hb); (try clear hb2); (try clear hk); (try clear hi); have hcz8_0 : w7.cell? ⟨gb154, 0, none⟩ = some (.int .i64 0) := bc BK154 0; have hcz8_1 : w7.cell? ⟨gb154, 1, none⟩ = some (.int .i64 0) := bc BK154 1; have hfz8_0 := blk_frozen BK154.out 0; have hfz8_1 := blk_frozen BK154.out 1))
  refine bodyPost_ret (results_cell_row rfl _ _ gb154 40 #[.int .i64 t155, .int .i64 t156] (0, 0) _ rfl (by (with_reducible repeat refine bp_ ?_); refine blk_put (cs := #[.int .i64 t155, .int .i64 0]) ?_ 1 _ rfl; (with_reducible repeat refine bp_ ?_); refine blk_put (cs := #[.int .i64 0, .int .i64 0]) ?_ 0 _ rfl; (with_reducible repeat refine bp_ ?_); exact BK154.out) Try.underlying40 rfl (by kernel_rfl)) rfl ?_
  exact ⟨by first | rfl | (simp [errW_none, errW_some] <;> rfl) | (simp [*, errW_none, errW_some] <;> rfl), by repeat (first | (with_reducible first | exact HB.out | apply below_alloc | apply pw_below_drewN | apply below_drew1 | refine below_set ?_ GE153.out | refine below_set ?_ GE154.out) | exact HB.out)⟩

end Go.Proofs.Ytlofmgdjnaajjaa.Q

namespace Go.Proofs.Ytlofmgdjnaajjaa.Q
open Go.RowKit Go.Proofs.YtlofmgdjnaajjaaW.PrintWords Go.Proofs.YtlofmgdjnaajjaaW.PrintLast Go.Proofs.YtlofmgdjnaajjaaW.PrintMore
attribute [local go_sem] run_makeFunc_own max2_int min2_int max_two min_two max_three min_three max_four min_four   -- for this text's walks alone
set_option linter.unusedVariables false
set_option linter.unusedSimpArgs false

/-! ### wireloomlaw45_examples: function 9 -/
def wireloomlaw45_examples.f  : Option (Bool) := some true
def wireloomlaw45_examples.T4 : Bool × List (List Nat × List Nat) := (true, [([], []), ([], []), ([], []), ([], []), ([], []), ([], []), ([3, 0, 0, 3, 4, 5], [0, 3]), ([4, 1, 6, 0, 1, 3, 4, 5, 6], [1, 4]), ([5, 2, 7, 0, 1, 2, 3, 4, 5, 6, 7], [2, 5])])
def wireloomlaw45_examples.B4 : List Nat := [0, 0, 0, 0, 0, 0, 57, 123, 255]
theorem wireloomlaw45_examples.tab4 : rtab .any (opsOf Try.f9 4) = wireloomlaw45_examples.T4 := by kernel_rfl
theorem wireloomlaw45_examples.bits4 : waitsOk wireloomlaw45_examples.T4.2 wireloomlaw45_examples.B4 = true := by kernel_rfl
def wireloomlaw45_examples.T11 : Bool × List (List Nat × List Nat) := (true, [([], []), ([0], [0]), ([], []), ([2], [2]), ([1, 3], [1, 3]), ([4, 1], [4]), ([5], [5]), ([6, 5, 5], [5, 6]), ([5], [5]), ([7, 8, 5], [5, 7, 8]), ([5, 9], [5, 9]), ([10, 7], [10]), ([11], [11]), ([11], [11]), ([12, 13, 11], [11, 12, 13]), ([11, 14], [11, 14]), ([15, 11], [15]), ([16], [16]), ([17, 16, 16], [16, 17]), ([16], [16]), ([18, 19, 16], [16, 18, 19]), ([16, 20], [16, 20]), ([21, 18], [21]), ([22], [22]), ([22], [22]), ([23, 24, 22], [22, 23, 24]), ([22, 25], [22, 25]), ([26, 22], [26]), ([27], [27]), ([28, 27, 27], [27, 28]), ([27], [27]), ([29, 30, 27], [27, 29, 30]), ([27, 31], [27, 31])])
def wireloomlaw45_examples.B11 : List Nat := [0, 1, 0, 4, 15, 31, 63, 127, 63, 511, 1023, 2047, 4095, 4095, 16383, 32767, 65535, 131071, 262143, 131071, 1048575, 2097151, 4194303, 8388607, 8388607, 33554431, 67108863, 134217727, 268435455, 536870911, 268435455, 2147483647, 4294967295]
theorem wireloomlaw45_examples.tab11 : rtab .any (opsOf Try.f9 11) = wireloomlaw45_examples.T11 := by kernel_rfl
theorem wireloomlaw45_examples.bits11 : waitsOk wireloomlaw45_examples.T11.2 wireloomlaw45_examples.B11 = true := by kernel_rfl
def wireloomlaw45_examples.T13 : Bool × List (List Nat × List Nat) := (true, [([], []), ([0], [0]), ([1, 1], [1]), ([2], [2]), ([3, 2, 2], [2, 3]), ([2, 4], [2, 4]), ([5, 4], [5]), ([6], [6]), ([7, 6, 6], [6, 7]), ([8, 6], [6, 8]), ([6, 9], [6, 9]), ([10, 8], [10]), ([11], [11]), ([12, 11, 11], [11, 12]), ([11, 13], [11, 13]), ([14, 13], [14]), ([15], [15]), ([16, 15, 15], [15, 16]), ([17, 15], [15, 17]), ([15, 18], [15, 18]), ([19, 17], [19]), ([20], [20]), ([21, 20, 20], [20, 21]), ([22, 20], [20, 22]), ([23, 20], [20, 23]), ([20, 24], [20, 24]), ([25, 22], [25]), ([26], [26]), ([27, 26, 26], [26, 27]), ([26], [26]), ([28, 29, 26], [26, 28, 29]), ([26, 30], [26, 30]), ([31, 28], [31]), ([32], [32]), ([33, 32, 32], [32, 33]), ([32], [32]), ([34, 35, 32], [32, 34, 35]), ([32, 36], [32, 36]), ([37, 34, 0, 1, 2, 3, 4, 5, 6, 7, 8, 9, 10, 11, 12, 13, 14, 15, 16, 17, 18, 19, 20, 21, 22, 23, 24, 25, 26, 27, 28, 29, 30, 31, 32, 33, 34, 35, 36, 37], [37])])
def wireloomlaw45_examples.B13 : List Nat := [0, 1, 3, 7, 15, 31, 63, 127, 255, 511, 1023, 2047, 4095, 8191, 16383, 32767, 65535, 131071, 262143, 524287, 1048575, 2097151, 4194303, 8388607, 16777215, 33554431, 67108863, 134217727, 268435455, 134217727, 1073741823, 2147483647, 4294967295, 8589934591, 17179869183, 8589934591, 68719476735, 137438953471, 274877906943]
theorem wireloomlaw45_examples.tab13 : rtab .any (opsOf Try.f9 13) = wireloomlaw45_examples.T13 := by kernel_rfl
theorem wireloomlaw45_examples.bits13 : waitsOk wireloomlaw45_examples.T13.2 wireloomlaw45_examples.B13 = true := by kernel_rfl
set_option maxHeartbeats 8000000 in
set_option maxRecDepth 100000 in
theorem wireloomlaw45_examples.calls  (r : Bool) (w : World) (h : wireloomlaw45_examples.f  = some r) :
    Calls Try.prog 9 #[] w fun e w' => e = .returned (.bool r) ∧ Below w.heap.size w w' := by
  have hu28 := Try.underlying28
  have hu34 := Try.underlying34
  have hu40 := Try.underlying40
  have hfd34_1 : ∀ (x0_ x1_ x2_ x3_ x4_ x5_ x6_ x7_ : Value) (W_ : World), (Instr.field 34 (.agg #[x0_, x1_, x2_, x3_, x4_, x5_, x6_, x7_]) 1).run Try.prog W_ = .ok (x7_) W_ := fun _ _ _ _ _ _ _ _ _ => by kernel_rfl
  have HB := Aside0.mk (Below.refl w.heap.size w)
  have H : (some true) = some r := h
  clear h
  have A1 := Aside0.mk (show monitor_See.f 1000 1000 5 10 900 1012 false 1014 = some (1004, 1005, 5, 10, 900, 1012, false) from by kernel_rfl)
  have A2 := Aside0.mk (show monitor_See.f 1004 1005 5 10 900 1012 false 1018 = some (1008, 1010, 5, 10, 900, 1012, true) from by kernel_rfl)
  have A3 := Aside0.mk (show wireloomlaw45_made.f 1000 1000 5 10 900 1012 false = some (1000, 1000, 5, 10, 900, 1012, false, 0) from by kernel_rfl)
  have A4 := Aside0.mk (show wireloomlaw45_outlook.f 1000 1000 5 10 900 1012 false = some (995, 1005) from by kernel_rfl)
  have A5 := Aside0.mk (show wireloomlaw45_outlook.f 1004 1005 5 10 900 1012 false = some (999, 1010) from by kernel_rfl)
  have A6 := Aside0.mk (show monitor_See.f 1000 1000 5 10 900 1012 false 1040 = some (1000, 1000, 5, 10, 900, 1012, true) from by kernel_rfl)
  have A7 := Aside0.mk (show monitor_Valid.f 1000 1000 5 10 900 1012 false = some true from by kernel_rfl)
  have A8 := Aside0.mk (show monitor_Valid.f 1000 1000 5 10 900 1012 true = some true from by kernel_rfl)
  have A9 := Aside0.mk (show monitor_Valid.f 0 0 0 0 0 0 false = some false from by kernel_rfl)
  have A10 := Aside0.mk (show monitor_Agrees.f 1000 1000 5 10 900 1012 false 1015 = some true from by kernel_rfl)
  have A11 := Aside0.mk (show monitor_Agrees.f 1000 1000 5 10 900 1012 false 1016 = some false from by kernel_rfl)
  have A12 := Aside0.mk (show wireloomlaw45_made.f 0 0 0 0 0 0 false = some (0, 0, 0, 0, 0, 0, false, 1) from by kernel_rfl)
  have A13 := Aside0.mk (show monitor_See.f 1000 1000 5 10 900 1012 true 1000 = some (1000, 1000, 5, 10, 900, 1012, true) from by kernel_rfl)
  have A14 := Aside0.mk (show monitor_Miss.f 1000 1000 5 10 900 1012 true = some (1000, 1000, 5, 10, 900, 1012, true) from by kernel_rfl)
  obtain rfl := Option.some.inj H
  go_enter Try.func9, Try.ntmps9
  try go_wp2_with (first | ((with_reducible refine gate_dst (N := 1) rfl ?_); refine box_event ?hg (N := 1) ?hd (cs := #[.int .i64 0, .int .i64 0, .int .i64 0, .int .i64 0, .int .i64 0, .int .i64 0, .bool false]) (t := 28) ?hr ?_; (case hd => rfl); (case hg => rfl); (case hr => first | (go_simp; done) | (go_simp; rfl)); intro gb245 hg w15 hbox hb; have n0_ := Aside0.mk (below_step (by repeat (first | (with_reducible first | exact HB.out | apply below_alloc | apply pw_below_drewN | apply below_drew1) | exact HB.out)) hb); have n1_ := Aside0.mk (hbox); have n2_ := Aside0.mk ((by rw [hg]; exact (below_size (by repeat (first | (with_reducible first | exact HB.out | apply below_alloc | apply pw_below_drewN | apply below_drew1) | exact HB.out))) : w.heap.size ≤ gb245)); have n3_ := Aside0.mk ((by rw [hg]; exact (below_size (by repeat (first | (with_reducible first | exact HB.out | apply below_alloc | apply pw_below_drewN | apply below_drew1) | exact HB.out))) : w.heap.size ≤ gb245)); clear HB; have HB := n0_; have BK245 := n1_; have GW245 := n2_; have GE245 := n3_; clear n0_ n1_ n2_ n3_; clear hb hbox hg; have hcz16_0 : w15.cell? ⟨gb245, 0, none⟩ = some (.int .i64 0) := bc BK245 0; have hcz16_1 : w15.cell? ⟨gb245, 1, none⟩ = some (.int .i64 0) := bc BK245 1; have hcz16_2 : w15.cell? ⟨gb245, 2, none⟩ = some (.int .i64 0) := bc BK245 2; have hcz16_3 : w15.cell? ⟨gb245, 3, none⟩ = some (.int .i64 0) := bc BK245 3; have hcz16_4 : w15.cell? ⟨gb245, 4, none⟩ = some (.int .i64 0) := bc BK245 4; have hcz16_5 : w15.cell? ⟨gb245, 5, none⟩ = some (.int .i64 0) := bc BK245 5; have hcz16_6 : w15.cell? ⟨gb245, 6, none⟩ = some (.bool false) := bc BK245 6; have hfz16_0 := blk_frozen BK245.out 0; have hfz16_1 := blk_frozen BK245.out 1; have hfz16_2 := blk_frozen BK245.out 2; have hfz16_3 := blk_frozen BK245.out 3; have hfz16_4 := blk_frozen BK245.out 4; have hfz16_5 := blk_frozen BK245.out 5; have hfz16_6 := blk_frozen BK245.out 6) | ((with_reducible refine gate_callee (f := 21) rfl ?_); refine goesL_ (some 9) rfl rfl Try.func21 (by kernel_rfl) rfl #[.agg #[.int .i64 1000, .int .i64 1000, .int .i64 5, .int .i64 10, .int .i64 900, .int .i64 1012, .bool false], .int .i64 1014] rfl (by (try simp only [List.map_toArray, List.map_cons, List.map_nil]); first | done | rfl | (simp only [List.length_drop, List.length_take]; rfl)) ?_; (with_reducible refine (monitor_See.calls 1000 1000 5 10 900 1012 false 1014 1004 1005 5 10 900 1012 false _ A1.out).mono ?_); rintro e w17 ⟨rfl, hb⟩; refine ⟨_, rfl, ?_⟩; have n0_ := Aside0.mk (blk_below (g := gb245) (o := .cells #[.int .i64 1000, .int .i64 1000, .int .i64 5, .int .i64 10, .int .i64 900, .int .i64 1012, .bool false] 28 (0, 0)) (by (with_reducible repeat refine bp_ ?_); refine blk_put (cs := #[.int .i64 1000, .int .i64 1000, .int .i64 5, .int .i64 10, .int .i64 900, .int .i64 1012, .bool false]) ?_ 6 _ rfl; (with_reducible repeat refine bp_ ?_); refine blk_put (cs := #[.int .i64 1000, .int .i64 1000, .int .i64 5, .int .i64 10, .int .i64 900, .int .i64 0, .bool false]) ?_ 5 _ rfl; (with_reducible repeat refine bp_ ?_); refine blk_put (cs := #[.int .i64 1000, .int .i64 1000, .int .i64 5, .int .i64 10, .int .i64 0, .int .i64 0, .bool false]) ?_ 4 _ rfl; (with_reducible repeat refine bp_ ?_); refine blk_put (cs := #[.int .i64 1000, .int .i64 1000, .int .i64 5, .int .i64 0, .int .i64 0, .int .i64 0, .bool false]) ?_ 3 _ rfl; (with_reducible repeat refine bp_ ?_); refine blk_put (cs := #[.int .i64 1000, .int .i64 1000, .int .i64 0, .int .i64 0, .int .i64 0, .int .i64 0, .bool false]) ?_ 2 _ rfl; (with_reducible repeat refine bp_ ?_); refine blk_put (cs := #[.int .i64 1000, .int .i64 0, .int .i64 0, .int .i64 0, .int .i64 0, .int .i64 0, .bool false]) ?_ 1 _ rfl; (with_reducible repeat refine bp_ ?_); refine blk_put (cs := #[.int .i64 0, .int .i64 0, .int .i64 0, .int .i64 0, .int .i64 0, .int .i64 0, .bool false]) ?_ 0 _ rfl; (with_reducible repeat refine bp_ ?_); exact BK245.out) hb); have n1_ := Aside0.mk (below_step (by repeat (first | (with_reducible first | exact HB.out | apply below_alloc | apply pw_below_drewN | apply below_drew1 | refine below_set ?_ GE245.out) | exact HB.out)) hb); clear BK245; clear HB; have BK245 := n0_; have HB := n1_; clear n0_ n1_; (try clear hb); (try clear hb2); (try clear hk); (try clear hi)) | ((with_reducible refine gate_dst (N := 2) rfl ?_); refine box_event ?hg (N := 2) ?hd (cs := #[.int .i64 0, .int .i64 0, .int .i64 0, .int .i64 0, .int .i64 0, .int .i64 0, .bool false]) (t := 28) ?hr ?_; (case hd => rfl); (case hg => rfl); (case hr => first | (go_simp; done) | (go_simp; rfl)); intro gb253 hg w18 hbox hb; have n0_ := bxb BK245 hb; have n1_ := Aside0.mk (below_step (bwt HB) hb); have n2_ := Aside0.mk (hbox); have n3_ := Aside0.mk ((by rw [hg]; exact (below_size (bwt HB)) : w.heap.size ≤ gb253)); have n4_ := Aside0.mk ((by rw [hg]; exact (below_size (bwt HB)) : w.heap.size ≤ gb253)); have n5_ := nlt_ BK245 hg; have n6_ := ngt_ BK245 hg; clear BK245; clear HB; have BK245 := n0_; have HB := n1_; have BK253 := n2_; have GW253 := n3_; have GE253 := n4_; have NB245_253 := n5_; have NB253_245 := n6_; clear n0_ n1_ n2_ n3_ n4_ n5_ n6_; clear hb hbox hg; have hnb19 := NB253_245.out; have hnc19 := NB245_253.out; have hcz20_0 : w18.cell? ⟨gb253, 0, none⟩ = some (.int .i64 0) := bc BK253 0; have hcz20_1 : w18.cell? ⟨gb253, 1, none⟩ = some (.int .i64 0) := bc BK253 1; have hcz20_2 : w18.cell? ⟨gb253, 2, none⟩ = some (.int .i64 0) := bc BK253 2; have hcz20_3 : w18.cell? ⟨gb253, 3, none⟩ = some (.int .i64 0) := bc BK253 3; have hcz20_4 : w18.cell? ⟨gb253, 4, none⟩ = some (.int .i64 0) := bc BK253 4; have hcz20_5 : w18.cell? ⟨gb253, 5, none⟩ = some (.int .i64 0) := bc BK253 5; have hcz20_6 : w18.cell? ⟨gb253, 6, none⟩ = some (.bool false) := bc BK253 6; have hfz20_0 := blk_frozen BK253.out 0; have hfz20_1 := blk_frozen BK253.out 1; have hfz20_2 := blk_frozen BK253.out 2; have hfz20_3 := blk_frozen BK253.out 3; have hfz20_4 := blk_frozen BK253.out 4; have hfz20_5 := blk_frozen BK253.out 5; have hfz20_6 := blk_frozen BK253.out 6) | ((with_reducible refine gate_callee (f := 21) rfl ?_); refine goesL_ (some 11) rfl rfl Try.func21 (by kernel_rfl) rfl #[.agg #[.int .i64 1004, .int .i64 1005, .int .i64 5, .int .i64 10, .int .i64 900, .int .i64 1012, .bool false], .int .i64 1018] rfl (by (try simp only [List.map_toArray, List.map_cons, List.map_nil]); first | done | rfl | (simp only [List.length_drop, List.length_take]; rfl)) ?_; (with_reducible refine (monitor_See.calls 1004 1005 5 10 900 1012 false 1018 1008 1010 5 10 900 1012 true _ A2.out).mono ?_); rintro e w21 ⟨rfl, hb⟩; refine ⟨_, rfl, ?_⟩; have n0_ := Aside0.mk (blk_below (g := gb245) (o := .cells #[.int .i64 1000, .int .i64 1000, .int .i64 5, .int .i64 10, .int .i64 900, .int .i64 1012, .bool false] 28 (0, 0)) (by (with_reducible repeat refine bp_ ?_); refine blk_far ?_ NB245_253.out _; (with_reducible repeat refine bp_ ?_); refine blk_far ?_ NB245_253.out _; (with_reducible repeat refine bp_ ?_); refine blk_far ?_ NB245_253.out _; (with_reducible repeat refine bp_ ?_); refine blk_far ?_ NB245_253.out _; (with_reducible repeat refine bp_ ?_); refine blk_far ?_ NB245_253.out _; (with_reducible repeat refine bp_ ?_); refine blk_far ?_ NB245_253.out _; (with_reducible repeat refine bp_ ?_); refine blk_far ?_ NB245_253.out _; (with_reducible repeat refine bp_ ?_); exact BK245.out) hb); have n1_ := Aside0.mk (blk_below (g := gb253) (o := .cells #[.int .i64 1004, .int .i64 1005, .int .i64 5, .int .i64 10, .int .i64 900, .int .i64 1012, .bool false] 28 (0, 0)) (by (with_reducible repeat refine bp_ ?_); refine blk_put (cs := #[.int .i64 1004, .int .i64 1005, .int .i64 5, .int .i64 10, .int .i64 900, .int .i64 1012, .bool false]) ?_ 6 _ rfl; (with_reducible repeat refine bp_ ?_); refine blk_put (cs := #[.int .i64 1004, .int .i64 1005, .int .i64 5, .int .i64 10, .int .i64 900, .int .i64 0, .bool false]) ?_ 5 _ rfl; (with_reducible repeat refine bp_ ?_); refine blk_put (cs := #[.int .i64 1004, .int .i64 1005, .int .i64 5, .int .i64 10, .int .i64 0, .int .i64 0, .bool false]) ?_ 4 _ rfl; (with_reducible repeat refine bp_ ?_); refine blk_put (cs := #[.int .i64 1004, .int .i64 1005, .int .i64 5, .int .i64 0, .int .i64 0, .int .i64 0, .bool false]) ?_ 3 _ rfl; (with_reducible repeat refine bp_ ?_); refine blk_put (cs := #[.int .i64 1004, .int .i64 1005, .int .i64 0, .int .i64 0, .int .i64 0, .int .i64 0, .bool false]) ?_ 2 _ rfl; (with_reducible repeat refine bp_ ?_); refine blk_put (cs := #[.int .i64 1004, .int .i64 0, .int .i64 0, .int .i64 0, .int .i64 0, .int .i64 0, .bool false]) ?_ 1 _ rfl; (with_reducible repeat refine bp_ ?_); refine blk_put (cs := #[.int .i64 0, .int .i64 0, .int .i64 0, .int .i64 0, .int .i64 0, .int .i64 0, .bool false]) ?_ 0 _ rfl; (with_reducible repeat refine bp_ ?_); exact BK253.out) hb); have n2_ := Aside0.mk (below_step (by repeat (first | (with_reducible first | exact HB.out | apply below_alloc | apply pw_below_drewN | apply below_drew1 | refine below_set ?_ GE245.out | refine below_set ?_ GE253.out) | exact HB.out)) hb); clear BK245; clear BK253; clear HB; have BK245 := n0_; have BK253 := n1_; have HB := n2_; clear n0_ n1_ n2_; (try clear hb); (try clear hb2); (try clear hk); (try clear hi)) | ((with_reducible refine gate_dst (N := 3) rfl ?_); refine box_event ?hg (N := 3) ?hd (cs := #[.int .i64 0, .int .i64 0, .int .i64 0, .int .i64 0, .int .i64 0, .int .i64 0, .bool false]) (t := 28) ?hr ?_; (case hd => rfl); (case hg => rfl); (case hr => first | (go_simp; done) | (go_simp; rfl)); intro gb261 hg w22 hbox hb; have n0_ := bxb BK245 hb; have n1_ := bxb BK253 hb; have n2_ := Aside0.mk (below_step (bwt HB) hb); have n3_ := Aside0.mk (hbox); have n4_ := Aside0.mk ((by rw [hg]; exact (below_size (bwt HB)) : w.heap.size ≤ gb261)); have n5_ := Aside0.mk ((by rw [hg]; exact (below_size (bwt HB)) : w.heap.size ≤ gb261)); have n6_ := nlt_ BK245 hg; have n7_ := ngt_ BK245 hg; have n8_ := nlt_ BK253 hg; have n9_ := ngt_ BK253 hg; clear BK245; clear BK253; clear HB; have BK245 := n0_; have BK253 := n1_; have HB := n2_; have BK261 := n3_; have GW261 := n4_; have GE261 := n5_; have NB245_261 := n6_; have NB261_245 := n7_; have NB253_261 := n8_; have NB261_253 := n9_; clear n0_ n1_ n2_ n3_ n4_ n5_ n6_ n7_ n8_ n9_; clear hb hbox hg; have hnb23 := NB261_245.out; have hnc23 := NB245_261.out; have hnb24 := NB261_253.out; have hnc24 := NB253_261.out; have hcz25_0 : w22.cell? ⟨gb261, 0, none⟩ = some (.int .i64 0) := bc BK261 0; have hcz25_1 : w22.cell? ⟨gb261, 1, none⟩ = some (.int .i64 0) := bc BK261 1; have hcz25_2 : w22.cell? ⟨gb261, 2, none⟩ = some (.int .i64 0) := bc BK261 2; have hcz25_3 : w22.cell? ⟨gb261, 3, none⟩ = some (.int .i64 0) := bc BK261 3; have hcz25_4 : w22.cell? ⟨gb261, 4, none⟩ = some (.int .i64 0) := bc BK261 4; have hcz25_5 : w22.cell? ⟨gb261, 5, none⟩ = some (.int .i64 0) := bc BK261 5; have hcz25_6 : w22.cell? ⟨gb261, 6, none⟩ = some (.bool false) := bc BK261 6; have hfz25_0 := blk_frozen BK261.out 0; have hfz25_1 := blk_frozen BK261.out 1; have hfz25_2 := blk_frozen BK261.out 2; have hfz25_3 := blk_frozen BK261.out 3; have hfz25_4 := blk_frozen BK261.out 4; have hfz25_5 := blk_frozen BK261.out 5; have hfz25_6 := blk_frozen BK261.out 6))
  have n0_ : Aside0 ((((((((w22.setCell ⟨gb261, 0, none⟩ (.int .i64 1008)).setCell ⟨gb261, 1, none⟩ (.int .i64 1010)).setCell ⟨gb261, 2, none⟩ (.int .i64 5)).setCell ⟨gb261, 3, none⟩ (.int .i64 10)).setCell ⟨gb261, 4, none⟩ (.int .i64 900)).setCell ⟨gb261, 5, none⟩ (.int .i64 1012)).setCell ⟨gb261, 6, none⟩ (.bool true)).heap[gb245]? = some (.cells #[.int .i64 1000, .int .i64 1000, .int .i64 5, .int .i64 10, .int .i64 900, .int .i64 1012, .bool false] 28 (0, 0))) := ⟨by (with_reducible repeat refine bp_ ?_); refine blk_far ?_ NB245_261.out _; (with_reducible repeat refine bp_ ?_); refine blk_far ?_ NB245_261.out _; (with_reducible repeat refine bp_ ?_); refine blk_far ?_ NB245_261.out _; (with_reducible repeat refine bp_ ?_); refine blk_far ?_ NB245_261.out _; (with_reducible repeat refine bp_ ?_); refine blk_far ?_ NB245_261.out _; (with_reducible repeat refine bp_ ?_); refine blk_far ?_ NB245_261.out _; (with_reducible repeat refine bp_ ?_); refine blk_far ?_ NB245_261.out _; (with_reducible repeat refine bp_ ?_); exact BK245.out⟩
  have n1_ : Aside0 ((((((((w22.setCell ⟨gb261, 0, none⟩ (.int .i64 1008)).setCell ⟨gb261, 1, none⟩ (.int .i64 1010)).setCell ⟨gb261, 2, none⟩ (.int .i64 5)).setCell ⟨gb261, 3, none⟩ (.int .i64 10)).setCell ⟨gb261, 4, none⟩ (.int .i64 900)).setCell ⟨gb261, 5, none⟩ (.int .i64 1012)).setCell ⟨gb261, 6, none⟩ (.bool true)).heap[gb253]? = some (.cells #[.int .i64 1004, .int .i64 1005, .int .i64 5, .int .i64 10, .int .i64 900, .int .i64 1012, .bool false] 28 (0, 0))) := ⟨by (with_reducible repeat refine bp_ ?_); refine blk_far ?_ NB253_261.out _; (with_reducible repeat refine bp_ ?_); refine blk_far ?_ NB253_261.out _; (with_reducible repeat refine bp_ ?_); refine blk_far ?_ NB253_261.out _; (with_reducible repeat refine bp_ ?_); refine blk_far ?_ NB253_261.out _; (with_reducible repeat refine bp_ ?_); refine blk_far ?_ NB253_261.out _; (with_reducible repeat refine bp_ ?_); refine blk_far ?_ NB253_261.out _; (with_reducible repeat refine bp_ ?_); refine blk_far ?_ NB253_261.out _; (with_reducible repeat refine bp_ ?_); exact BK253.out⟩
  have n2_ : Aside0 ((((((((w22.setCell ⟨gb261, 0, none⟩ (.int .i64 1008)).setCell ⟨gb261, 1, none⟩ (.int .i64 1010)).setCell ⟨gb261, 2, none⟩ (.int .i64 5)).setCell ⟨gb261, 3, none⟩ (.int .i64 10)).setCell ⟨gb261, 4, none⟩ (.int .i64 900)).setCell ⟨gb261, 5, none⟩ (.int .i64 1012)).setCell ⟨gb261, 6, none⟩ (.bool true)).heap[gb261]? = some (.cells #[.int .i64 1008, .int .i64 1010, .int .i64 5, .int .i64 10, .int .i64 900, .int .i64 1012, .bool true] 28 (0, 0))) := ⟨by (with_reducible repeat refine bp_ ?_); refine blk_put (cs := #[.int .i64 1008, .int .i64 1010, .int .i64 5, .int .i64 10, .int .i64 900, .int .i64 1012, .bool false]) ?_ 6 _ rfl; (with_reducible repeat refine bp_ ?_); refine blk_put (cs := #[.int .i64 1008, .int .i64 1010, .int .i64 5, .int .i64 10, .int .i64 900, .int .i64 0, .bool false]) ?_ 5 _ rfl; (with_reducible repeat refine bp_ ?_); refine blk_put (cs := #[.int .i64 1008, .int .i64 1010, .int .i64 5, .int .i64 10, .int .i64 0, .int .i64 0, .bool false]) ?_ 4 _ rfl; (with_reducible repeat refine bp_ ?_); refine blk_put (cs := #[.int .i64 1008, .int .i64 1010, .int .i64 5, .int .i64 0, .int .i64 0, .int .i64 0, .bool false]) ?_ 3 _ rfl; (with_reducible repeat refine bp_ ?_); refine blk_put (cs := #[.int .i64 1008, .int .i64 1010, .int .i64 0, .int .i64 0, .int .i64 0, .int .i64 0, .bool false]) ?_ 2 _ rfl; (with_reducible repeat refine bp_ ?_); refine blk_put (cs := #[.int .i64 1008, .int .i64 0, .int .i64 0, .int .i64 0, .int .i64 0, .int .i64 0, .bool false]) ?_ 1 _ rfl; (with_reducible repeat refine bp_ ?_); refine blk_put (cs := #[.int .i64 0, .int .i64 0, .int .i64 0, .int .i64 0, .int .i64 0, .int .i64 0, .bool false]) ?_ 0 _ rfl; (with_reducible repeat refine bp_ ?_); exact BK261.out⟩
  have n3_ : Aside0 (Below w.heap.size w (((((((w22.setCell ⟨gb261, 0, none⟩ (.int .i64 1008)).setCell ⟨gb261, 1, none⟩ (.int .i64 1010)).setCell ⟨gb261, 2, none⟩ (.int .i64 5)).setCell ⟨gb261, 3, none⟩ (.int .i64 10)).setCell ⟨gb261, 4, none⟩ (.int .i64 900)).setCell ⟨gb261, 5, none⟩ (.int .i64 1012)).setCell ⟨gb261, 6, none⟩ (.bool true))) := ⟨by repeat (first | (with_reducible first | exact HB.out | apply below_alloc | apply pw_below_drewN | apply below_drew1 | refine below_set ?_ GE245.out | refine below_set ?_ GE253.out | refine below_set ?_ GE261.out) | exact HB.out)⟩
  (try clear BK245)
  (try clear BK253)
  (try clear BK261)
  (try clear HB)
  generalize (((((((w22.setCell ⟨gb261, 0, none⟩ (.int .i64 1008)).setCell ⟨gb261, 1, none⟩ (.int .i64 1010)).setCell ⟨gb261, 2, none⟩ (.int .i64 5)).setCell ⟨gb261, 3, none⟩ (.int .i64 10)).setCell ⟨gb261, 4, none⟩ (.int .i64 900)).setCell ⟨gb261, 5, none⟩ (.int .i64 1012)).setCell ⟨gb261, 6, none⟩ (.bool true)) = w26 at n0_ n1_ n2_ n3_ ⊢
  have BK245 := n0_
  have BK253 := n1_
  have BK261 := n2_
  have HB := n3_
  clear n0_ n1_ n2_ n3_
  have n0_ := Aside0.mk (blk_drew BK245.out)
  have n1_ := Aside0.mk (blk_drew BK253.out)
  have n2_ := Aside0.mk (blk_drew BK261.out)
  have n3_ := Aside0.mk (below_drew1 HB.out)
  clear BK245
  clear BK253
  clear BK261
  clear HB
  have BK245 := n0_
  have BK253 := n1_
  have BK261 := n2_
  have HB := n3_
  clear n0_ n1_ n2_ n3_
  refine start_ (n := 9) (S := fun w' => w'.cell? ⟨gb245, 0, none⟩ = some (.int .i64 1000) ∧ w'.cell? ⟨gb245, 1, none⟩ = some (.int .i64 1000) ∧ w'.cell? ⟨gb245, 2, none⟩ = some (.int .i64 5) ∧ w'.cell? ⟨gb245, 3, none⟩ = some (.int .i64 10) ∧ w'.cell? ⟨gb245, 4, none⟩ = some (.int .i64 900) ∧ w'.cell? ⟨gb245, 5, none⟩ = some (.int .i64 1012) ∧ w'.cell? ⟨gb245, 6, none⟩ = some (.bool false)) (ds := []) #[false, false, false, false, false, false, false, false, false] (by kernel_rfl) rfl rfl ⟨bc BK245 0, bc BK245 1, bc BK245 2, bc BK245 3, bc BK245 4, bc BK245 5, bc BK245 6⟩ (fun hHeld => ?_); refine with_tabW wireloomlaw45_examples.tab4 wireloomlaw45_examples.bits4 (fun HT_ HW_ => ?_)
  generalize w26.drew = w27 at BK245 BK253 BK261 HB hHeld ⊢
  refine take_ (i := 0) (N := some 12) (v := ?_) (a' := ?_) #[true, false, false, false, false, false, false, false, false] rfl rfl (take_ofW HT_.out HW_.out (by kernel_rfl)) (fun _ _ _ h => h) (Or.inl ⟨by rfl, ?_⟩) hHeld ?_ ?_
  rotate_left
  · rintro w' ⟨s0, s1, s2, s3, s4, s5, s6⟩
    go_simp
    with_reducible rfl
  rotate_left
  · simp only [Act.put, List.setIfInBounds_toArray, List.set_cons_zero, List.set_cons_succ, i64_w, i32_w]
    rfl
  refine take_ (i := 1) (N := some 13) (v := ?_) (a' := ?_) #[true, true, false, false, false, false, false, false, false] rfl rfl (take_ofW HT_.out HW_.out (by kernel_rfl)) (fun _ _ _ h => h) (Or.inl ⟨by rfl, ?_⟩) hHeld ?_ ?_
  rotate_left
  · rintro w' ⟨s0, s1, s2, s3, s4, s5, s6⟩
    go_simp
    with_reducible rfl
  rotate_left
  · simp only [Act.put, List.setIfInBounds_toArray, List.set_cons_zero, List.set_cons_succ, i64_w, i32_w]
    rfl
  refine take_ (i := 2) (N := some 14) (v := ?_) (a' := ?_) #[true, true, true, false, false, false, false, false, false] rfl rfl (take_ofW HT_.out HW_.out (by kernel_rfl)) (fun _ _ _ h => h) (Or.inl ⟨by rfl, ?_⟩) hHeld ?_ ?_
  rotate_left
  · rintro w' ⟨s0, s1, s2, s3, s4, s5, s6⟩
    go_simp
    with_reducible rfl
  rotate_left
  · simp only [Act.put, List.setIfInBounds_toArray, List.set_cons_zero, List.set_cons_succ, i64_w, i32_w]
    rfl
  refine join_ (σ := Nat × Nat × Nat) 3 #[true, true, true, true, true, true, false, false, false] (fun s_ => [(4, .pointer (some ⟨s_.1, 0, none⟩)), (5, .pointer (some ⟨s_.2.1, 0, none⟩)), (6, .pointer (some ⟨s_.2.2, 0, none⟩))]) (fun s_ w' => (w'.cell? ⟨gb245, 0, none⟩ = some (.int .i64 1000) ∧ w'.cell? ⟨gb245, 1, none⟩ = some (.int .i64 1000) ∧ w'.cell? ⟨gb245, 2, none⟩ = some (.int .i64 5) ∧ w'.cell? ⟨gb245, 3, none⟩ = some (.int .i64 10) ∧ w'.cell? ⟨gb245, 4, none⟩ = some (.int .i64 900) ∧ w'.cell? ⟨gb245, 5, none⟩ = some (.int .i64 1012) ∧ w'.cell? ⟨gb245, 6, none⟩ = some (.bool false)) ∧ (w'.heap[gb245]? = some (.cells #[.int .i64 1000, .int .i64 1000, .int .i64 5, .int .i64 10, .int .i64 900, .int .i64 1012, .bool false] 28 (0, 0))) ∧ (w'.heap[gb253]? = some (.cells #[.int .i64 1004, .int .i64 1005, .int .i64 5, .int .i64 10, .int .i64 900, .int .i64 1012, .bool false] 28 (0, 0))) ∧ (w'.heap[gb261]? = some (.cells #[.int .i64 1008, .int .i64 1010, .int .i64 5, .int .i64 10, .int .i64 900, .int .i64 1012, .bool true] 28 (0, 0))) ∧ (w'.heap[s_.1]? = some (.cells #[.int .i64 0, .int .i64 0, .int .i64 0, .int .i64 0, .int .i64 0, .int .i64 0, .bool false] 28 (0, 0))) ∧ (w'.heap[s_.2.1]? = some (.cells #[.int .i64 0, .int .i64 0, .int .i64 0, .int .i64 0, .int .i64 0, .int .i64 0, .bool false] 28 (0, 0))) ∧ (w'.heap[s_.2.2]? = some (.cells #[.int .i64 0, .int .i64 0, .int .i64 0, .int .i64 0, .int .i64 0, .int .i64 0, .bool false] 28 (0, 0))) ∧ (w.heap.size ≤ s_.1) ∧ (w.heap.size ≤ s_.1) ∧ (gb245 ≠ s_.1) ∧ (s_.1 ≠ gb245) ∧ (gb253 ≠ s_.1) ∧ (s_.1 ≠ gb253) ∧ (gb261 ≠ s_.1) ∧ (s_.1 ≠ gb261) ∧ (s_.2.1 ≠ s_.1) ∧ (s_.1 ≠ s_.2.1) ∧ (s_.2.2 ≠ s_.1) ∧ (s_.1 ≠ s_.2.2) ∧ (w.heap.size ≤ s_.2.1) ∧ (w.heap.size ≤ s_.2.1) ∧ (gb245 ≠ s_.2.1) ∧ (s_.2.1 ≠ gb245) ∧ (gb253 ≠ s_.2.1) ∧ (s_.2.1 ≠ gb253) ∧ (gb261 ≠ s_.2.1) ∧ (s_.2.1 ≠ gb261) ∧ (s_.2.2 ≠ s_.2.1) ∧ (s_.2.1 ≠ s_.2.2) ∧ (w.heap.size ≤ s_.2.2) ∧ (w.heap.size ≤ s_.2.2) ∧ (gb245 ≠ s_.2.2) ∧ (s_.2.2 ≠ gb245) ∧ (gb253 ≠ s_.2.2) ∧ (s_.2.2 ≠ gb253) ∧ (gb261 ≠ s_.2.2) ∧ (s_.2.2 ≠ gb261) ∧ (Below w.heap.size w w')) ?_ ?_
  rotate_left
  · intro hJ3_4_5
    refine join_ (σ := Nat × Nat) 4 #[true, true, true, true, true, false, false, false, false] (fun s_ => [(4, .pointer (some ⟨s_.1, 0, none⟩)), (5, .pointer (some ⟨s_.2, 0, none⟩))]) (fun s_ w' => (w'.cell? ⟨gb245, 0, none⟩ = some (.int .i64 1000) ∧ w'.cell? ⟨gb245, 1, none⟩ = some (.int .i64 1000) ∧ w'.cell? ⟨gb245, 2, none⟩ = some (.int .i64 5) ∧ w'.cell? ⟨gb245, 3, none⟩ = some (.int .i64 10) ∧ w'.cell? ⟨gb245, 4, none⟩ = some (.int .i64 900) ∧ w'.cell? ⟨gb245, 5, none⟩ = some (.int .i64 1012) ∧ w'.cell? ⟨gb245, 6, none⟩ = some (.bool false)) ∧ (w'.heap[gb245]? = some (.cells #[.int .i64 1000, .int .i64 1000, .int .i64 5, .int .i64 10, .int .i64 900, .int .i64 1012, .bool false] 28 (0, 0))) ∧ (w'.heap[gb253]? = some (.cells #[.int .i64 1004, .int .i64 1005, .int .i64 5, .int .i64 10, .int .i64 900, .int .i64 1012, .bool false] 28 (0, 0))) ∧ (w'.heap[gb261]? = some (.cells #[.int .i64 1008, .int .i64 1010, .int .i64 5, .int .i64 10, .int .i64 900, .int .i64 1012, .bool true] 28 (0, 0))) ∧ (w'.heap[s_.1]? = some (.cells #[.int .i64 0, .int .i64 0, .int .i64 0, .int .i64 0, .int .i64 0, .int .i64 0, .bool false] 28 (0, 0))) ∧ (w'.heap[s_.2]? = some (.cells #[.int .i64 0, .int .i64 0, .int .i64 0, .int .i64 0, .int .i64 0, .int .i64 0, .bool false] 28 (0, 0))) ∧ (w.heap.size ≤ s_.1) ∧ (w.heap.size ≤ s_.1) ∧ (gb245 ≠ s_.1) ∧ (s_.1 ≠ gb245) ∧ (gb253 ≠ s_.1) ∧ (s_.1 ≠ gb253) ∧ (gb261 ≠ s_.1) ∧ (s_.1 ≠ gb261) ∧ (s_.2 ≠ s_.1) ∧ (s_.1 ≠ s_.2) ∧ (w.heap.size ≤ s_.2) ∧ (w.heap.size ≤ s_.2) ∧ (gb245 ≠ s_.2) ∧ (s_.2 ≠ gb245) ∧ (gb253 ≠ s_.2) ∧ (s_.2 ≠ gb253) ∧ (gb261 ≠ s_.2) ∧ (s_.2 ≠ gb261) ∧ (Below w.heap.size w w')) ?_ ?_
    rotate_left
    · intro hJ3_4
      refine join_ (σ := Nat × Nat) 4 #[true, true, true, true, false, true, false, false, false] (fun s_ => [(4, .pointer (some ⟨s_.1, 0, none⟩)), (6, .pointer (some ⟨s_.2, 0, none⟩))]) (fun s_ w' => (w'.cell? ⟨gb245, 0, none⟩ = some (.int .i64 1000) ∧ w'.cell? ⟨gb245, 1, none⟩ = some (.int .i64 1000) ∧ w'.cell? ⟨gb245, 2, none⟩ = some (.int .i64 5) ∧ w'.cell? ⟨gb245, 3, none⟩ = some (.int .i64 10) ∧ w'.cell? ⟨gb245, 4, none⟩ = some (.int .i64 900) ∧ w'.cell? ⟨gb245, 5, none⟩ = some (.int .i64 1012) ∧ w'.cell? ⟨gb245, 6, none⟩ = some (.bool false)) ∧ (w'.heap[gb245]? = some (.cells #[.int .i64 1000, .int .i64 1000, .int .i64 5, .int .i64 10, .int .i64 900, .int .i64 1012, .bool false] 28 (0, 0))) ∧ (w'.heap[gb253]? = some (.cells #[.int .i64 1004, .int .i64 1005, .int .i64 5, .int .i64 10, .int .i64 900, .int .i64 1012, .bool false] 28 (0, 0))) ∧ (w'.heap[gb261]? = some (.cells #[.int .i64 1008, .int .i64 1010, .int .i64 5, .int .i64 10, .int .i64 900, .int .i64 1012, .bool true] 28 (0, 0))) ∧ (w'.heap[s_.1]? = some (.cells #[.int .i64 0, .int .i64 0, .int .i64 0, .int .i64 0, .int .i64 0, .int .i64 0, .bool false] 28 (0, 0))) ∧ (w'.heap[s_.2]? = some (.cells #[.int .i64 0, .int .i64 0, .int .i64 0, .int .i64 0, .int .i64 0, .int .i64 0, .bool false] 28 (0, 0))) ∧ (w.heap.size ≤ s_.1) ∧ (w.heap.size ≤ s_.1) ∧ (gb245 ≠ s_.1) ∧ (s_.1 ≠ gb245) ∧ (gb253 ≠ s_.1) ∧ (s_.1 ≠ gb253) ∧ (gb261 ≠ s_.1) ∧ (s_.1 ≠ gb261) ∧ (s_.2 ≠ s_.1) ∧ (s_.1 ≠ s_.2) ∧ (w.heap.size ≤ s_.2) ∧ (w.heap.size ≤ s_.2) ∧ (gb245 ≠ s_.2) ∧ (s_.2 ≠ gb245) ∧ (gb253 ≠ s_.2) ∧ (s_.2 ≠ gb253) ∧ (gb261 ≠ s_.2) ∧ (s_.2 ≠ gb261) ∧ (Below w.heap.size w w')) ?_ ?_
      rotate_left
      · intro hJ3_5
        refine join_ (σ := Nat × Nat) 4 #[true, true, true, false, true, true, false, false, false] (fun s_ => [(5, .pointer (some ⟨s_.1, 0, none⟩)), (6, .pointer (some ⟨s_.2, 0, none⟩))]) (fun s_ w' => (w'.cell? ⟨gb245, 0, none⟩ = some (.int .i64 1000) ∧ w'.cell? ⟨gb245, 1, none⟩ = some (.int .i64 1000) ∧ w'.cell? ⟨gb245, 2, none⟩ = some (.int .i64 5) ∧ w'.cell? ⟨gb245, 3, none⟩ = some (.int .i64 10) ∧ w'.cell? ⟨gb245, 4, none⟩ = some (.int .i64 900) ∧ w'.cell? ⟨gb245, 5, none⟩ = some (.int .i64 1012) ∧ w'.cell? ⟨gb245, 6, none⟩ = some (.bool false)) ∧ (w'.heap[gb245]? = some (.cells #[.int .i64 1000, .int .i64 1000, .int .i64 5, .int .i64 10, .int .i64 900, .int .i64 1012, .bool false] 28 (0, 0))) ∧ (w'.heap[gb253]? = some (.cells #[.int .i64 1004, .int .i64 1005, .int .i64 5, .int .i64 10, .int .i64 900, .int .i64 1012, .bool false] 28 (0, 0))) ∧ (w'.heap[gb261]? = some (.cells #[.int .i64 1008, .int .i64 1010, .int .i64 5, .int .i64 10, .int .i64 900, .int .i64 1012, .bool true] 28 (0, 0))) ∧ (w'.heap[s_.1]? = some (.cells #[.int .i64 0, .int .i64 0, .int .i64 0, .int .i64 0, .int .i64 0, .int .i64 0, .bool false] 28 (0, 0))) ∧ (w'.heap[s_.2]? = some (.cells #[.int .i64 0, .int .i64 0, .int .i64 0, .int .i64 0, .int .i64 0, .int .i64 0, .bool false] 28 (0, 0))) ∧ (w.heap.size ≤ s_.1) ∧ (w.heap.size ≤ s_.1) ∧ (gb245 ≠ s_.1) ∧ (s_.1 ≠ gb245) ∧ (gb253 ≠ s_.1) ∧ (s_.1 ≠ gb253) ∧ (gb261 ≠ s_.1) ∧ (s_.1 ≠ gb261) ∧ (s_.2 ≠ s_.1) ∧ (s_.1 ≠ s_.2) ∧ (w.heap.size ≤ s_.2) ∧ (w.heap.size ≤ s_.2) ∧ (gb245 ≠ s_.2) ∧ (s_.2 ≠ gb245) ∧ (gb253 ≠ s_.2) ∧ (s_.2 ≠ gb253) ∧ (gb261 ≠ s_.2) ∧ (s_.2 ≠ gb261) ∧ (Below w.heap.size w w')) ?_ ?_
        rotate_left
        · intro hJ4_5
          refine join_ (σ := Nat) 5 #[true, true, true, true, false, false, false, false, false] (fun s_ => [(4, .pointer (some ⟨s_, 0, none⟩))]) (fun s_ w' => (w'.cell? ⟨gb245, 0, none⟩ = some (.int .i64 1000) ∧ w'.cell? ⟨gb245, 1, none⟩ = some (.int .i64 1000) ∧ w'.cell? ⟨gb245, 2, none⟩ = some (.int .i64 5) ∧ w'.cell? ⟨gb245, 3, none⟩ = some (.int .i64 10) ∧ w'.cell? ⟨gb245, 4, none⟩ = some (.int .i64 900) ∧ w'.cell? ⟨gb245, 5, none⟩ = some (.int .i64 1012) ∧ w'.cell? ⟨gb245, 6, none⟩ = some (.bool false)) ∧ (w'.heap[gb245]? = some (.cells #[.int .i64 1000, .int .i64 1000, .int .i64 5, .int .i64 10, .int .i64 900, .int .i64 1012, .bool false] 28 (0, 0))) ∧ (w'.heap[gb253]? = some (.cells #[.int .i64 1004, .int .i64 1005, .int .i64 5, .int .i64 10, .int .i64 900, .int .i64 1012, .bool false] 28 (0, 0))) ∧ (w'.heap[gb261]? = some (.cells #[.int .i64 1008, .int .i64 1010, .int .i64 5, .int .i64 10, .int .i64 900, .int .i64 1012, .bool true] 28 (0, 0))) ∧ (w'.heap[s_]? = some (.cells #[.int .i64 0, .int .i64 0, .int .i64 0, .int .i64 0, .int .i64 0, .int .i64 0, .bool false] 28 (0, 0))) ∧ (w.heap.size ≤ s_) ∧ (w.heap.size ≤ s_) ∧ (gb245 ≠ s_) ∧ (s_ ≠ gb245) ∧ (gb253 ≠ s_) ∧ (s_ ≠ gb253) ∧ (gb261 ≠ s_) ∧ (s_ ≠ gb261) ∧ (Below w.heap.size w w')) ?_ ?_
          rotate_left
          · intro hJ3
            refine join_ (σ := Nat) 5 #[true, true, true, false, true, false, false, false, false] (fun s_ => [(5, .pointer (some ⟨s_, 0, none⟩))]) (fun s_ w' => (w'.cell? ⟨gb245, 0, none⟩ = some (.int .i64 1000) ∧ w'.cell? ⟨gb245, 1, none⟩ = some (.int .i64 1000) ∧ w'.cell? ⟨gb245, 2, none⟩ = some (.int .i64 5) ∧ w'.cell? ⟨gb245, 3, none⟩ = some (.int .i64 10) ∧ w'.cell? ⟨gb245, 4, none⟩ = some (.int .i64 900) ∧ w'.cell? ⟨gb245, 5, none⟩ = some (.int .i64 1012) ∧ w'.cell? ⟨gb245, 6, none⟩ = some (.bool false)) ∧ (w'.heap[gb245]? = some (.cells #[.int .i64 1000, .int .i64 1000, .int .i64 5, .int .i64 10, .int .i64 900, .int .i64 1012, .bool false] 28 (0, 0))) ∧ (w'.heap[gb253]? = some (.cells #[.int .i64 1004, .int .i64 1005, .int .i64 5, .int .i64 10, .int .i64 900, .int .i64 1012, .bool false] 28 (0, 0))) ∧ (w'.heap[gb261]? = some (.cells #[.int .i64 1008, .int .i64 1010, .int .i64 5, .int .i64 10, .int .i64 900, .int .i64 1012, .bool true] 28 (0, 0))) ∧ (w'.heap[s_]? = some (.cells #[.int .i64 0, .int .i64 0, .int .i64 0, .int .i64 0, .int .i64 0, .int .i64 0, .bool false] 28 (0, 0))) ∧ (w.heap.size ≤ s_) ∧ (w.heap.size ≤ s_) ∧ (gb245 ≠ s_) ∧ (s_ ≠ gb245) ∧ (gb253 ≠ s_) ∧ (s_ ≠ gb253) ∧ (gb261 ≠ s_) ∧ (s_ ≠ gb261) ∧ (Below w.heap.size w w')) ?_ ?_
            rotate_left
            · intro hJ4
              refine join_ (σ := Nat) 5 #[true, true, true, false, false, true, false, false, false] (fun s_ => [(6, .pointer (some ⟨s_, 0, none⟩))]) (fun s_ w' => (w'.cell? ⟨gb245, 0, none⟩ = some (.int .i64 1000) ∧ w'.cell? ⟨gb245, 1, none⟩ = some (.int .i64 1000) ∧ w'.cell? ⟨gb245, 2, none⟩ = some (.int .i64 5) ∧ w'.cell? ⟨gb245, 3, none⟩ = some (.int .i64 10) ∧ w'.cell? ⟨gb245, 4, none⟩ = some (.int .i64 900) ∧ w'.cell? ⟨gb245, 5, none⟩ = some (.int .i64 1012) ∧ w'.cell? ⟨gb245, 6, none⟩ = some (.bool false)) ∧ (w'.heap[gb245]? = some (.cells #[.int .i64 1000, .int .i64 1000, .int .i64 5, .int .i64 10, .int .i64 900, .int .i64 1012, .bool false] 28 (0, 0))) ∧ (w'.heap[gb253]? = some (.cells #[.int .i64 1004, .int .i64 1005, .int .i64 5, .int .i64 10, .int .i64 900, .int .i64 1012, .bool false] 28 (0, 0))) ∧ (w'.heap[gb261]? = some (.cells #[.int .i64 1008, .int .i64 1010, .int .i64 5, .int .i64 10, .int .i64 900, .int .i64 1012, .bool true] 28 (0, 0))) ∧ (w'.heap[s_]? = some (.cells #[.int .i64 0, .int .i64 0, .int .i64 0, .int .i64 0, .int .i64 0, .int .i64 0, .bool false] 28 (0, 0))) ∧ (w.heap.size ≤ s_) ∧ (w.heap.size ≤ s_) ∧ (gb245 ≠ s_) ∧ (s_ ≠ gb245) ∧ (gb253 ≠ s_) ∧ (s_ ≠ gb253) ∧ (gb261 ≠ s_) ∧ (s_ ≠ gb261) ∧ (Below w.heap.size w w')) ?_ ?_
              rotate_left
              · intro hJ5
                refine three_ (i := 3) (j := 4) (k := 5) (Ni := some 4) (Nj := some 5) (Nk := some 6) #[true, true, true, true, false, false, false, false, false] #[true, true, true, false, true, false, false, false, false] #[true, true, true, false, false, true, false, false, false] rfl rfl rfl rfl rfl rfl (three_of HT_.out (by kernel_rfl)) (by decide) (by decide) (by decide) (fun K hK => ?_) (fun K hK => ?_) (fun K hK => ?_)
                · skip
                  refine box_step ?hg (N := 4) ?hd (cs := #[.int .i64 0, .int .i64 0, .int .i64 0, .int .i64 0, .int .i64 0, .int .i64 0, .bool false]) (t := 28) ?hr ?_; (case hd => rfl); (case hg => rfl); (case hr => first | (go_simp; done) | (go_simp; rfl))
                  intro gb262 hg w28 hbox hb
                  have n0_ := bxb BK245 hb
                  have n1_ := bxb BK253 hb
                  have n2_ := bxb BK261 hb
                  have n3_ := Aside0.mk (below_step (bwt HB) hb)
                  have n4_ := Aside0.mk (hbox)
                  have n5_ := Aside0.mk ((by rw [hg]; exact (below_size (bwt HB)) : w.heap.size ≤ gb262))
                  have n6_ := Aside0.mk ((by rw [hg]; exact (below_size (bwt HB)) : w.heap.size ≤ gb262))
                  have n7_ := nlt_ BK245 hg
                  have n8_ := ngt_ BK245 hg
                  have n9_ := nlt_ BK253 hg
                  have n10_ := ngt_ BK253 hg
                  have n11_ := nlt_ BK261 hg
                  have n12_ := ngt_ BK261 hg
                  clear BK245
                  clear BK253
                  clear BK261
                  clear HB
                  have BK245 := n0_
                  have BK253 := n1_
                  have BK261 := n2_
                  have HB := n3_
                  have BK262 := n4_
                  have GW262 := n5_
                  have GE262 := n6_
                  have NB245_262 := n7_
                  have NB262_245 := n8_
                  have NB253_262 := n9_
                  have NB262_253 := n10_
                  have NB261_262 := n11_
                  have NB262_261 := n12_
                  clear n0_ n1_ n2_ n3_ n4_ n5_ n6_ n7_ n8_ n9_ n10_ n11_ n12_
                  clear hb hbox hg
                  refine hK.out _ _ ⟨bc BK245 0, bc BK245 1, bc BK245 2, bc BK245 3, bc BK245 4, bc BK245 5, bc BK245 6⟩ (fun hHeld => ?_)
                  clear hK K
                  refine norm_ (a' := ?_) ?_ ?_
                  rotate_left
                  · show Act.put _ (some 4) _ = _
                    simp only [Act.put, List.setIfInBounds_toArray, List.set_cons_zero, List.set_cons_succ, i64_w, i32_w]
                    rfl
                  exact norm_ (by simp only [putAll, Act.put, List.setIfInBounds_toArray, List.set_cons_zero, List.set_cons_succ] <;> rfl) (hJ3 (gb262) _ ⟨hHeld, (bx0 BK245), (bx0 BK253), (bx0 BK261), (bx0 BK262), GW262.out, GE262.out, NB245_262.out, NB262_245.out, NB253_262.out, NB262_253.out, NB261_262.out, NB262_261.out, (by repeat (first | (with_reducible first | exact HB.out | apply below_alloc | apply pw_below_drewN | apply below_drew1 | refine below_set ?_ GE245.out | refine below_set ?_ GE253.out | refine below_set ?_ GE261.out | refine below_set ?_ GE262.out) | exact HB.out))⟩)
                · skip
                  refine box_step ?hg (N := 5) ?hd (cs := #[.int .i64 0, .int .i64 0, .int .i64 0, .int .i64 0, .int .i64 0, .int .i64 0, .bool false]) (t := 28) ?hr ?_; (case hd => rfl); (case hg => rfl); (case hr => first | (go_simp; done) | (go_simp; rfl))
                  intro gb263 hg w28 hbox hb
                  have n0_ := bxb BK245 hb
                  have n1_ := bxb BK253 hb
                  have n2_ := bxb BK261 hb
                  have n3_ := Aside0.mk (below_step (bwt HB) hb)
                  have n4_ := Aside0.mk (hbox)
                  have n5_ := Aside0.mk ((by rw [hg]; exact (below_size (bwt HB)) : w.heap.size ≤ gb263))
                  have n6_ := Aside0.mk ((by rw [hg]; exact (below_size (bwt HB)) : w.heap.size ≤ gb263))
                  have n7_ := nlt_ BK245 hg
                  have n8_ := ngt_ BK245 hg
                  have n9_ := nlt_ BK253 hg
                  have n10_ := ngt_ BK253 hg
                  have n11_ := nlt_ BK261 hg
                  have n12_ := ngt_ BK261 hg
                  clear BK245
                  clear BK253
                  clear BK261
                  clear HB
                  have BK245 := n0_
                  have BK253 := n1_
                  have BK261 := n2_
                  have HB := n3_
                  have BK263 := n4_
                  have GW263 := n5_
                  have GE263 := n6_
                  have NB245_263 := n7_
                  have NB263_245 := n8_
                  have NB253_263 := n9_
                  have NB263_253 := n10_
                  have NB261_263 := n11_
                  have NB263_261 := n12_
                  clear n0_ n1_ n2_ n3_ n4_ n5_ n6_ n7_ n8_ n9_ n10_ n11_ n12_
                  clear hb hbox hg
                  refine hK.out _ _ ⟨bc BK245 0, bc BK245 1, bc BK245 2, bc BK245 3, bc BK245 4, bc BK245 5, bc BK245 6⟩ (fun hHeld => ?_)
                  clear hK K
                  refine norm_ (a' := ?_) ?_ ?_
                  rotate_left
                  · show Act.put _ (some 5) _ = _
                    simp only [Act.put, List.setIfInBounds_toArray, List.set_cons_zero, List.set_cons_succ, i64_w, i32_w]
                    rfl
                  exact norm_ (by simp only [putAll, Act.put, List.setIfInBounds_toArray, List.set_cons_zero, List.set_cons_succ] <;> rfl) (hJ4 (gb263) _ ⟨hHeld, (bx0 BK245), (bx0 BK253), (bx0 BK261), (bx0 BK263), GW263.out, GE263.out, NB245_263.out, NB263_245.out, NB253_263.out, NB263_253.out, NB261_263.out, NB263_261.out, (by repeat (first | (with_reducible first | exact HB.out | apply below_alloc | apply pw_below_drewN | apply below_drew1 | refine below_set ?_ GE245.out | refine below_set ?_ GE253.out | refine below_set ?_ GE261.out | refine below_set ?_ GE263.out) | exact HB.out))⟩)
                · skip
                  refine box_step ?hg (N := 6) ?hd (cs := #[.int .i64 0, .int .i64 0, .int .i64 0, .int .i64 0, .int .i64 0, .int .i64 0, .bool false]) (t := 28) ?hr ?_; (case hd => rfl); (case hg => rfl); (case hr => first | (go_simp; done) | (go_simp; rfl))
                  intro gb264 hg w28 hbox hb
                  have n0_ := bxb BK245 hb
                  have n1_ := bxb BK253 hb
                  have n2_ := bxb BK261 hb
                  have n3_ := Aside0.mk (below_step (bwt HB) hb)
                  have n4_ := Aside0.mk (hbox)
                  have n5_ := Aside0.mk ((by rw [hg]; exact (below_size (bwt HB)) : w.heap.size ≤ gb264))
                  have n6_ := Aside0.mk ((by rw [hg]; exact (below_size (bwt HB)) : w.heap.size ≤ gb264))
                  have n7_ := nlt_ BK245 hg
                  have n8_ := ngt_ BK245 hg
                  have n9_ := nlt_ BK253 hg
                  have n10_ := ngt_ BK253 hg
                  have n11_ := nlt_ BK261 hg
                  have n12_ := ngt_ BK261 hg
                  clear BK245
                  clear BK253
                  clear BK261
                  clear HB
                  have BK245 := n0_
                  have BK253 := n1_
                  have BK261 := n2_
                  have HB := n3_
                  have BK264 := n4_
                  have GW264 := n5_
                  have GE264 := n6_
                  have NB245_264 := n7_
                  have NB264_245 := n8_
                  have NB253_264 := n9_
                  have NB264_253 := n10_
                  have NB261_264 := n11_
                  have NB264_261 := n12_
                  clear n0_ n1_ n2_ n3_ n4_ n5_ n6_ n7_ n8_ n9_ n10_ n11_ n12_
                  clear hb hbox hg
                  refine hK.out _ _ ⟨bc BK245 0, bc BK245 1, bc BK245 2, bc BK245 3, bc BK245 4, bc BK245 5, bc BK245 6⟩ (fun hHeld => ?_)
                  clear hK K
                  refine norm_ (a' := ?_) ?_ ?_
                  rotate_left
                  · show Act.put _ (some 6) _ = _
                    simp only [Act.put, List.setIfInBounds_toArray, List.set_cons_zero, List.set_cons_succ, i64_w, i32_w]
                    rfl
                  exact norm_ (by simp only [putAll, Act.put, List.setIfInBounds_toArray, List.set_cons_zero, List.set_cons_succ] <;> rfl) (hJ5 (gb264) _ ⟨hHeld, (bx0 BK245), (bx0 BK253), (bx0 BK261), (bx0 BK264), GW264.out, GE264.out, NB245_264.out, NB264_245.out, NB253_264.out, NB264_253.out, NB261_264.out, NB264_261.out, (by repeat (first | (with_reducible first | exact HB.out | apply below_alloc | apply pw_below_drewN | apply below_drew1 | refine below_set ?_ GE245.out | refine below_set ?_ GE253.out | refine below_set ?_ GE261.out | refine below_set ?_ GE264.out) | exact HB.out))⟩)
              · skip
                rintro gb264 w29 ⟨hS_, h0_, h1_, h2_, h3_, h4_, h5_, h6_, h7_, h8_, h9_, h10_, h11_, h12_⟩
                have n0_ : Aside0 (w29.heap[gb245]? = some (.cells #[.int .i64 1000, .int .i64 1000, .int .i64 5, .int .i64 10, .int .i64 900, .int .i64 1012, .bool false] 28 (0, 0))) := ⟨h0_⟩
                have n1_ : Aside0 (w29.heap[gb253]? = some (.cells #[.int .i64 1004, .int .i64 1005, .int .i64 5, .int .i64 10, .int .i64 900, .int .i64 1012, .bool false] 28 (0, 0))) := ⟨h1_⟩
                have n2_ : Aside0 (w29.heap[gb261]? = some (.cells #[.int .i64 1008, .int .i64 1010, .int .i64 5, .int .i64 10, .int .i64 900, .int .i64 1012, .bool true] 28 (0, 0))) := ⟨h2_⟩
                have n3_ : Aside0 (w29.heap[gb264]? = some (.cells #[.int .i64 0, .int .i64 0, .int .i64 0, .int .i64 0, .int .i64 0, .int .i64 0, .bool false] 28 (0, 0))) := ⟨h3_⟩
                have n4_ : Aside0 (w.heap.size ≤ gb264) := ⟨h4_⟩
                have n5_ : Aside0 (w.heap.size ≤ gb264) := ⟨h5_⟩
                have n6_ : Aside0 (gb245 ≠ gb264) := ⟨h6_⟩
                have n7_ : Aside0 (gb264 ≠ gb245) := ⟨h7_⟩
                have n8_ : Aside0 (gb253 ≠ gb264) := ⟨h8_⟩
                have n9_ : Aside0 (gb264 ≠ gb253) := ⟨h9_⟩
                have n10_ : Aside0 (gb261 ≠ gb264) := ⟨h10_⟩
                have n11_ : Aside0 (gb264 ≠ gb261) := ⟨h11_⟩
                have n12_ : Aside0 (Below w.heap.size w w29) := ⟨h12_⟩
                clear BK245
                clear BK253
                clear BK261
                clear HB
                clear h0_ h1_ h2_ h3_ h4_ h5_ h6_ h7_ h8_ h9_ h10_ h11_ h12_
                have BK245 := n0_
                have BK253 := n1_
                have BK261 := n2_
                have BK264 := n3_
                have GW264 := n4_
                have GE264 := n5_
                have NB245_264 := n6_
                have NB264_245 := n7_
                have NB253_264 := n8_
                have NB264_253 := n9_
                have NB261_264 := n10_
                have NB264_261 := n11_
                have HB := n12_
                clear n0_ n1_ n2_ n3_ n4_ n5_ n6_ n7_ n8_ n9_ n10_ n11_ n12_
                have hHeld : w29.cell? ⟨gb245, 0, none⟩ = some (.int .i64 1000) ∧ w29.cell? ⟨gb245, 1, none⟩ = some (.int .i64 1000) ∧ w29.cell? ⟨gb245, 2, none⟩ = some (.int .i64 5) ∧ w29.cell? ⟨gb245, 3, none⟩ = some (.int .i64 10) ∧ w29.cell? ⟨gb245, 4, none⟩ = some (.int .i64 900) ∧ w29.cell? ⟨gb245, 5, none⟩ = some (.int .i64 1012) ∧ w29.cell? ⟨gb245, 6, none⟩ = some (.bool false) := hS_
                refine norm_ (a' := ?_) ?_ ?_
                rotate_left
                · simp only [putAll, Act.put, List.setIfInBounds_toArray, List.set_cons_zero, List.set_cons_succ]
                  rfl
                refine two_ (i := 3) (j := 4) (Ni := some 4) (Nj := some 5) #[true, true, true, true, false, true, false, false, false] #[true, true, true, false, true, true, false, false, false] rfl rfl rfl rfl (two_of HT_.out (by kernel_rfl)) (by decide) (by decide) (fun K hK => ?_) (fun K hK => ?_)
                · skip
                  refine box_step ?hg (N := 4) ?hd (cs := #[.int .i64 0, .int .i64 0, .int .i64 0, .int .i64 0, .int .i64 0, .int .i64 0, .bool false]) (t := 28) ?hr ?_; (case hd => rfl); (case hg => rfl); (case hr => first | (go_simp; done) | (go_simp; rfl))
                  intro gb262 hg w30 hbox hb
                  have n0_ := bxb BK245 hb
                  have n1_ := bxb BK253 hb
                  have n2_ := bxb BK261 hb
                  have n3_ := bxb BK264 hb
                  have n4_ := Aside0.mk (below_step (bwt HB) hb)
                  have n5_ := Aside0.mk (hbox)
                  have n6_ := Aside0.mk ((by rw [hg]; exact (below_size (bwt HB)) : w.heap.size ≤ gb262))
                  have n7_ := Aside0.mk ((by rw [hg]; exact (below_size (bwt HB)) : w.heap.size ≤ gb262))
                  have n8_ := nlt_ BK245 hg
                  have n9_ := ngt_ BK245 hg
                  have n10_ := nlt_ BK253 hg
                  have n11_ := ngt_ BK253 hg
                  have n12_ := nlt_ BK261 hg
                  have n13_ := ngt_ BK261 hg
                  have n14_ := nlt_ BK264 hg
                  have n15_ := ngt_ BK264 hg
                  clear BK245
                  clear BK253
                  clear BK261
                  clear BK264
                  clear HB
                  have BK245 := n0_
                  have BK253 := n1_
                  have BK261 := n2_
                  have BK264 := n3_
                  have HB := n4_
                  have BK262 := n5_
                  have GW262 := n6_
                  have GE262 := n7_
                  have NB245_262 := n8_
                  have NB262_245 := n9_
                  have NB253_262 := n10_
                  have NB262_253 := n11_
                  have NB261_262 := n12_
                  have NB262_261 := n13_
                  have NB264_262 := n14_
                  have NB262_264 := n15_
                  clear n0_ n1_ n2_ n3_ n4_ n5_ n6_ n7_ n8_ n9_ n10_ n11_ n12_ n13_ n14_ n15_
                  clear hb hbox hg
                  refine hK.out _ _ ⟨bc BK245 0, bc BK245 1, bc BK245 2, bc BK245 3, bc BK245 4, bc BK245 5, bc BK245 6⟩ (fun hHeld => ?_)
                  clear hK K
                  refine norm_ (a' := ?_) ?_ ?_
                  rotate_left
                  · show Act.put _ (some 4) _ = _
                    simp only [Act.put, List.setIfInBounds_toArray, List.set_cons_zero, List.set_cons_succ, i64_w, i32_w]
                    rfl
                  exact norm_ (by simp only [putAll, Act.put, List.setIfInBounds_toArray, List.set_cons_zero, List.set_cons_succ] <;> rfl) (hJ3_5 (gb262, gb264) _ ⟨hHeld, (bx0 BK245), (bx0 BK253), (bx0 BK261), (bx0 BK262), (bx0 BK264), GW262.out, GE262.out, NB245_262.out, NB262_245.out, NB253_262.out, NB262_253.out, NB261_262.out, NB262_261.out, NB264_262.out, NB262_264.out, GW264.out, GE264.out, NB245_264.out, NB264_245.out, NB253_264.out, NB264_253.out, NB261_264.out, NB264_261.out, (by repeat (first | (with_reducible first | exact HB.out | apply below_alloc | apply pw_below_drewN | apply below_drew1 | refine below_set ?_ GE245.out | refine below_set ?_ GE253.out | refine below_set ?_ GE261.out | refine below_set ?_ GE264.out | refine below_set ?_ GE262.out) | exact HB.out))⟩)
                · skip
                  refine box_step ?hg (N := 5) ?hd (cs := #[.int .i64 0, .int .i64 0, .int .i64 0, .int .i64 0, .int .i64 0, .int .i64 0, .bool false]) (t := 28) ?hr ?_; (case hd => rfl); (case hg => rfl); (case hr => first | (go_simp; done) | (go_simp; rfl))
                  intro gb263 hg w30 hbox hb
                  have n0_ := bxb BK245 hb
                  have n1_ := bxb BK253 hb
                  have n2_ := bxb BK261 hb
                  have n3_ := bxb BK264 hb
                  have n4_ := Aside0.mk (below_step (bwt HB) hb)
                  have n5_ := Aside0.mk (hbox)
                  have n6_ := Aside0.mk ((by rw [hg]; exact (below_size (bwt HB)) : w.heap.size ≤ gb263))
                  have n7_ := Aside0.mk ((by rw [hg]; exact (below_size (bwt HB)) : w.heap.size ≤ gb263))
                  have n8_ := nlt_ BK245 hg
                  have n9_ := ngt_ BK245 hg
                  have n10_ := nlt_ BK253 hg
                  have n11_ := ngt_ BK253 hg
                  have n12_ := nlt_ BK261 hg
                  have n13_ := ngt_ BK261 hg
                  have n14_ := nlt_ BK264 hg
                  have n15_ := ngt_ BK264 hg
                  clear BK245
                  clear BK253
                  clear BK261
                  clear BK264
                  clear HB
                  have BK245 := n0_
                  have BK253 := n1_
                  have BK261 := n2_
                  have BK264 := n3_
                  have HB := n4_
                  have BK263 := n5_
                  have GW263 := n6_
                  have GE263 := n7_
                  have NB245_263 := n8_
                  have NB263_245 := n9_
                  have NB253_263 := n10_
                  have NB263_253 := n11_
                  have NB261_263 := n12_
                  have NB263_261 := n13_
                  have NB264_263 := n14_
                  have NB263_264 := n15_
                  clear n0_ n1_ n2_ n3_ n4_ n5_ n6_ n7_ n8_ n9_ n10_ n11_ n12_ n13_ n14_ n15_
                  clear hb hbox hg
                  refine hK.out _ _ ⟨bc BK245 0, bc BK245 1, bc BK245 2, bc BK245 3, bc BK245 4, bc BK245 5, bc BK245 6⟩ (fun hHeld => ?_)
                  clear hK K
                  refine norm_ (a' := ?_) ?_ ?_
                  rotate_left
                  · show Act.put _ (some 5) _ = _
                    simp only [Act.put, List.setIfInBounds_toArray, List.set_cons_zero, List.set_cons_succ, i64_w, i32_w]
                    rfl
                  exact norm_ (by simp only [putAll, Act.put, List.setIfInBounds_toArray, List.set_cons_zero, List.set_cons_succ] <;> rfl) (hJ4_5 (gb263, gb264) _ ⟨hHeld, (bx0 BK245), (bx0 BK253), (bx0 BK261), (bx0 BK263), (bx0 BK264), GW263.out, GE263.out, NB245_263.out, NB263_245.out, NB253_263.out, NB263_253.out, NB261_263.out, NB263_261.out, NB264_263.out, NB263_264.out, GW264.out, GE264.out, NB245_264.out, NB264_245.out, NB253_264.out, NB264_253.out, NB261_264.out, NB264_261.out, (by repeat (first | (with_reducible first | exact HB.out | apply below_alloc | apply pw_below_drewN | apply below_drew1 | refine below_set ?_ GE245.out | refine below_set ?_ GE253.out | refine below_set ?_ GE261.out | refine below_set ?_ GE264.out | refine below_set ?_ GE263.out) | exact HB.out))⟩)
            · skip
              rintro gb263 w29 ⟨hS_, h0_, h1_, h2_, h3_, h4_, h5_, h6_, h7_, h8_, h9_, h10_, h11_, h12_⟩
              have n0_ : Aside0 (w29.heap[gb245]? = some (.cells #[.int .i64 1000, .int .i64 1000, .int .i64 5, .int .i64 10, .int .i64 900, .int .i64 1012, .bool false] 28 (0, 0))) := ⟨h0_⟩
              have n1_ : Aside0 (w29.heap[gb253]? = some (.cells #[.int .i64 1004, .int .i64 1005, .int .i64 5, .int .i64 10, .int .i64 900, .int .i64 1012, .bool false] 28 (0, 0))) := ⟨h1_⟩
              have n2_ : Aside0 (w29.heap[gb261]? = some (.cells #[.int .i64 1008, .int .i64 1010, .int .i64 5, .int .i64 10, .int .i64 900, .int .i64 1012, .bool true] 28 (0, 0))) := ⟨h2_⟩
              have n3_ : Aside0 (w29.heap[gb263]? = some (.cells #[.int .i64 0, .int .i64 0, .int .i64 0, .int .i64 0, .int .i64 0, .int .i64 0, .bool false] 28 (0, 0))) := ⟨h3_⟩
              have n4_ : Aside0 (w.heap.size ≤ gb263) := ⟨h4_⟩
              have n5_ : Aside0 (w.heap.size ≤ gb263) := ⟨h5_⟩
              have n6_ : Aside0 (gb245 ≠ gb263) := ⟨h6_⟩
              have n7_ : Aside0 (gb263 ≠ gb245) := ⟨h7_⟩
              have n8_ : Aside0 (gb253 ≠ gb263) := ⟨h8_⟩
              have n9_ : Aside0 (gb263 ≠ gb253) := ⟨h9_⟩
              have n10_ : Aside0 (gb261 ≠ gb263) := ⟨h10_⟩
              have n11_ : Aside0 (gb263 ≠ gb261) := ⟨h11_⟩
              have n12_ : Aside0 (Below w.heap.size w w29) := ⟨h12_⟩
              clear BK245
              clear BK253
              clear BK261
              clear HB
              clear h0_ h1_ h2_ h3_ h4_ h5_ h6_ h7_ h8_ h9_ h10_ h11_ h12_
              have BK245 := n0_
              have BK253 := n1_
              have BK261 := n2_
              have BK263 := n3_
              have GW263 := n4_
              have GE263 := n5_
              have NB245_263 := n6_
              have NB263_245 := n7_
              have NB253_263 := n8_
              have NB263_253 := n9_
              have NB261_263 := n10_
              have NB263_261 := n11_
              have HB := n12_
              clear n0_ n1_ n2_ n3_ n4_ n5_ n6_ n7_ n8_ n9_ n10_ n11_ n12_
              have hHeld : w29.cell? ⟨gb245, 0, none⟩ = some (.int .i64 1000) ∧ w29.cell? ⟨gb245, 1, none⟩ = some (.int .i64 1000) ∧ w29.cell? ⟨gb245, 2, none⟩ = some (.int .i64 5) ∧ w29.cell? ⟨gb245, 3, none⟩ = some (.int .i64 10) ∧ w29.cell? ⟨gb245, 4, none⟩ = some (.int .i64 900) ∧ w29.cell? ⟨gb245, 5, none⟩ = some (.int .i64 1012) ∧ w29.cell? ⟨gb245, 6, none⟩ = some (.bool false) := hS_
              refine norm_ (a' := ?_) ?_ ?_
              rotate_left
              · simp only [putAll, Act.put, List.setIfInBounds_toArray, List.set_cons_zero, List.set_cons_succ]
                rfl
              refine two_ (i := 3) (j := 5) (Ni := some 4) (Nj := some 6) #[true, true, true, true, true, false, false, false, false] #[true, true, true, false, true, true, false, false, false] rfl rfl rfl rfl (two_of HT_.out (by kernel_rfl)) (by decide) (by decide) (fun K hK => ?_) (fun K hK => ?_)
              · skip
                refine box_step ?hg (N := 4) ?hd (cs := #[.int .i64 0, .int .i64 0, .int .i64 0, .int .i64 0, .int .i64 0, .int .i64 0, .bool false]) (t := 28) ?hr ?_; (case hd => rfl); (case hg => rfl); (case hr => first | (go_simp; done) | (go_simp; rfl))
                intro gb262 hg w30 hbox hb
                have n0_ := bxb BK245 hb
                have n1_ := bxb BK253 hb
                have n2_ := bxb BK261 hb
                have n3_ := bxb BK263 hb
                have n4_ := Aside0.mk (below_step (bwt HB) hb)
                have n5_ := Aside0.mk (hbox)
                have n6_ := Aside0.mk ((by rw [hg]; exact (below_size (bwt HB)) : w.heap.size ≤ gb262))
                have n7_ := Aside0.mk ((by rw [hg]; exact (below_size (bwt HB)) : w.heap.size ≤ gb262))
                have n8_ := nlt_ BK245 hg
                have n9_ := ngt_ BK245 hg
                have n10_ := nlt_ BK253 hg
                have n11_ := ngt_ BK253 hg
                have n12_ := nlt_ BK261 hg
                have n13_ := ngt_ BK261 hg
                have n14_ := nlt_ BK263 hg
                have n15_ := ngt_ BK263 hg
                clear BK245
                clear BK253
                clear BK261
                clear BK263
                clear HB
                have BK245 := n0_
                have BK253 := n1_
                have BK261 := n2_
                have BK263 := n3_
                have HB := n4_
                have BK262 := n5_
                have GW262 := n6_
                have GE262 := n7_
                have NB245_262 := n8_
                have NB262_245 := n9_
                have NB253_262 := n10_
                have NB262_253 := n11_
                have NB261_262 := n12_
                have NB262_261 := n13_
                have NB263_262 := n14_
                have NB262_263 := n15_
                clear n0_ n1_ n2_ n3_ n4_ n5_ n6_ n7_ n8_ n9_ n10_ n11_ n12_ n13_ n14_ n15_
                clear hb hbox hg
                refine hK.out _ _ ⟨bc BK245 0, bc BK245 1, bc BK245 2, bc BK245 3, bc BK245 4, bc BK245 5, bc BK245 6⟩ (fun hHeld => ?_)
                clear hK K
                refine norm_ (a' := ?_) ?_ ?_
                rotate_left
                · show Act.put _ (some 4) _ = _
                  simp only [Act.put, List.setIfInBounds_toArray, List.set_cons_zero, List.set_cons_succ, i64_w, i32_w]
                  rfl
                exact norm_ (by simp only [putAll, Act.put, List.setIfInBounds_toArray, List.set_cons_zero, List.set_cons_succ] <;> rfl) (hJ3_4 (gb262, gb263) _ ⟨hHeld, (bx0 BK245), (bx0 BK253), (bx0 BK261), (bx0 BK262), (bx0 BK263), GW262.out, GE262.out, NB245_262.out, NB262_245.out, NB253_262.out, NB262_253.out, NB261_262.out, NB262_261.out, NB263_262.out, NB262_263.out, GW263.out, GE263.out, NB245_263.out, NB263_245.out, NB253_263.out, NB263_253.out, NB261_263.out, NB263_261.out, (by repeat (first | (with_reducible first | exact HB.out | apply below_alloc | apply pw_below_drewN | apply below_drew1 | refine below_set ?_ GE245.out | refine below_set ?_ GE253.out | refine below_set ?_ GE261.out | refine below_set ?_ GE263.out | refine below_set ?_ GE262.out) | exact HB.out))⟩)
              · skip
                refine box_step ?hg (N := 6) ?hd (cs := #[.int .i64 0, .int .i64 0, .int .i64 0, .int .i64 0, .int .i64 0, .int .i64 0, .bool false]) (t := 28) ?hr ?_; (case hd => rfl); (case hg => rfl); (case hr => first | (go_simp; done) | (go_simp; rfl))
                intro gb264 hg w30 hbox hb
                have n0_ := bxb BK245 hb
                have n1_ := bxb BK253 hb
                have n2_ := bxb BK261 hb
                have n3_ := bxb BK263 hb
                have n4_ := Aside0.mk (below_step (bwt HB) hb)
                have n5_ := Aside0.mk (hbox)
                have n6_ := Aside0.mk ((by rw [hg]; exact (below_size (bwt HB)) : w.heap.size ≤ gb264))
                have n7_ := Aside0.mk ((by rw [hg]; exact (below_size (bwt HB)) : w.heap.size ≤ gb264))
                have n8_ := nlt_ BK245 hg
                have n9_ := ngt_ BK245 hg
                have n10_ := nlt_ BK253 hg
                have n11_ := ngt_ BK253 hg
                have n12_ := nlt_ BK261 hg
                have n13_ := ngt_ BK261 hg
                have n14_ := nlt_ BK263 hg
                have n15_ := ngt_ BK263 hg
                clear BK245
                clear BK253
                clear BK261
                clear BK263
                clear HB
                have BK245 := n0_
                have BK253 := n1_
                have BK261 := n2_
                have BK263 := n3_
                have HB := n4_
                have BK264 := n5_
                have GW264 := n6_
                have GE264 := n7_
                have NB245_264 := n8_
                have NB264_245 := n9_
                have NB253_264 := n10_
                have NB264_253 := n11_
                have NB261_264 := n12_
                have NB264_261 := n13_
                have NB263_264 := n14_
                have NB264_263 := n15_
                clear n0_ n1_ n2_ n3_ n4_ n5_ n6_ n7_ n8_ n9_ n10_ n11_ n12_ n13_ n14_ n15_
                clear hb hbox hg
                refine hK.out _ _ ⟨bc BK245 0, bc BK245 1, bc BK245 2, bc BK245 3, bc BK245 4, bc BK245 5, bc BK245 6⟩ (fun hHeld => ?_)
                clear hK K
                refine norm_ (a' := ?_) ?_ ?_
                rotate_left
                · show Act.put _ (some 6) _ = _
                  simp only [Act.put, List.setIfInBounds_toArray, List.set_cons_zero, List.set_cons_succ, i64_w, i32_w]
                  rfl
                exact norm_ (by simp only [putAll, Act.put, List.setIfInBounds_toArray, List.set_cons_zero, List.set_cons_succ] <;> rfl) (hJ4_5 (gb263, gb264) _ ⟨hHeld, (bx0 BK245), (bx0 BK253), (bx0 BK261), (bx0 BK263), (bx0 BK264), GW263.out, GE263.out, NB245_263.out, NB263_245.out, NB253_263.out, NB263_253.out, NB261_263.out, NB263_261.out, NB264_263.out, NB263_264.out, GW264.out, GE264.out, NB245_264.out, NB264_245.out, NB253_264.out, NB264_253.out, NB261_264.out, NB264_261.out, (by repeat (first | (with_reducible first | exact HB.out | apply below_alloc | apply pw_below_drewN | apply below_drew1 | refine below_set ?_ GE245.out | refine below_set ?_ GE253.out | refine below_set ?_ GE261.out | refine below_set ?_ GE263.out | refine below_set ?_ GE264.out) | exact HB.out))⟩)
          · skip
            rintro gb262 w29 ⟨hS_, h0_, h1_, h2_, h3_, h4_, h5_, h6_, h7_, h8_, h9_, h10_, h11_, h12_⟩
            have n0_ : Aside0 (w29.heap[gb245]? = some (.cells #[.int .i64 1000, .int .i64 1000, .int .i64 5, .int .i64 10, .int .i64 900, .int .i64 1012, .bool false] 28 (0, 0))) := ⟨h0_⟩
            have n1_ : Aside0 (w29.heap[gb253]? = some (.cells #[.int .i64 1004, .int .i64 1005, .int .i64 5, .int .i64 10, .int .i64 900, .int .i64 1012, .bool false] 28 (0, 0))) := ⟨h1_⟩
            have n2_ : Aside0 (w29.heap[gb261]? = some (.cells #[.int .i64 1008, .int .i64 1010, .int .i64 5, .int .i64 10, .int .i64 900, .int .i64 1012, .bool true] 28 (0, 0))) := ⟨h2_⟩
            have n3_ : Aside0 (w29.heap[gb262]? = some (.cells #[.int .i64 0, .int .i64 0, .int .i64 0, .int .i64 0, .int .i64 0, .int .i64 0, .bool false] 28 (0, 0))) := ⟨h3_⟩
            have n4_ : Aside0 (w.heap.size ≤ gb262) := ⟨h4_⟩
            have n5_ : Aside0 (w.heap.size ≤ gb262) := ⟨h5_⟩
            have n6_ : Aside0 (gb245 ≠ gb262) := ⟨h6_⟩
            have n7_ : Aside0 (gb262 ≠ gb245) := ⟨h7_⟩
            have n8_ : Aside0 (gb253 ≠ gb262) := ⟨h8_⟩
            have n9_ : Aside0 (gb262 ≠ gb253) := ⟨h9_⟩
            have n10_ : Aside0 (gb261 ≠ gb262) := ⟨h10_⟩
            have n11_ : Aside0 (gb262 ≠ gb261) := ⟨h11_⟩
            have n12_ : Aside0 (Below w.heap.size w w29) := ⟨h12_⟩
            clear BK245
            clear BK253
            clear BK261
            clear HB
            clear h0_ h1_ h2_ h3_ h4_ h5_ h6_ h7_ h8_ h9_ h10_ h11_ h12_
            have BK245 := n0_
            have BK253 := n1_
            have BK261 := n2_
            have BK262 := n3_
            have GW262 := n4_
            have GE262 := n5_
            have NB245_262 := n6_
            have NB262_245 := n7_
            have NB253_262 := n8_
            have NB262_253 := n9_
            have NB261_262 := n10_
            have NB262_261 := n11_
            have HB := n12_
            clear n0_ n1_ n2_ n3_ n4_ n5_ n6_ n7_ n8_ n9_ n10_ n11_ n12_
            have hHeld : w29.cell? ⟨gb245, 0, none⟩ = some (.int .i64 1000) ∧ w29.cell? ⟨gb245, 1, none⟩ = some (.int .i64 1000) ∧ w29.cell? ⟨gb245, 2, none⟩ = some (.int .i64 5) ∧ w29.cell? ⟨gb245, 3, none⟩ = some (.int .i64 10) ∧ w29.cell? ⟨gb245, 4, none⟩ = some (.int .i64 900) ∧ w29.cell? ⟨gb245, 5, none⟩ = some (.int .i64 1012) ∧ w29.cell? ⟨gb245, 6, none⟩ = some (.bool false) := hS_
            refine norm_ (a' := ?_) ?_ ?_
            rotate_left
            · simp only [putAll, Act.put, List.setIfInBounds_toArray, List.set_cons_zero, List.set_cons_succ]
              rfl
            refine two_ (i := 4) (j := 5) (Ni := some 5) (Nj := some 6) #[true, true, true, true, true, false, false, false, false] #[true, true, true, true, false, true, false, false, false] rfl rfl rfl rfl (two_of HT_.out (by kernel_rfl)) (by decide) (by decide) (fun K hK => ?_) (fun K hK => ?_)
            · skip
              refine box_step ?hg (N := 5) ?hd (cs := #[.int .i64 0, .int .i64 0, .int .i64 0, .int .i64 0, .int .i64 0, .int .i64 0, .bool false]) (t := 28) ?hr ?_; (case hd => rfl); (case hg => rfl); (case hr => first | (go_simp; done) | (go_simp; rfl))
              intro gb263 hg w30 hbox hb
              have n0_ := bxb BK245 hb
              have n1_ := bxb BK253 hb
              have n2_ := bxb BK261 hb
              have n3_ := bxb BK262 hb
              have n4_ := Aside0.mk (below_step (bwt HB) hb)
              have n5_ := Aside0.mk (hbox)
              have n6_ := Aside0.mk ((by rw [hg]; exact (below_size (bwt HB)) : w.heap.size ≤ gb263))
              have n7_ := Aside0.mk ((by rw [hg]; exact (below_size (bwt HB)) : w.heap.size ≤ gb263))
              have n8_ := nlt_ BK245 hg
              have n9_ := ngt_ BK245 hg
              have n10_ := nlt_ BK253 hg
              have n11_ := ngt_ BK253 hg
              have n12_ := nlt_ BK261 hg
              have n13_ := ngt_ BK261 hg
              have n14_ := nlt_ BK262 hg
              have n15_ := ngt_ BK262 hg
              clear BK245
              clear BK253
              clear BK261
              clear BK262
              clear HB
              have BK245 := n0_
              have BK253 := n1_
              have BK261 := n2_
              have BK262 := n3_
              have HB := n4_
              have BK263 := n5_
              have GW263 := n6_
              have GE263 := n7_
              have NB245_263 := n8_
              have NB263_245 := n9_
              have NB253_263 := n10_
              have NB263_253 := n11_
              have NB261_263 := n12_
              have NB263_261 := n13_
              have NB262_263 := n14_
              have NB263_262 := n15_
              clear n0_ n1_ n2_ n3_ n4_ n5_ n6_ n7_ n8_ n9_ n10_ n11_ n12_ n13_ n14_ n15_
              clear hb hbox hg
              refine hK.out _ _ ⟨bc BK245 0, bc BK245 1, bc BK245 2, bc BK245 3, bc BK245 4, bc BK245 5, bc BK245 6⟩ (fun hHeld => ?_)
              clear hK K
              refine norm_ (a' := ?_) ?_ ?_
              rotate_left
              · show Act.put _ (some 5) _ = _
                simp only [Act.put, List.setIfInBounds_toArray, List.set_cons_zero, List.set_cons_succ, i64_w, i32_w]
                rfl
              exact norm_ (by simp only [putAll, Act.put, List.setIfInBounds_toArray, List.set_cons_zero, List.set_cons_succ] <;> rfl) (hJ3_4 (gb262, gb263) _ ⟨hHeld, (bx0 BK245), (bx0 BK253), (bx0 BK261), (bx0 BK262), (bx0 BK263), GW262.out, GE262.out, NB245_262.out, NB262_245.out, NB253_262.out, NB262_253.out, NB261_262.out, NB262_261.out, NB263_262.out, NB262_263.out, GW263.out, GE263.out, NB245_263.out, NB263_245.out, NB253_263.out, NB263_253.out, NB261_263.out, NB263_261.out, (by repeat (first | (with_reducible first | exact HB.out | apply below_alloc | apply pw_below_drewN | apply below_drew1 | refine below_set ?_ GE245.out | refine below_set ?_ GE253.out | refine below_set ?_ GE261.out | refine below_set ?_ GE262.out | refine below_set ?_ GE263.out) | exact HB.out))⟩)
            · skip
              refine box_step ?hg (N := 6) ?hd (cs := #[.int .i64 0, .int .i64 0, .int .i64 0, .int .i64 0, .int .i64 0, .int .i64 0, .bool false]) (t := 28) ?hr ?_; (case hd => rfl); (case hg => rfl); (case hr => first | (go_simp; done) | (go_simp; rfl))
              intro gb264 hg w30 hbox hb
              have n0_ := bxb BK245 hb
              have n1_ := bxb BK253 hb
              have n2_ := bxb BK261 hb
              have n3_ := bxb BK262 hb
              have n4_ := Aside0.mk (below_step (bwt HB) hb)
              have n5_ := Aside0.mk (hbox)
              have n6_ := Aside0.mk ((by rw [hg]; exact (below_size (bwt HB)) : w.heap.size ≤ gb264))
              have n7_ := Aside0.mk ((by rw [hg]; exact (below_size (bwt HB)) : w.heap.size ≤ gb264))
              have n8_ := nlt_ BK245 hg
              have n9_ := ngt_ BK245 hg
              have n10_ := nlt_ BK253 hg
              have n11_ := ngt_ BK253 hg
              have n12_ := nlt_ BK261 hg
              have n13_ := ngt_ BK261 hg
              have n14_ := nlt_ BK262 hg
              have n15_ := ngt_ BK262 hg
              clear BK245
              clear BK253
              clear BK261
              clear BK262
              clear HB
              have BK245 := n0_
              have BK253 := n1_
              have BK261 := n2_
              have BK262 := n3_
              have HB := n4_
              have BK264 := n5_
              have GW264 := n6_
              have GE264 := n7_
              have NB245_264 := n8_
              have NB264_245 := n9_
              have NB253_264 := n10_
              have NB264_253 := n11_
              have NB261_264 := n12_
              have NB264_261 := n13_
              have NB262_264 := n14_
              have NB264_262 := n15_
              clear n0_ n1_ n2_ n3_ n4_ n5_ n6_ n7_ n8_ n9_ n10_ n11_ n12_ n13_ n14_ n15_
              clear hb hbox hg
              refine hK.out _ _ ⟨bc BK245 0, bc BK245 1, bc BK245 2, bc BK245 3, bc BK245 4, bc BK245 5, bc BK245 6⟩ (fun hHeld => ?_)
              clear hK K
              refine norm_ (a' := ?_) ?_ ?_
              rotate_left
              · show Act.put _ (some 6) _ = _
                simp only [Act.put, List.setIfInBounds_toArray, List.set_cons_zero, List.set_cons_succ, i64_w, i32_w]
                rfl
              exact norm_ (by simp only [putAll, Act.put, List.setIfInBounds_toArray, List.set_cons_zero, List.set_cons_succ] <;> rfl) (hJ3_5 (gb262, gb264) _ ⟨hHeld, (bx0 BK245), (bx0 BK253), (bx0 BK261), (bx0 BK262), (bx0 BK264), GW262.out, GE262.out, NB245_262.out, NB262_245.out, NB253_262.out, NB262_253.out, NB261_262.out, NB262_261.out, NB264_262.out, NB262_264.out, GW264.out, GE264.out, NB245_264.out, NB264_245.out, NB253_264.out, NB264_253.out, NB261_264.out, NB264_261.out, (by repeat (first | (with_reducible first | exact HB.out | apply below_alloc | apply pw_below_drewN | apply below_drew1 | refine below_set ?_ GE245.out | refine below_set ?_ GE253.out | refine below_set ?_ GE261.out | refine below_set ?_ GE262.out | refine below_set ?_ GE264.out) | exact HB.out))⟩)
        · skip
          rintro ⟨gb263, gb264⟩ w30 ⟨hS_, h0_, h1_, h2_, h3_, h4_, h5_, h6_, h7_, h8_, h9_, h10_, h11_, h12_, h13_, h14_, h15_, h16_, h17_, h18_, h19_, h20_, h21_, h22_, h23_⟩
          have n0_ : Aside0 (w30.heap[gb245]? = some (.cells #[.int .i64 1000, .int .i64 1000, .int .i64 5, .int .i64 10, .int .i64 900, .int .i64 1012, .bool false] 28 (0, 0))) := ⟨h0_⟩
          have n1_ : Aside0 (w30.heap[gb253]? = some (.cells #[.int .i64 1004, .int .i64 1005, .int .i64 5, .int .i64 10, .int .i64 900, .int .i64 1012, .bool false] 28 (0, 0))) := ⟨h1_⟩
          have n2_ : Aside0 (w30.heap[gb261]? = some (.cells #[.int .i64 1008, .int .i64 1010, .int .i64 5, .int .i64 10, .int .i64 900, .int .i64 1012, .bool true] 28 (0, 0))) := ⟨h2_⟩
          have n3_ : Aside0 (w30.heap[gb263]? = some (.cells #[.int .i64 0, .int .i64 0, .int .i64 0, .int .i64 0, .int .i64 0, .int .i64 0, .bool false] 28 (0, 0))) := ⟨h3_⟩
          have n4_ : Aside0 (w30.heap[gb264]? = some (.cells #[.int .i64 0, .int .i64 0, .int .i64 0, .int .i64 0, .int .i64 0, .int .i64 0, .bool false] 28 (0, 0))) := ⟨h4_⟩
          have n5_ : Aside0 (w.heap.size ≤ gb263) := ⟨h5_⟩
          have n6_ : Aside0 (w.heap.size ≤ gb263) := ⟨h6_⟩
          have n7_ : Aside0 (gb245 ≠ gb263) := ⟨h7_⟩
          have n8_ : Aside0 (gb263 ≠ gb245) := ⟨h8_⟩
          have n9_ : Aside0 (gb253 ≠ gb263) := ⟨h9_⟩
          have n10_ : Aside0 (gb263 ≠ gb253) := ⟨h10_⟩
          have n11_ : Aside0 (gb261 ≠ gb263) := ⟨h11_⟩
          have n12_ : Aside0 (gb263 ≠ gb261) := ⟨h12_⟩
          have n13_ : Aside0 (gb264 ≠ gb263) := ⟨h13_⟩
          have n14_ : Aside0 (gb263 ≠ gb264) := ⟨h14_⟩
          have n15_ : Aside0 (w.heap.size ≤ gb264) := ⟨h15_⟩
          have n16_ : Aside0 (w.heap.size ≤ gb264) := ⟨h16_⟩
          have n17_ : Aside0 (gb245 ≠ gb264) := ⟨h17_⟩
          have n18_ : Aside0 (gb264 ≠ gb245) := ⟨h18_⟩
          have n19_ : Aside0 (gb253 ≠ gb264) := ⟨h19_⟩
          have n20_ : Aside0 (gb264 ≠ gb253) := ⟨h20_⟩
          have n21_ : Aside0 (gb261 ≠ gb264) := ⟨h21_⟩
          have n22_ : Aside0 (gb264 ≠ gb261) := ⟨h22_⟩
          have n23_ : Aside0 (Below w.heap.size w w30) := ⟨h23_⟩
          clear BK245
          clear BK253
          clear BK261
          clear HB
          clear h0_ h1_ h2_ h3_ h4_ h5_ h6_ h7_ h8_ h9_ h10_ h11_ h12_ h13_ h14_ h15_ h16_ h17_ h18_ h19_ h20_ h21_ h22_ h23_
          have BK245 := n0_
          have BK253 := n1_
          have BK261 := n2_
          have BK263 := n3_
          have BK264 := n4_
          have GW263 := n5_
          have GE263 := n6_
          have NB245_263 := n7_
          have NB263_245 := n8_
          have NB253_263 := n9_
          have NB263_253 := n10_
          have NB261_263 := n11_
          have NB263_261 := n12_
          have NB264_263 := n13_
          have NB263_264 := n14_
          have GW264 := n15_
          have GE264 := n16_
          have NB245_264 := n17_
          have NB264_245 := n18_
          have NB253_264 := n19_
          have NB264_253 := n20_
          have NB261_264 := n21_
          have NB264_261 := n22_
          have HB := n23_
          clear n0_ n1_ n2_ n3_ n4_ n5_ n6_ n7_ n8_ n9_ n10_ n11_ n12_ n13_ n14_ n15_ n16_ n17_ n18_ n19_ n20_ n21_ n22_ n23_
          have hHeld : w30.cell? ⟨gb245, 0, none⟩ = some (.int .i64 1000) ∧ w30.cell? ⟨gb245, 1, none⟩ = some (.int .i64 1000) ∧ w30.cell? ⟨gb245, 2, none⟩ = some (.int .i64 5) ∧ w30.cell? ⟨gb245, 3, none⟩ = some (.int .i64 10) ∧ w30.cell? ⟨gb245, 4, none⟩ = some (.int .i64 900) ∧ w30.cell? ⟨gb245, 5, none⟩ = some (.int .i64 1012) ∧ w30.cell? ⟨gb245, 6, none⟩ = some (.bool false) := hS_
          refine norm_ (a' := ?_) ?_ ?_
          rotate_left
          · simp only [putAll, Act.put, List.setIfInBounds_toArray, List.set_cons_zero, List.set_cons_succ]
            rfl
          refine one_ (i := 3) (N := some 4) #[true, true, true, true, true, true, false, false, false] rfl rfl (one_of HT_.out (by kernel_rfl)) (by decide) (fun K hK => ?_)
          refine box_step ?hg (N := 4) ?hd (cs := #[.int .i64 0, .int .i64 0, .int .i64 0, .int .i64 0, .int .i64 0, .int .i64 0, .bool false]) (t := 28) ?hr ?_; (case hd => rfl); (case hg => rfl); (case hr => first | (go_simp; done) | (go_simp; rfl))
          intro gb262 hg w31 hbox hb
          have n0_ := bxb BK245 hb
          have n1_ := bxb BK253 hb
          have n2_ := bxb BK261 hb
          have n3_ := bxb BK263 hb
          have n4_ := bxb BK264 hb
          have n5_ := Aside0.mk (below_step (bwt HB) hb)
          have n6_ := Aside0.mk (hbox)
          have n7_ := Aside0.mk ((by rw [hg]; exact (below_size (bwt HB)) : w.heap.size ≤ gb262))
          have n8_ := Aside0.mk ((by rw [hg]; exact (below_size (bwt HB)) : w.heap.size ≤ gb262))
          have n9_ := nlt_ BK245 hg
          have n10_ := ngt_ BK245 hg
          have n11_ := nlt_ BK253 hg
          have n12_ := ngt_ BK253 hg
          have n13_ := nlt_ BK261 hg
          have n14_ := ngt_ BK261 hg
          have n15_ := nlt_ BK263 hg
          have n16_ := ngt_ BK263 hg
          have n17_ := nlt_ BK264 hg
          have n18_ := ngt_ BK264 hg
          clear BK245
          clear BK253
          clear BK261
          clear BK263
          clear BK264
          clear HB
          have BK245 := n0_
          have BK253 := n1_
          have BK261 := n2_
          have BK263 := n3_
          have BK264 := n4_
          have HB := n5_
          have BK262 := n6_
          have GW262 := n7_
          have GE262 := n8_
          have NB245_262 := n9_
          have NB262_245 := n10_
          have NB253_262 := n11_
          have NB262_253 := n12_
          have NB261_262 := n13_
          have NB262_261 := n14_
          have NB263_262 := n15_
          have NB262_263 := n16_
          have NB264_262 := n17_
          have NB262_264 := n18_
          clear n0_ n1_ n2_ n3_ n4_ n5_ n6_ n7_ n8_ n9_ n10_ n11_ n12_ n13_ n14_ n15_ n16_ n17_ n18_
          clear hb hbox hg
          refine hK.out _ _ ⟨bc BK245 0, bc BK245 1, bc BK245 2, bc BK245 3, bc BK245 4, bc BK245 5, bc BK245 6⟩ (fun hHeld => ?_)
          clear hK K
          refine norm_ (a' := ?_) ?_ ?_
          rotate_left
          · show Act.put _ (some 4) _ = _
            simp only [Act.put, List.setIfInBounds_toArray, List.set_cons_zero, List.set_cons_succ, i64_w, i32_w]
            rfl
          exact norm_ (by simp only [putAll, Act.put, List.setIfInBounds_toArray, List.set_cons_zero, List.set_cons_succ] <;> rfl) (hJ3_4_5 (gb262, gb263, gb264) _ ⟨hHeld, (bx0 BK245), (bx0 BK253), (bx0 BK261), (bx0 BK262), (bx0 BK263), (bx0 BK264), GW262.out, GE262.out, NB245_262.out, NB262_245.out, NB253_262.out, NB262_253.out, NB261_262.out, NB262_261.out, NB263_262.out, NB262_263.out, NB264_262.out, NB262_264.out, GW263.out, GE263.out, NB245_263.out, NB263_245.out, NB253_263.out, NB263_253.out, NB261_263.out, NB263_261.out, NB264_263.out, NB263_264.out, GW264.out, GE264.out, NB245_264.out, NB264_245.out, NB253_264.out, NB264_253.out, NB261_264.out, NB264_261.out, (by repeat (first | (with_reducible first | exact HB.out | apply below_alloc | apply pw_below_drewN | apply below_drew1 | refine below_set ?_ GE245.out | refine below_set ?_ GE253.out | refine below_set ?_ GE261.out | refine below_set ?_ GE263.out | refine below_set ?_ GE264.out | refine below_set ?_ GE262.out) | exact HB.out))⟩)
      · skip
        rintro ⟨gb262, gb264⟩ w30 ⟨hS_, h0_, h1_, h2_, h3_, h4_, h5_, h6_, h7_, h8_, h9_, h10_, h11_, h12_, h13_, h14_, h15_, h16_, h17_, h18_, h19_, h20_, h21_, h22_, h23_⟩
        have n0_ : Aside0 (w30.heap[gb245]? = some (.cells #[.int .i64 1000, .int .i64 1000, .int .i64 5, .int .i64 10, .int .i64 900, .int .i64 1012, .bool false] 28 (0, 0))) := ⟨h0_⟩
        have n1_ : Aside0 (w30.heap[gb253]? = some (.cells #[.int .i64 1004, .int .i64 1005, .int .i64 5, .int .i64 10, .int .i64 900, .int .i64 1012, .bool false] 28 (0, 0))) := ⟨h1_⟩
        have n2_ : Aside0 (w30.heap[gb261]? = some (.cells #[.int .i64 1008, .int .i64 1010, .int .i64 5, .int .i64 10, .int .i64 900, .int .i64 1012, .bool true] 28 (0, 0))) := ⟨h2_⟩
        have n3_ : Aside0 (w30.heap[gb262]? = some (.cells #[.int .i64 0, .int .i64 0, .int .i64 0, .int .i64 0, .int .i64 0, .int .i64 0, .bool false] 28 (0, 0))) := ⟨h3_⟩
        have n4_ : Aside0 (w30.heap[gb264]? = some (.cells #[.int .i64 0, .int .i64 0, .int .i64 0, .int .i64 0, .int .i64 0, .int .i64 0, .bool false] 28 (0, 0))) := ⟨h4_⟩
        have n5_ : Aside0 (w.heap.size ≤ gb262) := ⟨h5_⟩
        have n6_ : Aside0 (w.heap.size ≤ gb262) := ⟨h6_⟩
        have n7_ : Aside0 (gb245 ≠ gb262) := ⟨h7_⟩
        have n8_ : Aside0 (gb262 ≠ gb245) := ⟨h8_⟩
        have n9_ : Aside0 (gb253 ≠ gb262) := ⟨h9_⟩
        have n10_ : Aside0 (gb262 ≠ gb253) := ⟨h10_⟩
        have n11_ : Aside0 (gb261 ≠ gb262) := ⟨h11_⟩
        have n12_ : Aside0 (gb262 ≠ gb261) := ⟨h12_⟩
        have n13_ : Aside0 (gb264 ≠ gb262) := ⟨h13_⟩
        have n14_ : Aside0 (gb262 ≠ gb264) := ⟨h14_⟩
        have n15_ : Aside0 (w.heap.size ≤ gb264) := ⟨h15_⟩
        have n16_ : Aside0 (w.heap.size ≤ gb264) := ⟨h16_⟩
        have n17_ : Aside0 (gb245 ≠ gb264) := ⟨h17_⟩
        have n18_ : Aside0 (gb264 ≠ gb245) := ⟨h18_⟩
        have n19_ : Aside0 (gb253 ≠ gb264) := ⟨h19_⟩
        have n20_ : Aside0 (gb264 ≠ gb253) := ⟨h20_⟩
        have n21_ : Aside0 (gb261 ≠ gb264) := ⟨h21_⟩
        have n22_ : Aside0 (gb264 ≠ gb261) := ⟨h22_⟩
        have n23_ : Aside0 (Below w.heap.size w w30) := ⟨h23_⟩
        clear BK245
        clear BK253
        clear BK261
        clear HB
        clear h0_ h1_ h2_ h3_ h4_ h5_ h6_ h7_ h8_ h9_ h10_ h11_ h12_ h13_ h14_ h15_ h16_ h17_ h18_ h19_ h20_ h21_ h22_ h23_
        have BK245 := n0_
        have BK253 := n1_
        have BK261 := n2_
        have BK262 := n3_
        have BK264 := n4_
        have GW262 := n5_
        have GE262 := n6_
        have NB245_262 := n7_
        have NB262_245 := n8_
        have NB253_262 := n9_
        have NB262_253 := n10_
        have NB261_262 := n11_
        have NB262_261 := n12_
        have NB264_262 := n13_
        have NB262_264 := n14_
        have GW264 := n15_
        have GE264 := n16_
        have NB245_264 := n17_
        have NB264_245 := n18_
        have NB253_264 := n19_
        have NB264_253 := n20_
        have NB261_264 := n21_
        have NB264_261 := n22_
        have HB := n23_
        clear n0_ n1_ n2_ n3_ n4_ n5_ n6_ n7_ n8_ n9_ n10_ n11_ n12_ n13_ n14_ n15_ n16_ n17_ n18_ n19_ n20_ n21_ n22_ n23_
        have hHeld : w30.cell? ⟨gb245, 0, none⟩ = some (.int .i64 1000) ∧ w30.cell? ⟨gb245, 1, none⟩ = some (.int .i64 1000) ∧ w30.cell? ⟨gb245, 2, none⟩ = some (.int .i64 5) ∧ w30.cell? ⟨gb245, 3, none⟩ = some (.int .i64 10) ∧ w30.cell? ⟨gb245, 4, none⟩ = some (.int .i64 900) ∧ w30.cell? ⟨gb245, 5, none⟩ = some (.int .i64 1012) ∧ w30.cell? ⟨gb245, 6, none⟩ = some (.bool false) := hS_
        refine norm_ (a' := ?_) ?_ ?_
        rotate_left
        · simp only [putAll, Act.put, List.setIfInBounds_toArray, List.set_cons_zero, List.set_cons_succ]
          rfl
        refine one_ (i := 4) (N := some 5) #[true, true, true, true, true, true, false, false, false] rfl rfl (one_of HT_.out (by kernel_rfl)) (by decide) (fun K hK => ?_)
        refine box_step ?hg (N := 5) ?hd (cs := #[.int .i64 0, .int .i64 0, .int .i64 0, .int .i64 0, .int .i64 0, .int .i64 0, .bool false]) (t := 28) ?hr ?_; (case hd => rfl); (case hg => rfl); (case hr => first | (go_simp; done) | (go_simp; rfl))
        intro gb263 hg w31 hbox hb
        have n0_ := bxb BK245 hb
        have n1_ := bxb BK253 hb
        have n2_ := bxb BK261 hb
        have n3_ := bxb BK262 hb
        have n4_ := bxb BK264 hb
        have n5_ := Aside0.mk (below_step (bwt HB) hb)
        have n6_ := Aside0.mk (hbox)
        have n7_ := Aside0.mk ((by rw [hg]; exact (below_size (bwt HB)) : w.heap.size ≤ gb263))
        have n8_ := Aside0.mk ((by rw [hg]; exact (below_size (bwt HB)) : w.heap.size ≤ gb263))
        have n9_ := nlt_ BK245 hg
        have n10_ := ngt_ BK245 hg
        have n11_ := nlt_ BK253 hg
        have n12_ := ngt_ BK253 hg
        have n13_ := nlt_ BK261 hg
        have n14_ := ngt_ BK261 hg
        have n15_ := nlt_ BK262 hg
        have n16_ := ngt_ BK262 hg
        have n17_ := nlt_ BK264 hg
        have n18_ := ngt_ BK264 hg
        clear BK245
        clear BK253
        clear BK261
        clear BK262
        clear BK264
        clear HB
        have BK245 := n0_
        have BK253 := n1_
        have BK261 := n2_
        have BK262 := n3_
        have BK264 := n4_
        have HB := n5_
        have BK263 := n6_
        have GW263 := n7_
        have GE263 := n8_
        have NB245_263 := n9_
        have NB263_245 := n10_
        have NB253_263 := n11_
        have NB263_253 := n12_
        have NB261_263 := n13_
        have NB263_261 := n14_
        have NB262_263 := n15_
        have NB263_262 := n16_
        have NB264_263 := n17_
        have NB263_264 := n18_
        clear n0_ n1_ n2_ n3_ n4_ n5_ n6_ n7_ n8_ n9_ n10_ n11_ n12_ n13_ n14_ n15_ n16_ n17_ n18_
        clear hb hbox hg
        refine hK.out _ _ ⟨bc BK245 0, bc BK245 1, bc BK245 2, bc BK245 3, bc BK245 4, bc BK245 5, bc BK245 6⟩ (fun hHeld => ?_)
        clear hK K
        refine norm_ (a' := ?_) ?_ ?_
        rotate_left
        · show Act.put _ (some 5) _ = _
          simp only [Act.put, List.setIfInBounds_toArray, List.set_cons_zero, List.set_cons_succ, i64_w, i32_w]
          rfl
        exact norm_ (by simp only [putAll, Act.put, List.setIfInBounds_toArray, List.set_cons_zero, List.set_cons_succ] <;> rfl) (hJ3_4_5 (gb262, gb263, gb264) _ ⟨hHeld, (bx0 BK245), (bx0 BK253), (bx0 BK261), (bx0 BK262), (bx0 BK263), (bx0 BK264), GW262.out, GE262.out, NB245_262.out, NB262_245.out, NB253_262.out, NB262_253.out, NB261_262.out, NB262_261.out, NB263_262.out, NB262_263.out, NB264_262.out, NB262_264.out, GW263.out, GE263.out, NB245_263.out, NB263_245.out, NB253_263.out, NB263_253.out, NB261_263.out, NB263_261.out, NB264_263.out, NB263_264.out, GW264.out, GE264.out, NB245_264.out, NB264_245.out, NB253_264.out, NB264_253.out, NB261_264.out, NB264_261.out, (by repeat (first | (with_reducible first | exact HB.out | apply below_alloc | apply pw_below_drewN | apply below_drew1 | refine below_set ?_ GE245.out | refine below_set ?_ GE253.out | refine below_set ?_ GE261.out | refine below_set ?_ GE262.out | refine below_set ?_ GE264.out | refine below_set ?_ GE263.out) | exact HB.out))⟩)
    · skip
      rintro ⟨gb262, gb263⟩ w30 ⟨hS_, h0_, h1_, h2_, h3_, h4_, h5_, h6_, h7_, h8_, h9_, h10_, h11_, h12_, h13_, h14_, h15_, h16_, h17_, h18_, h19_, h20_, h21_, h22_, h23_⟩
      have n0_ : Aside0 (w30.heap[gb245]? = some (.cells #[.int .i64 1000, .int .i64 1000, .int .i64 5, .int .i64 10, .int .i64 900, .int .i64 1012, .bool false] 28 (0, 0))) := ⟨h0_⟩
      have n1_ : Aside0 (w30.heap[gb253]? = some (.cells #[.int .i64 1004, .int .i64 1005, .int .i64 5, .int .i64 10, .int .i64 900, .int .i64 1012, .bool false] 28 (0, 0))) := ⟨h1_⟩
      have n2_ : Aside0 (w30.heap[gb261]? = some (.cells #[.int .i64 1008, .int .i64 1010, .int .i64 5, .int .i64 10, .int .i64 900, .int .i64 1012, .bool true] 28 (0, 0))) := ⟨h2_⟩
      have n3_ : Aside0 (w30.heap[gb262]? = some (.cells #[.int .i64 0, .int .i64 0, .int .i64 0, .int .i64 0, .int .i64 0, .int .i64 0, .bool false] 28 (0, 0))) := ⟨h3_⟩
      have n4_ : Aside0 (w30.heap[gb263]? = some (.cells #[.int .i64 0, .int .i64 0, .int .i64 0, .int .i64 0, .int .i64 0, .int .i64 0, .bool false] 28 (0, 0))) := ⟨h4_⟩
      have n5_ : Aside0 (w.heap.size ≤ gb262) := ⟨h5_⟩
      have n6_ : Aside0 (w.heap.size ≤ gb262) := ⟨h6_⟩
      have n7_ : Aside0 (gb245 ≠ gb262) := ⟨h7_⟩
      have n8_ : Aside0 (gb262 ≠ gb245) := ⟨h8_⟩
      have n9_ : Aside0 (gb253 ≠ gb262) := ⟨h9_⟩
      have n10_ : Aside0 (gb262 ≠ gb253) := ⟨h10_⟩
      have n11_ : Aside0 (gb261 ≠ gb262) := ⟨h11_⟩
      have n12_ : Aside0 (gb262 ≠ gb261) := ⟨h12_⟩
      have n13_ : Aside0 (gb263 ≠ gb262) := ⟨h13_⟩
      have n14_ : Aside0 (gb262 ≠ gb263) := ⟨h14_⟩
      have n15_ : Aside0 (w.heap.size ≤ gb263) := ⟨h15_⟩
      have n16_ : Aside0 (w.heap.size ≤ gb263) := ⟨h16_⟩
      have n17_ : Aside0 (gb245 ≠ gb263) := ⟨h17_⟩
      have n18_ : Aside0 (gb263 ≠ gb245) := ⟨h18_⟩
      have n19_ : Aside0 (gb253 ≠ gb263) := ⟨h19_⟩
      have n20_ : Aside0 (gb263 ≠ gb253) := ⟨h20_⟩
      have n21_ : Aside0 (gb261 ≠ gb263) := ⟨h21_⟩
      have n22_ : Aside0 (gb263 ≠ gb261) := ⟨h22_⟩
      have n23_ : Aside0 (Below w.heap.size w w30) := ⟨h23_⟩
      clear BK245
      clear BK253
      clear BK261
      clear HB
      clear h0_ h1_ h2_ h3_ h4_ h5_ h6_ h7_ h8_ h9_ h10_ h11_ h12_ h13_ h14_ h15_ h16_ h17_ h18_ h19_ h20_ h21_ h22_ h23_
      have BK245 := n0_
      have BK253 := n1_
      have BK261 := n2_
      have BK262 := n3_
      have BK263 := n4_
      have GW262 := n5_
      have GE262 := n6_
      have NB245_262 := n7_
      have NB262_245 := n8_
      have NB253_262 := n9_
      have NB262_253 := n10_
      have NB261_262 := n11_
      have NB262_261 := n12_
      have NB263_262 := n13_
      have NB262_263 := n14_
      have GW263 := n15_
      have GE263 := n16_
      have NB245_263 := n17_
      have NB263_245 := n18_
      have NB253_263 := n19_
      have NB263_253 := n20_
      have NB261_263 := n21_
      have NB263_261 := n22_
      have HB := n23_
      clear n0_ n1_ n2_ n3_ n4_ n5_ n6_ n7_ n8_ n9_ n10_ n11_ n12_ n13_ n14_ n15_ n16_ n17_ n18_ n19_ n20_ n21_ n22_ n23_
      have hHeld : w30.cell? ⟨gb245, 0, none⟩ = some (.int .i64 1000) ∧ w30.cell? ⟨gb245, 1, none⟩ = some (.int .i64 1000) ∧ w30.cell? ⟨gb245, 2, none⟩ = some (.int .i64 5) ∧ w30.cell? ⟨gb245, 3, none⟩ = some (.int .i64 10) ∧ w30.cell? ⟨gb245, 4, none⟩ = some (.int .i64 900) ∧ w30.cell? ⟨gb245, 5, none⟩ = some (.int .i64 1012) ∧ w30.cell? ⟨gb245, 6, none⟩ = some (.bool false) := hS_
      refine norm_ (a' := ?_) ?_ ?_
      rotate_left
      · simp only [putAll, Act.put, List.setIfInBounds_toArray, List.set_cons_zero, List.set_cons_succ]
        rfl
      refine one_ (i := 5) (N := some 6) #[true, true, true, true, true, true, false, false, false] rfl rfl (one_of HT_.out (by kernel_rfl)) (by decide) (fun K hK => ?_)
      refine box_step ?hg (N := 6) ?hd (cs := #[.int .i64 0, .int .i64 0, .int .i64 0, .int .i64 0, .int .i64 0, .int .i64 0, .bool false]) (t := 28) ?hr ?_; (case hd => rfl); (case hg => rfl); (case hr => first | (go_simp; done) | (go_simp; rfl))
      intro gb264 hg w31 hbox hb
      have n0_ := bxb BK245 hb
      have n1_ := bxb BK253 hb
      have n2_ := bxb BK261 hb
      have n3_ := bxb BK262 hb
      have n4_ := bxb BK263 hb
      have n5_ := Aside0.mk (below_step (bwt HB) hb)
      have n6_ := Aside0.mk (hbox)
      have n7_ := Aside0.mk ((by rw [hg]; exact (below_size (bwt HB)) : w.heap.size ≤ gb264))
      have n8_ := Aside0.mk ((by rw [hg]; exact (below_size (bwt HB)) : w.heap.size ≤ gb264))
      have n9_ := nlt_ BK245 hg
      have n10_ := ngt_ BK245 hg
      have n11_ := nlt_ BK253 hg
      have n12_ := ngt_ BK253 hg
      have n13_ := nlt_ BK261 hg
      have n14_ := ngt_ BK261 hg
      have n15_ := nlt_ BK262 hg
      have n16_ := ngt_ BK262 hg
      have n17_ := nlt_ BK263 hg
      have n18_ := ngt_ BK263 hg
      clear BK245
      clear BK253
      clear BK261
      clear BK262
      clear BK263
      clear HB
      have BK245 := n0_
      have BK253 := n1_
      have BK261 := n2_
      have BK262 := n3_
      have BK263 := n4_
      have HB := n5_
      have BK264 := n6_
      have GW264 := n7_
      have GE264 := n8_
      have NB245_264 := n9_
      have NB264_245 := n10_
      have NB253_264 := n11_
      have NB264_253 := n12_
      have NB261_264 := n13_
      have NB264_261 := n14_
      have NB262_264 := n15_
      have NB264_262 := n16_
      have NB263_264 := n17_
      have NB264_263 := n18_
      clear n0_ n1_ n2_ n3_ n4_ n5_ n6_ n7_ n8_ n9_ n10_ n11_ n12_ n13_ n14_ n15_ n16_ n17_ n18_
      clear hb hbox hg
      refine hK.out _ _ ⟨bc BK245 0, bc BK245 1, bc BK245 2, bc BK245 3, bc BK245 4, bc BK245 5, bc BK245 6⟩ (fun hHeld => ?_)
      clear hK K
      refine norm_ (a' := ?_) ?_ ?_
      rotate_left
      · show Act.put _ (some 6) _ = _
        simp only [Act.put, List.setIfInBounds_toArray, List.set_cons_zero, List.set_cons_succ, i64_w, i32_w]
        rfl
      exact norm_ (by simp only [putAll, Act.put, List.setIfInBounds_toArray, List.set_cons_zero, List.set_cons_succ] <;> rfl) (hJ3_4_5 (gb262, gb263, gb264) _ ⟨hHeld, (bx0 BK245), (bx0 BK253), (bx0 BK261), (bx0 BK262), (bx0 BK263), (bx0 BK264), GW262.out, GE262.out, NB245_262.out, NB262_245.out, NB253_262.out, NB262_253.out, NB261_262.out, NB262_261.out, NB263_262.out, NB262_263.out, NB264_262.out, NB262_264.out, GW263.out, GE263.out, NB245_263.out, NB263_245.out, NB253_263.out, NB263_253.out, NB261_263.out, NB263_261.out, NB264_263.out, NB263_264.out, GW264.out, GE264.out, NB245_264.out, NB264_245.out, NB253_264.out, NB264_253.out, NB261_264.out, NB264_261.out, (by repeat (first | (with_reducible first | exact HB.out | apply below_alloc | apply pw_below_drewN | apply below_drew1 | refine below_set ?_ GE245.out | refine below_set ?_ GE253.out | refine below_set ?_ GE261.out | refine below_set ?_ GE262.out | refine below_set ?_ GE263.out | refine below_set ?_ GE264.out) | exact HB.out))⟩)
  rintro ⟨gb262, gb263, gb264⟩ w31 ⟨hS_, h0_, h1_, h2_, h3_, h4_, h5_, h6_, h7_, h8_, h9_, h10_, h11_, h12_, h13_, h14_, h15_, h16_, h17_, h18_, h19_, h20_, h21_, h22_, h23_, h24_, h25_, h26_, h27_, h28_, h29_, h30_, h31_, h32_, h33_, h34_, h35_, h36_⟩
  have n0_ : Aside0 (w31.heap[gb245]? = some (.cells #[.int .i64 1000, .int .i64 1000, .int .i64 5, .int .i64 10, .int .i64 900, .int .i64 1012, .bool false] 28 (0, 0))) := ⟨h0_⟩
  have n1_ : Aside0 (w31.heap[gb253]? = some (.cells #[.int .i64 1004, .int .i64 1005, .int .i64 5, .int .i64 10, .int .i64 900, .int .i64 1012, .bool false] 28 (0, 0))) := ⟨h1_⟩
  have n2_ : Aside0 (w31.heap[gb261]? = some (.cells #[.int .i64 1008, .int .i64 1010, .int .i64 5, .int .i64 10, .int .i64 900, .int .i64 1012, .bool true] 28 (0, 0))) := ⟨h2_⟩
  have n3_ : Aside0 (w31.heap[gb262]? = some (.cells #[.int .i64 0, .int .i64 0, .int .i64 0, .int .i64 0, .int .i64 0, .int .i64 0, .bool false] 28 (0, 0))) := ⟨h3_⟩
  have n4_ : Aside0 (w31.heap[gb263]? = some (.cells #[.int .i64 0, .int .i64 0, .int .i64 0, .int .i64 0, .int .i64 0, .int .i64 0, .bool false] 28 (0, 0))) := ⟨h4_⟩
  have n5_ : Aside0 (w31.heap[gb264]? = some (.cells #[.int .i64 0, .int .i64 0, .int .i64 0, .int .i64 0, .int .i64 0, .int .i64 0, .bool false] 28 (0, 0))) := ⟨h5_⟩
  have n6_ : Aside0 (w.heap.size ≤ gb262) := ⟨h6_⟩
  have n7_ : Aside0 (w.heap.size ≤ gb262) := ⟨h7_⟩
  have n8_ : Aside0 (gb245 ≠ gb262) := ⟨h8_⟩
  have n9_ : Aside0 (gb262 ≠ gb245) := ⟨h9_⟩
  have n10_ : Aside0 (gb253 ≠ gb262) := ⟨h10_⟩
  have n11_ : Aside0 (gb262 ≠ gb253) := ⟨h11_⟩
  have n12_ : Aside0 (gb261 ≠ gb262) := ⟨h12_⟩
  have n13_ : Aside0 (gb262 ≠ gb261) := ⟨h13_⟩
  have n14_ : Aside0 (gb263 ≠ gb262) := ⟨h14_⟩
  have n15_ : Aside0 (gb262 ≠ gb263) := ⟨h15_⟩
  have n16_ : Aside0 (gb264 ≠ gb262) := ⟨h16_⟩
  have n17_ : Aside0 (gb262 ≠ gb264) := ⟨h17_⟩
  have n18_ : Aside0 (w.heap.size ≤ gb263) := ⟨h18_⟩
  have n19_ : Aside0 (w.heap.size ≤ gb263) := ⟨h19_⟩
  have n20_ : Aside0 (gb245 ≠ gb263) := ⟨h20_⟩
  have n21_ : Aside0 (gb263 ≠ gb245) := ⟨h21_⟩
  have n22_ : Aside0 (gb253 ≠ gb263) := ⟨h22_⟩
  have n23_ : Aside0 (gb263 ≠ gb253) := ⟨h23_⟩
  have n24_ : Aside0 (gb261 ≠ gb263) := ⟨h24_⟩
  have n25_ : Aside0 (gb263 ≠ gb261) := ⟨h25_⟩
  have n26_ : Aside0 (gb264 ≠ gb263) := ⟨h26_⟩
  have n27_ : Aside0 (gb263 ≠ gb264) := ⟨h27_⟩
  have n28_ : Aside0 (w.heap.size ≤ gb264) := ⟨h28_⟩
  have n29_ : Aside0 (w.heap.size ≤ gb264) := ⟨h29_⟩
  have n30_ : Aside0 (gb245 ≠ gb264) := ⟨h30_⟩
  have n31_ : Aside0 (gb264 ≠ gb245) := ⟨h31_⟩
  have n32_ : Aside0 (gb253 ≠ gb264) := ⟨h32_⟩
  have n33_ : Aside0 (gb264 ≠ gb253) := ⟨h33_⟩
  have n34_ : Aside0 (gb261 ≠ gb264) := ⟨h34_⟩
  have n35_ : Aside0 (gb264 ≠ gb261) := ⟨h35_⟩
  have n36_ : Aside0 (Below w.heap.size w w31) := ⟨h36_⟩
  clear BK245
  clear BK253
  clear BK261
  clear HB
  clear h0_ h1_ h2_ h3_ h4_ h5_ h6_ h7_ h8_ h9_ h10_ h11_ h12_ h13_ h14_ h15_ h16_ h17_ h18_ h19_ h20_ h21_ h22_ h23_ h24_ h25_ h26_ h27_ h28_ h29_ h30_ h31_ h32_ h33_ h34_ h35_ h36_
  have BK245 := n0_
  have BK253 := n1_
  have BK261 := n2_
  have BK262 := n3_
  have BK263 := n4_
  have BK264 := n5_
  have GW262 := n6_
  have GE262 := n7_
  have NB245_262 := n8_
  have NB262_245 := n9_
  have NB253_262 := n10_
  have NB262_253 := n11_
  have NB261_262 := n12_
  have NB262_261 := n13_
  have NB263_262 := n14_
  have NB262_263 := n15_
  have NB264_262 := n16_
  have NB262_264 := n17_
  have GW263 := n18_
  have GE263 := n19_
  have NB245_263 := n20_
  have NB263_245 := n21_
  have NB253_263 := n22_
  have NB263_253 := n23_
  have NB261_263 := n24_
  have NB263_261 := n25_
  have NB264_263 := n26_
  have NB263_264 := n27_
  have GW264 := n28_
  have GE264 := n29_
  have NB245_264 := n30_
  have NB264_245 := n31_
  have NB253_264 := n32_
  have NB264_253 := n33_
  have NB261_264 := n34_
  have NB264_261 := n35_
  have HB := n36_
  clear n0_ n1_ n2_ n3_ n4_ n5_ n6_ n7_ n8_ n9_ n10_ n11_ n12_ n13_ n14_ n15_ n16_ n17_ n18_ n19_ n20_ n21_ n22_ n23_ n24_ n25_ n26_ n27_ n28_ n29_ n30_ n31_ n32_ n33_ n34_ n35_ n36_
  have hHeld : w31.cell? ⟨gb245, 0, none⟩ = some (.int .i64 1000) ∧ w31.cell? ⟨gb245, 1, none⟩ = some (.int .i64 1000) ∧ w31.cell? ⟨gb245, 2, none⟩ = some (.int .i64 5) ∧ w31.cell? ⟨gb245, 3, none⟩ = some (.int .i64 10) ∧ w31.cell? ⟨gb245, 4, none⟩ = some (.int .i64 900) ∧ w31.cell? ⟨gb245, 5, none⟩ = some (.int .i64 1012) ∧ w31.cell? ⟨gb245, 6, none⟩ = some (.bool false) := hS_
  refine norm_ (a' := ?_) ?_ ?_
  rotate_left
  · simp only [putAll, Act.put, List.setIfInBounds_toArray, List.set_cons_zero, List.set_cons_succ]
    rfl
  refine one_ (i := 6) (N := none) #[true, true, true, true, true, true, true, false, false] rfl rfl (one_of HT_.out (by kernel_rfl)) (by decide) (fun K hK => ?_)
  have hs32 : w31.cell? ⟨gb262, 0, none⟩ = some (.int .i64 0) := bc BK262 0
  have hfs32 := blk_frozen BK262.out 0
  have hns32_0 := NB245_262.out
  have hns32_1 := NB253_262.out
  have hns32_2 := NB261_262.out
  have hns32_4 := NB263_262.out
  have hns32_5 := NB264_262.out
  have hms32_0 := NB262_245.out
  have hms32_1 := NB262_253.out
  have hms32_2 := NB262_261.out
  have hms32_4 := NB262_263.out
  have hms32_5 := NB262_264.out
  have hs33 : w31.cell? ⟨gb262, 1, none⟩ = some (.int .i64 0) := bc BK262 1
  have hfs33 := blk_frozen BK262.out 1
  have hns33_0 := NB245_262.out
  have hns33_1 := NB253_262.out
  have hns33_2 := NB261_262.out
  have hns33_4 := NB263_262.out
  have hns33_5 := NB264_262.out
  have hms33_0 := NB262_245.out
  have hms33_1 := NB262_253.out
  have hms33_2 := NB262_261.out
  have hms33_4 := NB262_263.out
  have hms33_5 := NB262_264.out
  have hs34 : w31.cell? ⟨gb262, 2, none⟩ = some (.int .i64 0) := bc BK262 2
  have hfs34 := blk_frozen BK262.out 2
  have hns34_0 := NB245_262.out
  have hns34_1 := NB253_262.out
  have hns34_2 := NB261_262.out
  have hns34_4 := NB263_262.out
  have hns34_5 := NB264_262.out
  have hms34_0 := NB262_245.out
  have hms34_1 := NB262_253.out
  have hms34_2 := NB262_261.out
  have hms34_4 := NB262_263.out
  have hms34_5 := NB262_264.out
  have hs35 : w31.cell? ⟨gb262, 3, none⟩ = some (.int .i64 0) := bc BK262 3
  have hfs35 := blk_frozen BK262.out 3
  have hns35_0 := NB245_262.out
  have hns35_1 := NB253_262.out
  have hns35_2 := NB261_262.out
  have hns35_4 := NB263_262.out
  have hns35_5 := NB264_262.out
  have hms35_0 := NB262_245.out
  have hms35_1 := NB262_253.out
  have hms35_2 := NB262_261.out
  have hms35_4 := NB262_263.out
  have hms35_5 := NB262_264.out
  have hs36 : w31.cell? ⟨gb262, 4, none⟩ = some (.int .i64 0) := bc BK262 4
  have hfs36 := blk_frozen BK262.out 4
  have hns36_0 := NB245_262.out
  have hns36_1 := NB253_262.out
  have hns36_2 := NB261_262.out
  have hns36_4 := NB263_262.out
  have hns36_5 := NB264_262.out
  have hms36_0 := NB262_245.out
  have hms36_1 := NB262_253.out
  have hms36_2 := NB262_261.out
  have hms36_4 := NB262_263.out
  have hms36_5 := NB262_264.out
  have hs37 : w31.cell? ⟨gb262, 5, none⟩ = some (.int .i64 0) := bc BK262 5
  have hfs37 := blk_frozen BK262.out 5
  have hns37_0 := NB245_262.out
  have hns37_1 := NB253_262.out
  have hns37_2 := NB261_262.out
  have hns37_4 := NB263_262.out
  have hns37_5 := NB264_262.out
  have hms37_0 := NB262_245.out
  have hms37_1 := NB262_253.out
  have hms37_2 := NB262_261.out
  have hms37_4 := NB262_263.out
  have hms37_5 := NB262_264.out
  have hs38 : w31.cell? ⟨gb262, 6, none⟩ = some (.bool false) := bc BK262 6
  have hfs38 := blk_frozen BK262.out 6
  have hns38_0 := NB245_262.out
  have hns38_1 := NB253_262.out
  have hns38_2 := NB261_262.out
  have hns38_4 := NB263_262.out
  have hns38_5 := NB264_262.out
  have hms38_0 := NB262_245.out
  have hms38_1 := NB262_253.out
  have hms38_2 := NB262_261.out
  have hms38_4 := NB262_263.out
  have hms38_5 := NB262_264.out
  with_reducible refine skip_ (w1 := ?_) ?_ ?_ ?_ ?_
  rotate_left
  · rfl
  · rfl
  · first | (apply store_box BK262; (case hop => rfl); (case hp => rfl); (case hv => rfl); (case hg => with_reducible (repeat (refine blk_far ?_ (by assumption) _); exact bx0 BK262)); (case hi => kernel_rfl); (case ho => rfl); (case h1 => rfl); (case hw => simp only [setCells, Nat.zero_add, Nat.reduceAdd]; rfl)) | (go_simp; rfl)
  refine hK.out _ _ ⟨(by with_reducible (repeat (refine (cell_far (p := ⟨gb262, _, none⟩) NB245_262.out _).trans ?_)); exact hHeld.1), (by with_reducible (repeat (refine (cell_far (p := ⟨gb262, _, none⟩) NB245_262.out _).trans ?_)); exact hHeld.2.1), (by with_reducible (repeat (refine (cell_far (p := ⟨gb262, _, none⟩) NB245_262.out _).trans ?_)); exact hHeld.2.2.1), (by with_reducible (repeat (refine (cell_far (p := ⟨gb262, _, none⟩) NB245_262.out _).trans ?_)); exact hHeld.2.2.2.1), (by with_reducible (repeat (refine (cell_far (p := ⟨gb262, _, none⟩) NB245_262.out _).trans ?_)); exact hHeld.2.2.2.2.1), (by with_reducible (repeat (refine (cell_far (p := ⟨gb262, _, none⟩) NB245_262.out _).trans ?_)); exact hHeld.2.2.2.2.2.1), (by with_reducible (repeat (refine (cell_far (p := ⟨gb262, _, none⟩) NB245_262.out _).trans ?_)); exact hHeld.2.2.2.2.2.2)⟩ (fun hHeld => ?_)
  clear hK K
  refine one_ (i := 7) (N := none) #[true, true, true, true, true, true, true, true, false] rfl rfl (one_of HT_.out (by kernel_rfl)) (by decide) (fun K hK => ?_)
  have hs39 : w31.cell? ⟨gb263, 0, none⟩ = some (.int .i64 0) := bc BK263 0
  have hfs39 := blk_frozen BK263.out 0
  have hns39_0 := NB245_263.out
  have hns39_1 := NB253_263.out
  have hns39_2 := NB261_263.out
  have hns39_3 := NB262_263.out
  have hns39_5 := NB264_263.out
  have hms39_0 := NB263_245.out
  have hms39_1 := NB263_253.out
  have hms39_2 := NB263_261.out
  have hms39_3 := NB263_262.out
  have hms39_5 := NB263_264.out
  have hs40 : w31.cell? ⟨gb263, 1, none⟩ = some (.int .i64 0) := bc BK263 1
  have hfs40 := blk_frozen BK263.out 1
  have hns40_0 := NB245_263.out
  have hns40_1 := NB253_263.out
  have hns40_2 := NB261_263.out
  have hns40_3 := NB262_263.out
  have hns40_5 := NB264_263.out
  have hms40_0 := NB263_245.out
  have hms40_1 := NB263_253.out
  have hms40_2 := NB263_261.out
  have hms40_3 := NB263_262.out
  have hms40_5 := NB263_264.out
  have hs41 : w31.cell? ⟨gb263, 2, none⟩ = some (.int .i64 0) := bc BK263 2
  have hfs41 := blk_frozen BK263.out 2
  have hns41_0 := NB245_263.out
  have hns41_1 := NB253_263.out
  have hns41_2 := NB261_263.out
  have hns41_3 := NB262_263.out
  have hns41_5 := NB264_263.out
  have hms41_0 := NB263_245.out
  have hms41_1 := NB263_253.out
  have hms41_2 := NB263_261.out
  have hms41_3 := NB263_262.out
  have hms41_5 := NB263_264.out
  have hs42 : w31.cell? ⟨gb263, 3, none⟩ = some (.int .i64 0) := bc BK263 3
  have hfs42 := blk_frozen BK263.out 3
  have hns42_0 := NB245_263.out
  have hns42_1 := NB253_263.out
  have hns42_2 := NB261_263.out
  have hns42_3 := NB262_263.out
  have hns42_5 := NB264_263.out
  have hms42_0 := NB263_245.out
  have hms42_1 := NB263_253.out
  have hms42_2 := NB263_261.out
  have hms42_3 := NB263_262.out
  have hms42_5 := NB263_264.out
  have hs43 : w31.cell? ⟨gb263, 4, none⟩ = some (.int .i64 0) := bc BK263 4
  have hfs43 := blk_frozen BK263.out 4
  have hns43_0 := NB245_263.out
  have hns43_1 := NB253_263.out
  have hns43_2 := NB261_263.out
  have hns43_3 := NB262_263.out
  have hns43_5 := NB264_263.out
  have hms43_0 := NB263_245.out
  have hms43_1 := NB263_253.out
  have hms43_2 := NB263_261.out
  have hms43_3 := NB263_262.out
  have hms43_5 := NB263_264.out
  have hs44 : w31.cell? ⟨gb263, 5, none⟩ = some (.int .i64 0) := bc BK263 5
  have hfs44 := blk_frozen BK263.out 5
  have hns44_0 := NB245_263.out
  have hns44_1 := NB253_263.out
  have hns44_2 := NB261_263.out
  have hns44_3 := NB262_263.out
  have hns44_5 := NB264_263.out
  have hms44_0 := NB263_245.out
  have hms44_1 := NB263_253.out
  have hms44_2 := NB263_261.out
  have hms44_3 := NB263_262.out
  have hms44_5 := NB263_264.out
  have hs45 : w31.cell? ⟨gb263, 6, none⟩ = some (.bool false) := bc BK263 6
  have hfs45 := blk_frozen BK263.out 6
  have hns45_0 := NB245_263.out
  have hns45_1 := NB253_263.out
  have hns45_2 := NB261_263.out
  have hns45_3 := NB262_263.out
  have hns45_5 := NB264_263.out
  have hms45_0 := NB263_245.out
  have hms45_1 := NB263_253.out
  have hms45_2 := NB263_261.out
  have hms45_3 := NB263_262.out
  have hms45_5 := NB263_264.out
  with_reducible refine skip_ (w1 := ?_) ?_ ?_ ?_ ?_
  rotate_left
  · rfl
  · rfl
  · first | (apply store_box BK263; (case hop => rfl); (case hp => rfl); (case hv => rfl); (case hg => with_reducible (repeat (refine blk_far ?_ (by assumption) _); exact bx0 BK263)); (case hi => kernel_rfl); (case ho => rfl); (case h1 => rfl); (case hw => simp only [setCells, Nat.zero_add, Nat.reduceAdd]; rfl)) | (go_simp; rfl)
  refine hK.out _ _ ⟨(by with_reducible (repeat (refine (cell_far (p := ⟨gb263, _, none⟩) NB245_263.out _).trans ?_)); exact hHeld.1), (by with_reducible (repeat (refine (cell_far (p := ⟨gb263, _, none⟩) NB245_263.out _).trans ?_)); exact hHeld.2.1), (by with_reducible (repeat (refine (cell_far (p := ⟨gb263, _, none⟩) NB245_263.out _).trans ?_)); exact hHeld.2.2.1), (by with_reducible (repeat (refine (cell_far (p := ⟨gb263, _, none⟩) NB245_263.out _).trans ?_)); exact hHeld.2.2.2.1), (by with_reducible (repeat (refine (cell_far (p := ⟨gb263, _, none⟩) NB245_263.out _).trans ?_)); exact hHeld.2.2.2.2.1), (by with_reducible (repeat (refine (cell_far (p := ⟨gb263, _, none⟩) NB245_263.out _).trans ?_)); exact hHeld.2.2.2.2.2.1), (by with_reducible (repeat (refine (cell_far (p := ⟨gb263, _, none⟩) NB245_263.out _).trans ?_)); exact hHeld.2.2.2.2.2.2)⟩ (fun hHeld => ?_)
  clear hK K
  refine one_ (i := 8) (N := none) #[true, true, true, true, true, true, true, true, true] rfl rfl (one_of HT_.out (by kernel_rfl)) (by decide) (fun K hK => ?_)
  have hs46 : w31.cell? ⟨gb264, 0, none⟩ = some (.int .i64 0) := bc BK264 0
  have hfs46 := blk_frozen BK264.out 0
  have hns46_0 := NB245_264.out
  have hns46_1 := NB253_264.out
  have hns46_2 := NB261_264.out
  have hns46_3 := NB262_264.out
  have hns46_4 := NB263_264.out
  have hms46_0 := NB264_245.out
  have hms46_1 := NB264_253.out
  have hms46_2 := NB264_261.out
  have hms46_3 := NB264_262.out
  have hms46_4 := NB264_263.out
  have hs47 : w31.cell? ⟨gb264, 1, none⟩ = some (.int .i64 0) := bc BK264 1
  have hfs47 := blk_frozen BK264.out 1
  have hns47_0 := NB245_264.out
  have hns47_1 := NB253_264.out
  have hns47_2 := NB261_264.out
  have hns47_3 := NB262_264.out
  have hns47_4 := NB263_264.out
  have hms47_0 := NB264_245.out
  have hms47_1 := NB264_253.out
  have hms47_2 := NB264_261.out
  have hms47_3 := NB264_262.out
  have hms47_4 := NB264_263.out
  have hs48 : w31.cell? ⟨gb264, 2, none⟩ = some (.int .i64 0) := bc BK264 2
  have hfs48 := blk_frozen BK264.out 2
  have hns48_0 := NB245_264.out
  have hns48_1 := NB253_264.out
  have hns48_2 := NB261_264.out
  have hns48_3 := NB262_264.out
  have hns48_4 := NB263_264.out
  have hms48_0 := NB264_245.out
  have hms48_1 := NB264_253.out
  have hms48_2 := NB264_261.out
  have hms48_3 := NB264_262.out
  have hms48_4 := NB264_263.out
  have hs49 : w31.cell? ⟨gb264, 3, none⟩ = some (.int .i64 0) := bc BK264 3
  have hfs49 := blk_frozen BK264.out 3
  have hns49_0 := NB245_264.out
  have hns49_1 := NB253_264.out
  have hns49_2 := NB261_264.out
  have hns49_3 := NB262_264.out
  have hns49_4 := NB263_264.out
  have hms49_0 := NB264_245.out
  have hms49_1 := NB264_253.out
  have hms49_2 := NB264_261.out
  have hms49_3 := NB264_262.out
  have hms49_4 := NB264_263.out
  have hs50 : w31.cell? ⟨gb264, 4, none⟩ = some (.int .i64 0) := bc BK264 4
  have hfs50 := blk_frozen BK264.out 4
  have hns50_0 := NB245_264.out
  have hns50_1 := NB253_264.out
  have hns50_2 := NB261_264.out
  have hns50_3 := NB262_264.out
  have hns50_4 := NB263_264.out
  have hms50_0 := NB264_245.out
  have hms50_1 := NB264_253.out
  have hms50_2 := NB264_261.out
  have hms50_3 := NB264_262.out
  have hms50_4 := NB264_263.out
  have hs51 : w31.cell? ⟨gb264, 5, none⟩ = some (.int .i64 0) := bc BK264 5
  have hfs51 := blk_frozen BK264.out 5
  have hns51_0 := NB245_264.out
  have hns51_1 := NB253_264.out
  have hns51_2 := NB261_264.out
  have hns51_3 := NB262_264.out
  have hns51_4 := NB263_264.out
  have hms51_0 := NB264_245.out
  have hms51_1 := NB264_253.out
  have hms51_2 := NB264_261.out
  have hms51_3 := NB264_262.out
  have hms51_4 := NB264_263.out
  have hs52 : w31.cell? ⟨gb264, 6, none⟩ = some (.bool false) := bc BK264 6
  have hfs52 := blk_frozen BK264.out 6
  have hns52_0 := NB245_264.out
  have hns52_1 := NB253_264.out
  have hns52_2 := NB261_264.out
  have hns52_3 := NB262_264.out
  have hns52_4 := NB263_264.out
  have hms52_0 := NB264_245.out
  have hms52_1 := NB264_253.out
  have hms52_2 := NB264_261.out
  have hms52_3 := NB264_262.out
  have hms52_4 := NB264_263.out
  with_reducible refine skip_ (w1 := ?_) ?_ ?_ ?_ ?_
  rotate_left
  · rfl
  · rfl
  · first | (apply store_box BK264; (case hop => rfl); (case hp => rfl); (case hv => rfl); (case hg => with_reducible (repeat (refine blk_far ?_ (by assumption) _); exact bx0 BK264)); (case hi => kernel_rfl); (case ho => rfl); (case h1 => rfl); (case hw => simp only [setCells, Nat.zero_add, Nat.reduceAdd]; rfl)) | (go_simp; rfl)
  refine hK.out _ _ ⟨(by with_reducible (repeat (refine (cell_far (p := ⟨gb264, _, none⟩) NB245_264.out _).trans ?_)); exact hHeld.1), (by with_reducible (repeat (refine (cell_far (p := ⟨gb264, _, none⟩) NB245_264.out _).trans ?_)); exact hHeld.2.1), (by with_reducible (repeat (refine (cell_far (p := ⟨gb264, _, none⟩) NB245_264.out _).trans ?_)); exact hHeld.2.2.1), (by with_reducible (repeat (refine (cell_far (p := ⟨gb264, _, none⟩) NB245_264.out _).trans ?_)); exact hHeld.2.2.2.1), (by with_reducible (repeat (refine (cell_far (p := ⟨gb264, _, none⟩) NB245_264.out _).trans ?_)); exact hHeld.2.2.2.2.1), (by with_reducible (repeat (refine (cell_far (p := ⟨gb264, _, none⟩) NB245_264.out _).trans ?_)); exact hHeld.2.2.2.2.2.1), (by with_reducible (repeat (refine (cell_far (p := ⟨gb264, _, none⟩) NB245_264.out _).trans ?_)); exact hHeld.2.2.2.2.2.2)⟩ (fun hHeld => ?_)
  clear hK K
  refine done_ (done_of HT_.out (by kernel_rfl)) ?_
  have hnb53 := NB262_245.out
  have hnc53 := NB245_262.out
  have hnb54 := NB262_253.out
  have hnc54 := NB253_262.out
  have hnb55 := NB262_261.out
  have hnc55 := NB261_262.out
  have hnb56 := NB262_263.out
  have hnc56 := NB263_262.out
  have hnb57 := NB262_264.out
  have hnc57 := NB264_262.out
  have hcz58_0 : w31.cell? ⟨gb262, 0, none⟩ = some (.int .i64 0) := bc BK262 0
  have hcz58_1 : w31.cell? ⟨gb262, 1, none⟩ = some (.int .i64 0) := bc BK262 1
  have hcz58_2 : w31.cell? ⟨gb262, 2, none⟩ = some (.int .i64 0) := bc BK262 2
  have hcz58_3 : w31.cell? ⟨gb262, 3, none⟩ = some (.int .i64 0) := bc BK262 3
  have hcz58_4 : w31.cell? ⟨gb262, 4, none⟩ = some (.int .i64 0) := bc BK262 4
  have hcz58_5 : w31.cell? ⟨gb262, 5, none⟩ = some (.int .i64 0) := bc BK262 5
  have hcz58_6 : w31.cell? ⟨gb262, 6, none⟩ = some (.bool false) := bc BK262 6
  have hfz58_0 := blk_frozen BK262.out 0
  have hfz58_1 := blk_frozen BK262.out 1
  have hfz58_2 := blk_frozen BK262.out 2
  have hfz58_3 := blk_frozen BK262.out 3
  have hfz58_4 := blk_frozen BK262.out 4
  have hfz58_5 := blk_frozen BK262.out 5
  have hfz58_6 := blk_frozen BK262.out 6
  have hnb59 := NB263_245.out
  have hnc59 := NB245_263.out
  have hnb60 := NB263_253.out
  have hnc60 := NB253_263.out
  have hnb61 := NB263_261.out
  have hnc61 := NB261_263.out
  have hnb62 := NB263_264.out
  have hnc62 := NB264_263.out
  have hcz63_0 : w31.cell? ⟨gb263, 0, none⟩ = some (.int .i64 0) := bc BK263 0
  have hcz63_1 : w31.cell? ⟨gb263, 1, none⟩ = some (.int .i64 0) := bc BK263 1
  have hcz63_2 : w31.cell? ⟨gb263, 2, none⟩ = some (.int .i64 0) := bc BK263 2
  have hcz63_3 : w31.cell? ⟨gb263, 3, none⟩ = some (.int .i64 0) := bc BK263 3
  have hcz63_4 : w31.cell? ⟨gb263, 4, none⟩ = some (.int .i64 0) := bc BK263 4
  have hcz63_5 : w31.cell? ⟨gb263, 5, none⟩ = some (.int .i64 0) := bc BK263 5
  have hcz63_6 : w31.cell? ⟨gb263, 6, none⟩ = some (.bool false) := bc BK263 6
  have hfz63_0 := blk_frozen BK263.out 0
  have hfz63_1 := blk_frozen BK263.out 1
  have hfz63_2 := blk_frozen BK263.out 2
  have hfz63_3 := blk_frozen BK263.out 3
  have hfz63_4 := blk_frozen BK263.out 4
  have hfz63_5 := blk_frozen BK263.out 5
  have hfz63_6 := blk_frozen BK263.out 6
  have hnb64 := NB264_245.out
  have hnc64 := NB245_264.out
  have hnb65 := NB264_253.out
  have hnc65 := NB253_264.out
  have hnb66 := NB264_261.out
  have hnc66 := NB261_264.out
  have hcz67_0 : w31.cell? ⟨gb264, 0, none⟩ = some (.int .i64 0) := bc BK264 0
  have hcz67_1 : w31.cell? ⟨gb264, 1, none⟩ = some (.int .i64 0) := bc BK264 1
  have hcz67_2 : w31.cell? ⟨gb264, 2, none⟩ = some (.int .i64 0) := bc BK264 2
  have hcz67_3 : w31.cell? ⟨gb264, 3, none⟩ = some (.int .i64 0) := bc BK264 3
  have hcz67_4 : w31.cell? ⟨gb264, 4, none⟩ = some (.int .i64 0) := bc BK264 4
  have hcz67_5 : w31.cell? ⟨gb264, 5, none⟩ = some (.int .i64 0) := bc BK264 5
  have hcz67_6 : w31.cell? ⟨gb264, 6, none⟩ = some (.bool false) := bc BK264 6
  have hfz67_0 := blk_frozen BK264.out 0
  have hfz67_1 := blk_frozen BK264.out 1
  have hfz67_2 := blk_frozen BK264.out 2
  have hfz67_3 := blk_frozen BK264.out 3
  have hfz67_4 := blk_frozen BK264.out 4
  have hfz67_5 := blk_frozen BK264.out 5
  have hfz67_6 := blk_frozen BK264.out 6
  try go_wp2
  have n0_ : Aside0 ((((((((((((((((((((((((((((w31.setCell ⟨gb262, 0, none⟩ (.int .i64 1000)).setCell ⟨gb262, 1, none⟩ (.int .i64 1000)).setCell ⟨gb262, 2, none⟩ (.int .i64 5)).setCell ⟨gb262, 3, none⟩ (.int .i64 10)).setCell ⟨gb262, 4, none⟩ (.int .i64 900)).setCell ⟨gb262, 5, none⟩ (.int .i64 1012)).setCell ⟨gb262, 6, none⟩ (.bool false)).setCell ⟨gb263, 0, none⟩ (.int .i64 1000)).setCell ⟨gb263, 1, none⟩ (.int .i64 1000)).setCell ⟨gb263, 2, none⟩ (.int .i64 5)).setCell ⟨gb263, 3, none⟩ (.int .i64 10)).setCell ⟨gb263, 4, none⟩ (.int .i64 900)).setCell ⟨gb263, 5, none⟩ (.int .i64 1012)).setCell ⟨gb263, 6, none⟩ (.bool false)).setCell ⟨gb264, 0, none⟩ (.int .i64 1000)).setCell ⟨gb264, 1, none⟩ (.int .i64 1000)).setCell ⟨gb264, 2, none⟩ (.int .i64 5)).setCell ⟨gb264, 3, none⟩ (.int .i64 10)).setCell ⟨gb264, 4, none⟩ (.int .i64 900)).setCell ⟨gb264, 5, none⟩ (.int .i64 1012)).setCell ⟨gb264, 6, none⟩ (.bool false)).setCell ⟨gb262, 0, none⟩ (.int .i64 1004)).setCell ⟨gb262, 1, none⟩ (.int .i64 1005)).setCell ⟨gb263, 0, none⟩ (.int .i64 1008)).setCell ⟨gb263, 1, none⟩ (.int .i64 1010)).setCell ⟨gb263, 6, none⟩ (.bool true)).setCell ⟨gb264, 6, none⟩ (.bool true)).heap[gb245]? = some (.cells #[.int .i64 1000, .int .i64 1000, .int .i64 5, .int .i64 10, .int .i64 900, .int .i64 1012, .bool false] 28 (0, 0))) := ⟨by (with_reducible repeat refine bp_ ?_); refine blk_far ?_ NB245_264.out _; (with_reducible repeat refine bp_ ?_); refine blk_far ?_ NB245_263.out _; (with_reducible repeat refine bp_ ?_); refine blk_far ?_ NB245_263.out _; (with_reducible repeat refine bp_ ?_); refine blk_far ?_ NB245_263.out _; (with_reducible repeat refine bp_ ?_); refine blk_far ?_ NB245_262.out _; (with_reducible repeat refine bp_ ?_); refine blk_far ?_ NB245_262.out _; (with_reducible repeat refine bp_ ?_); refine blk_far ?_ NB245_264.out _; (with_reducible repeat refine bp_ ?_); refine blk_far ?_ NB245_264.out _; (with_reducible repeat refine bp_ ?_); refine blk_far ?_ NB245_264.out _; (with_reducible repeat refine bp_ ?_); refine blk_far ?_ NB245_264.out _; (with_reducible repeat refine bp_ ?_); refine blk_far ?_ NB245_264.out _; (with_reducible repeat refine bp_ ?_); refine blk_far ?_ NB245_264.out _; (with_reducible repeat refine bp_ ?_); refine blk_far ?_ NB245_264.out _; (with_reducible repeat refine bp_ ?_); refine blk_far ?_ NB245_263.out _; (with_reducible repeat refine bp_ ?_); refine blk_far ?_ NB245_263.out _; (with_reducible repeat refine bp_ ?_); refine blk_far ?_ NB245_263.out _; (with_reducible repeat refine bp_ ?_); refine blk_far ?_ NB245_263.out _; (with_reducible repeat refine bp_ ?_); refine blk_far ?_ NB245_263.out _; (with_reducible repeat refine bp_ ?_); refine blk_far ?_ NB245_263.out _; (with_reducible repeat refine bp_ ?_); refine blk_far ?_ NB245_263.out _; (with_reducible repeat refine bp_ ?_); refine blk_far ?_ NB245_262.out _; (with_reducible repeat refine bp_ ?_); refine blk_far ?_ NB245_262.out _; (with_reducible repeat refine bp_ ?_); refine blk_far ?_ NB245_262.out _; (with_reducible repeat refine bp_ ?_); refine blk_far ?_ NB245_262.out _; (with_reducible repeat refine bp_ ?_); refine blk_far ?_ NB245_262.out _; (with_reducible repeat refine bp_ ?_); refine blk_far ?_ NB245_262.out _; (with_reducible repeat refine bp_ ?_); refine blk_far ?_ NB245_262.out _; (with_reducible repeat refine bp_ ?_); exact BK245.out⟩
  have n1_ : Aside0 ((((((((((((((((((((((((((((w31.setCell ⟨gb262, 0, none⟩ (.int .i64 1000)).setCell ⟨gb262, 1, none⟩ (.int .i64 1000)).setCell ⟨gb262, 2, none⟩ (.int .i64 5)).setCell ⟨gb262, 3, none⟩ (.int .i64 10)).setCell ⟨gb262, 4, none⟩ (.int .i64 900)).setCell ⟨gb262, 5, none⟩ (.int .i64 1012)).setCell ⟨gb262, 6, none⟩ (.bool false)).setCell ⟨gb263, 0, none⟩ (.int .i64 1000)).setCell ⟨gb263, 1, none⟩ (.int .i64 1000)).setCell ⟨gb263, 2, none⟩ (.int .i64 5)).setCell ⟨gb263, 3, none⟩ (.int .i64 10)).setCell ⟨gb263, 4, none⟩ (.int .i64 900)).setCell ⟨gb263, 5, none⟩ (.int .i64 1012)).setCell ⟨gb263, 6, none⟩ (.bool false)).setCell ⟨gb264, 0, none⟩ (.int .i64 1000)).setCell ⟨gb264, 1, none⟩ (.int .i64 1000)).setCell ⟨gb264, 2, none⟩ (.int .i64 5)).setCell ⟨gb264, 3, none⟩ (.int .i64 10)).setCell ⟨gb264, 4, none⟩ (.int .i64 900)).setCell ⟨gb264, 5, none⟩ (.int .i64 1012)).setCell ⟨gb264, 6, none⟩ (.bool false)).setCell ⟨gb262, 0, none⟩ (.int .i64 1004)).setCell ⟨gb262, 1, none⟩ (.int .i64 1005)).setCell ⟨gb263, 0, none⟩ (.int .i64 1008)).setCell ⟨gb263, 1, none⟩ (.int .i64 1010)).setCell ⟨gb263, 6, none⟩ (.bool true)).setCell ⟨gb264, 6, none⟩ (.bool true)).heap[gb253]? = some (.cells #[.int .i64 1004, .int .i64 1005, .int .i64 5, .int .i64 10, .int .i64 900, .int .i64 1012, .bool false] 28 (0, 0))) := ⟨by (with_reducible repeat refine bp_ ?_); refine blk_far ?_ NB253_264.out _; (with_reducible repeat refine bp_ ?_); refine blk_far ?_ NB253_263.out _; (with_reducible repeat refine bp_ ?_); refine blk_far ?_ NB253_263.out _; (with_reducible repeat refine bp_ ?_); refine blk_far ?_ NB253_263.out _; (with_reducible repeat refine bp_ ?_); refine blk_far ?_ NB253_262.out _; (with_reducible repeat refine bp_ ?_); refine blk_far ?_ NB253_262.out _; (with_reducible repeat refine bp_ ?_); refine blk_far ?_ NB253_264.out _; (with_reducible repeat refine bp_ ?_); refine blk_far ?_ NB253_264.out _; (with_reducible repeat refine bp_ ?_); refine blk_far ?_ NB253_264.out _; (with_reducible repeat refine bp_ ?_); refine blk_far ?_ NB253_264.out _; (with_reducible repeat refine bp_ ?_); refine blk_far ?_ NB253_264.out _; (with_reducible repeat refine bp_ ?_); refine blk_far ?_ NB253_264.out _; (with_reducible repeat refine bp_ ?_); refine blk_far ?_ NB253_264.out _; (with_reducible repeat refine bp_ ?_); refine blk_far ?_ NB253_263.out _; (with_reducible repeat refine bp_ ?_); refine blk_far ?_ NB253_263.out _; (with_reducible repeat refine bp_ ?_); refine blk_far ?_ NB253_263.out _; (with_reducible repeat refine bp_ ?_); refine blk_far ?_ NB253_263.out _; (with_reducible repeat refine bp_ ?_); refine blk_far ?_ NB253_263.out _; (with_reducible repeat refine bp_ ?_); refine blk_far ?_ NB253_263.out _; (with_reducible repeat refine bp_ ?_); refine blk_far ?_ NB253_263.out _; (with_reducible repeat refine bp_ ?_); refine blk_far ?_ NB253_262.out _; (with_reducible repeat refine bp_ ?_); refine blk_far ?_ NB253_262.out _; (with_reducible repeat refine bp_ ?_); refine blk_far ?_ NB253_262.out _; (with_reducible repeat refine bp_ ?_); refine blk_far ?_ NB253_262.out _; (with_reducible repeat refine bp_ ?_); refine blk_far ?_ NB253_262.out _; (with_reducible repeat refine bp_ ?_); refine blk_far ?_ NB253_262.out _; (with_reducible repeat refine bp_ ?_); refine blk_far ?_ NB253_262.out _; (with_reducible repeat refine bp_ ?_); exact BK253.out⟩
  have n2_ : Aside0 ((((((((((((((((((((((((((((w31.setCell ⟨gb262, 0, none⟩ (.int .i64 1000)).setCell ⟨gb262, 1, none⟩ (.int .i64 1000)).setCell ⟨gb262, 2, none⟩ (.int .i64 5)).setCell ⟨gb262, 3, none⟩ (.int .i64 10)).setCell ⟨gb262, 4, none⟩ (.int .i64 900)).setCell ⟨gb262, 5, none⟩ (.int .i64 1012)).setCell ⟨gb262, 6, none⟩ (.bool false)).setCell ⟨gb263, 0, none⟩ (.int .i64 1000)).setCell ⟨gb263, 1, none⟩ (.int .i64 1000)).setCell ⟨gb263, 2, none⟩ (.int .i64 5)).setCell ⟨gb263, 3, none⟩ (.int .i64 10)).setCell ⟨gb263, 4, none⟩ (.int .i64 900)).setCell ⟨gb263, 5, none⟩ (.int .i64 1012)).setCell ⟨gb263, 6, none⟩ (.bool false)).setCell ⟨gb264, 0, none⟩ (.int .i64 1000)).setCell ⟨gb264, 1, none⟩ (.int .i64 1000)).setCell ⟨gb264, 2, none⟩ (.int .i64 5)).setCell ⟨gb264, 3, none⟩ (.int .i64 10)).setCell ⟨gb264, 4, none⟩ (.int .i64 900)).setCell ⟨gb264, 5, none⟩ (.int .i64 1012)).setCell ⟨gb264, 6, none⟩ (.bool false)).setCell ⟨gb262, 0, none⟩ (.int .i64 1004)).setCell ⟨gb262, 1, none⟩ (.int .i64 1005)).setCell ⟨gb263, 0, none⟩ (.int .i64 1008)).setCell ⟨gb263, 1, none⟩ (.int .i64 1010)).setCell ⟨gb263, 6, none⟩ (.bool true)).setCell ⟨gb264, 6, none⟩ (.bool true)).heap[gb261]? = some (.cells #[.int .i64 1008, .int .i64 1010, .int .i64 5, .int .i64 10, .int .i64 900, .int .i64 1012, .bool true] 28 (0, 0))) := ⟨by (with_reducible repeat refine bp_ ?_); refine blk_far ?_ NB261_264.out _; (with_reducible repeat refine bp_ ?_); refine blk_far ?_ NB261_263.out _; (with_reducible repeat refine bp_ ?_); refine blk_far ?_ NB261_263.out _; (with_reducible repeat refine bp_ ?_); refine blk_far ?_ NB261_263.out _; (with_reducible repeat refine bp_ ?_); refine blk_far ?_ NB261_262.out _; (with_reducible repeat refine bp_ ?_); refine blk_far ?_ NB261_262.out _; (with_reducible repeat refine bp_ ?_); refine blk_far ?_ NB261_264.out _; (with_reducible repeat refine bp_ ?_); refine blk_far ?_ NB261_264.out _; (with_reducible repeat refine bp_ ?_); refine blk_far ?_ NB261_264.out _; (with_reducible repeat refine bp_ ?_); refine blk_far ?_ NB261_264.out _; (with_reducible repeat refine bp_ ?_); refine blk_far ?_ NB261_264.out _; (with_reducible repeat refine bp_ ?_); refine blk_far ?_ NB261_264.out _; (with_reducible repeat refine bp_ ?_); refine blk_far ?_ NB261_264.out _; (with_reducible repeat refine bp_ ?_); refine blk_far ?_ NB261_263.out _; (with_reducible repeat refine bp_ ?_); refine blk_far ?_ NB261_263.out _; (with_reducible repeat refine bp_ ?_); refine blk_far ?_ NB261_263.out _; (with_reducible repeat refine bp_ ?_); refine blk_far ?_ NB261_263.out _; (with_reducible repeat refine bp_ ?_); refine blk_far ?_ NB261_263.out _; (with_reducible repeat refine bp_ ?_); refine blk_far ?_ NB261_263.out _; (with_reducible repeat refine bp_ ?_); refine blk_far ?_ NB261_263.out _; (with_reducible repeat refine bp_ ?_); refine blk_far ?_ NB261_262.out _; (with_reducible repeat refine bp_ ?_); refine blk_far ?_ NB261_262.out _; (with_reducible repeat refine bp_ ?_); refine blk_far ?_ NB261_262.out _; (with_reducible repeat refine bp_ ?_); refine blk_far ?_ NB261_262.out _; (with_reducible repeat refine bp_ ?_); refine blk_far ?_ NB261_262.out _; (with_reducible repeat refine bp_ ?_); refine blk_far ?_ NB261_262.out _; (with_reducible repeat refine bp_ ?_); refine blk_far ?_ NB261_262.out _; (with_reducible repeat refine bp_ ?_); exact BK261.out⟩
  have n3_ : Aside0 ((((((((((((((((((((((((((((w31.setCell ⟨gb262, 0, none⟩ (.int .i64 1000)).setCell ⟨gb262, 1, none⟩ (.int .i64 1000)).setCell ⟨gb262, 2, none⟩ (.int .i64 5)).setCell ⟨gb262, 3, none⟩ (.int .i64 10)).setCell ⟨gb262, 4, none⟩ (.int .i64 900)).setCell ⟨gb262, 5, none⟩ (.int .i64 1012)).setCell ⟨gb262, 6, none⟩ (.bool false)).setCell ⟨gb263, 0, none⟩ (.int .i64 1000)).setCell ⟨gb263, 1, none⟩ (.int .i64 1000)).setCell ⟨gb263, 2, none⟩ (.int .i64 5)).setCell ⟨gb263, 3, none⟩ (.int .i64 10)).setCell ⟨gb263, 4, none⟩ (.int .i64 900)).setCell ⟨gb263, 5, none⟩ (.int .i64 1012)).setCell ⟨gb263, 6, none⟩ (.bool false)).setCell ⟨gb264, 0, none⟩ (.int .i64 1000)).setCell ⟨gb264, 1, none⟩ (.int .i64 1000)).setCell ⟨gb264, 2, none⟩ (.int .i64 5)).setCell ⟨gb264, 3, none⟩ (.int .i64 10)).setCell ⟨gb264, 4, none⟩ (.int .i64 900)).setCell ⟨gb264, 5, none⟩ (.int .i64 1012)).setCell ⟨gb264, 6, none⟩ (.bool false)).setCell ⟨gb262, 0, none⟩ (.int .i64 1004)).setCell ⟨gb262, 1, none⟩ (.int .i64 1005)).setCell ⟨gb263, 0, none⟩ (.int .i64 1008)).setCell ⟨gb263, 1, none⟩ (.int .i64 1010)).setCell ⟨gb263, 6, none⟩ (.bool true)).setCell ⟨gb264, 6, none⟩ (.bool true)).heap[gb262]? = some (.cells #[.int .i64 1004, .int .i64 1005, .int .i64 5, .int .i64 10, .int .i64 900, .int .i64 1012, .bool false] 28 (0, 0))) := ⟨by (with_reducible repeat refine bp_ ?_); refine blk_far ?_ NB262_264.out _; (with_reducible repeat refine bp_ ?_); refine blk_far ?_ NB262_263.out _; (with_reducible repeat refine bp_ ?_); refine blk_far ?_ NB262_263.out _; (with_reducible repeat refine bp_ ?_); refine blk_far ?_ NB262_263.out _; (with_reducible repeat refine bp_ ?_); refine blk_put (cs := #[.int .i64 1004, .int .i64 1000, .int .i64 5, .int .i64 10, .int .i64 900, .int .i64 1012, .bool false]) ?_ 1 _ rfl; (with_reducible repeat refine bp_ ?_); refine blk_put (cs := #[.int .i64 1000, .int .i64 1000, .int .i64 5, .int .i64 10, .int .i64 900, .int .i64 1012, .bool false]) ?_ 0 _ rfl; (with_reducible repeat refine bp_ ?_); refine blk_far ?_ NB262_264.out _; (with_reducible repeat refine bp_ ?_); refine blk_far ?_ NB262_264.out _; (with_reducible repeat refine bp_ ?_); refine blk_far ?_ NB262_264.out _; (with_reducible repeat refine bp_ ?_); refine blk_far ?_ NB262_264.out _; (with_reducible repeat refine bp_ ?_); refine blk_far ?_ NB262_264.out _; (with_reducible repeat refine bp_ ?_); refine blk_far ?_ NB262_264.out _; (with_reducible repeat refine bp_ ?_); refine blk_far ?_ NB262_264.out _; (with_reducible repeat refine bp_ ?_); refine blk_far ?_ NB262_263.out _; (with_reducible repeat refine bp_ ?_); refine blk_far ?_ NB262_263.out _; (with_reducible repeat refine bp_ ?_); refine blk_far ?_ NB262_263.out _; (with_reducible repeat refine bp_ ?_); refine blk_far ?_ NB262_263.out _; (with_reducible repeat refine bp_ ?_); refine blk_far ?_ NB262_263.out _; (with_reducible repeat refine bp_ ?_); refine blk_far ?_ NB262_263.out _; (with_reducible repeat refine bp_ ?_); refine blk_far ?_ NB262_263.out _; (with_reducible repeat refine bp_ ?_); refine blk_put (cs := #[.int .i64 1000, .int .i64 1000, .int .i64 5, .int .i64 10, .int .i64 900, .int .i64 1012, .bool false]) ?_ 6 _ rfl; (with_reducible repeat refine bp_ ?_); refine blk_put (cs := #[.int .i64 1000, .int .i64 1000, .int .i64 5, .int .i64 10, .int .i64 900, .int .i64 0, .bool false]) ?_ 5 _ rfl; (with_reducible repeat refine bp_ ?_); refine blk_put (cs := #[.int .i64 1000, .int .i64 1000, .int .i64 5, .int .i64 10, .int .i64 0, .int .i64 0, .bool false]) ?_ 4 _ rfl; (with_reducible repeat refine bp_ ?_); refine blk_put (cs := #[.int .i64 1000, .int .i64 1000, .int .i64 5, .int .i64 0, .int .i64 0, .int .i64 0, .bool false]) ?_ 3 _ rfl; (with_reducible repeat refine bp_ ?_); refine blk_put (cs := #[.int .i64 1000, .int .i64 1000, .int .i64 0, .int .i64 0, .int .i64 0, .int .i64 0, .bool false]) ?_ 2 _ rfl; (with_reducible repeat refine bp_ ?_); refine blk_put (cs := #[.int .i64 1000, .int .i64 0, .int .i64 0, .int .i64 0, .int .i64 0, .int .i64 0, .bool false]) ?_ 1 _ rfl; (with_reducible repeat refine bp_ ?_); refine blk_put (cs := #[.int .i64 0, .int .i64 0, .int .i64 0, .int .i64 0, .int .i64 0, .int .i64 0, .bool false]) ?_ 0 _ rfl; (with_reducible repeat refine bp_ ?_); exact BK262.out⟩
  have n4_ : Aside0 ((((((((((((((((((((((((((((w31.setCell ⟨gb262, 0, none⟩ (.int .i64 1000)).setCell ⟨gb262, 1, none⟩ (.int .i64 1000)).setCell ⟨gb262, 2, none⟩ (.int .i64 5)).setCell ⟨gb262, 3, none⟩ (.int .i64 10)).setCell ⟨gb262, 4, none⟩ (.int .i64 900)).setCell ⟨gb262, 5, none⟩ (.int .i64 1012)).setCell ⟨gb262, 6, none⟩ (.bool false)).setCell ⟨gb263, 0, none⟩ (.int .i64 1000)).setCell ⟨gb263, 1, none⟩ (.int .i64 1000)).setCell ⟨gb263, 2, none⟩ (.int .i64 5)).setCell ⟨gb263, 3, none⟩ (.int .i64 10)).setCell ⟨gb263, 4, none⟩ (.int .i64 900)).setCell ⟨gb263, 5, none⟩ (.int .i64 1012)).setCell ⟨gb263, 6, none⟩ (.bool false)).setCell ⟨gb264, 0, none⟩ (.int .i64 1000)).setCell ⟨gb264, 1, none⟩ (.int .i64 1000)).setCell ⟨gb264, 2, none⟩ (.int .i64 5)).setCell ⟨gb264, 3, none⟩ (.int .i64 10)).setCell ⟨gb264, 4, none⟩ (.int .i64 900)).setCell ⟨gb264, 5, none⟩ (.int .i64 1012)).setCell ⟨gb264, 6, none⟩ (.bool false)).setCell ⟨gb262, 0, none⟩ (.int .i64 1004)).setCell ⟨gb262, 1, none⟩ (.int .i64 1005)).setCell ⟨gb263, 0, none⟩ (.int .i64 1008)).setCell ⟨gb263, 1, none⟩ (.int .i64 1010)).setCell ⟨gb263, 6, none⟩ (.bool true)).setCell ⟨gb264, 6, none⟩ (.bool true)).heap[gb263]? = some (.cells #[.int .i64 1008, .int .i64 1010, .int .i64 5, .int .i64 10, .int .i64 900, .int .i64 1012, .bool true] 28 (0, 0))) := ⟨by (with_reducible repeat refine bp_ ?_); refine blk_far ?_ NB263_264.out _; (with_reducible repeat refine bp_ ?_); refine blk_put (cs := #[.int .i64 1008, .int .i64 1010, .int .i64 5, .int .i64 10, .int .i64 900, .int .i64 1012, .bool false]) ?_ 6 _ rfl; (with_reducible repeat refine bp_ ?_); refine blk_put (cs := #[.int .i64 1008, .int .i64 1000, .int .i64 5, .int .i64 10, .int .i64 900, .int .i64 1012, .bool false]) ?_ 1 _ rfl; (with_reducible repeat refine bp_ ?_); refine blk_put (cs := #[.int .i64 1000, .int .i64 1000, .int .i64 5, .int .i64 10, .int .i64 900, .int .i64 1012, .bool false]) ?_ 0 _ rfl; (with_reducible repeat refine bp_ ?_); refine blk_far ?_ NB263_262.out _; (with_reducible repeat refine bp_ ?_); refine blk_far ?_ NB263_262.out _; (with_reducible repeat refine bp_ ?_); refine blk_far ?_ NB263_264.out _; (with_reducible repeat refine bp_ ?_); refine blk_far ?_ NB263_264.out _; (with_reducible repeat refine bp_ ?_); refine blk_far ?_ NB263_264.out _; (with_reducible repeat refine bp_ ?_); refine blk_far ?_ NB263_264.out _; (with_reducible repeat refine bp_ ?_); refine blk_far ?_ NB263_264.out _; (with_reducible repeat refine bp_ ?_); refine blk_far ?_ NB263_264.out _; (with_reducible repeat refine bp_ ?_); refine blk_far ?_ NB263_264.out _; (with_reducible repeat refine bp_ ?_); refine blk_put (cs := #[.int .i64 1000, .int .i64 1000, .int .i64 5, .int .i64 10, .int .i64 900, .int .i64 1012, .bool false]) ?_ 6 _ rfl; (with_reducible repeat refine bp_ ?_); refine blk_put (cs := #[.int .i64 1000, .int .i64 1000, .int .i64 5, .int .i64 10, .int .i64 900, .int .i64 0, .bool false]) ?_ 5 _ rfl; (with_reducible repeat refine bp_ ?_); refine blk_put (cs := #[.int .i64 1000, .int .i64 1000, .int .i64 5, .int .i64 10, .int .i64 0, .int .i64 0, .bool false]) ?_ 4 _ rfl; (with_reducible repeat refine bp_ ?_); refine blk_put (cs := #[.int .i64 1000, .int .i64 1000, .int .i64 5, .int .i64 0, .int .i64 0, .int .i64 0, .bool false]) ?_ 3 _ rfl; (with_reducible repeat refine bp_ ?_); refine blk_put (cs := #[.int .i64 1000, .int .i64 1000, .int .i64 0, .int .i64 0, .int .i64 0, .int .i64 0, .bool false]) ?_ 2 _ rfl; (with_reducible repeat refine bp_ ?_); refine blk_put (cs := #[.int .i64 1000, .int .i64 0, .int .i64 0, .int .i64 0, .int .i64 0, .int .i64 0, .bool false]) ?_ 1 _ rfl; (with_reducible repeat refine bp_ ?_); refine blk_put (cs := #[.int .i64 0, .int .i64 0, .int .i64 0, .int .i64 0, .int .i64 0, .int .i64 0, .bool false]) ?_ 0 _ rfl; (with_reducible repeat refine bp_ ?_); refine blk_far ?_ NB263_262.out _; (with_reducible repeat refine bp_ ?_); refine blk_far ?_ NB263_262.out _; (with_reducible repeat refine bp_ ?_); refine blk_far ?_ NB263_262.out _; (with_reducible repeat refine bp_ ?_); refine blk_far ?_ NB263_262.out _; (with_reducible repeat refine bp_ ?_); refine blk_far ?_ NB263_262.out _; (with_reducible repeat refine bp_ ?_); refine blk_far ?_ NB263_262.out _; (with_reducible repeat refine bp_ ?_); refine blk_far ?_ NB263_262.out _; (with_reducible repeat refine bp_ ?_); exact BK263.out⟩
  have n5_ : Aside0 ((((((((((((((((((((((((((((w31.setCell ⟨gb262, 0, none⟩ (.int .i64 1000)).setCell ⟨gb262, 1, none⟩ (.int .i64 1000)).setCell ⟨gb262, 2, none⟩ (.int .i64 5)).setCell ⟨gb262, 3, none⟩ (.int .i64 10)).setCell ⟨gb262, 4, none⟩ (.int .i64 900)).setCell ⟨gb262, 5, none⟩ (.int .i64 1012)).setCell ⟨gb262, 6, none⟩ (.bool false)).setCell ⟨gb263, 0, none⟩ (.int .i64 1000)).setCell ⟨gb263, 1, none⟩ (.int .i64 1000)).setCell ⟨gb263, 2, none⟩ (.int .i64 5)).setCell ⟨gb263, 3, none⟩ (.int .i64 10)).setCell ⟨gb263, 4, none⟩ (.int .i64 900)).setCell ⟨gb263, 5, none⟩ (.int .i64 1012)).setCell ⟨gb263, 6, none⟩ (.bool false)).setCell ⟨gb264, 0, none⟩ (.int .i64 1000)).setCell ⟨gb264, 1, none⟩ (.int .i64 1000)).setCell ⟨gb264, 2, none⟩ (.int .i64 5)).setCell ⟨gb264, 3, none⟩ (.int .i64 10)).setCell ⟨gb264, 4, none⟩ (.int .i64 900)).setCell ⟨gb264, 5, none⟩ (.int .i64 1012)).setCell ⟨gb264, 6, none⟩ (.bool false)).setCell ⟨gb262, 0, none⟩ (.int .i64 1004)).setCell ⟨gb262, 1, none⟩ (.int .i64 1005)).setCell ⟨gb263, 0, none⟩ (.int .i64 1008)).setCell ⟨gb263, 1, none⟩ (.int .i64 1010)).setCell ⟨gb263, 6, none⟩ (.bool true)).setCell ⟨gb264, 6, none⟩ (.bool true)).heap[gb264]? = some (.cells #[.int .i64 1000, .int .i64 1000, .int .i64 5, .int .i64 10, .int .i64 900, .int .i64 1012, .bool true] 28 (0, 0))) := ⟨by (with_reducible repeat refine bp_ ?_); refine blk_put (cs := #[.int .i64 1000, .int .i64 1000, .int .i64 5, .int .i64 10, .int .i64 900, .int .i64 1012, .bool false]) ?_ 6 _ rfl; (with_reducible repeat refine bp_ ?_); refine blk_far ?_ NB264_263.out _; (with_reducible repeat refine bp_ ?_); refine blk_far ?_ NB264_263.out _; (with_reducible repeat refine bp_ ?_); refine blk_far ?_ NB264_263.out _; (with_reducible repeat refine bp_ ?_); refine blk_far ?_ NB264_262.out _; (with_reducible repeat refine bp_ ?_); refine blk_far ?_ NB264_262.out _; (with_reducible repeat refine bp_ ?_); refine blk_put (cs := #[.int .i64 1000, .int .i64 1000, .int .i64 5, .int .i64 10, .int .i64 900, .int .i64 1012, .bool false]) ?_ 6 _ rfl; (with_reducible repeat refine bp_ ?_); refine blk_put (cs := #[.int .i64 1000, .int .i64 1000, .int .i64 5, .int .i64 10, .int .i64 900, .int .i64 0, .bool false]) ?_ 5 _ rfl; (with_reducible repeat refine bp_ ?_); refine blk_put (cs := #[.int .i64 1000, .int .i64 1000, .int .i64 5, .int .i64 10, .int .i64 0, .int .i64 0, .bool false]) ?_ 4 _ rfl; (with_reducible repeat refine bp_ ?_); refine blk_put (cs := #[.int .i64 1000, .int .i64 1000, .int .i64 5, .int .i64 0, .int .i64 0, .int .i64 0, .bool false]) ?_ 3 _ rfl; (with_reducible repeat refine bp_ ?_); refine blk_put (cs := #[.int .i64 1000, .int .i64 1000, .int .i64 0, .int .i64 0, .int .i64 0, .int .i64 0, .bool false]) ?_ 2 _ rfl; (with_reducible repeat refine bp_ ?_); refine blk_put (cs := #[.int .i64 1000, .int .i64 0, .int .i64 0, .int .i64 0, .int .i64 0, .int .i64 0, .bool false]) ?_ 1 _ rfl; (with_reducible repeat refine bp_ ?_); refine blk_put (cs := #[.int .i64 0, .int .i64 0, .int .i64 0, .int .i64 0, .int .i64 0, .int .i64 0, .bool false]) ?_ 0 _ rfl; (with_reducible repeat refine bp_ ?_); refine blk_far ?_ NB264_263.out _; (with_reducible repeat refine bp_ ?_); refine blk_far ?_ NB264_263.out _; (with_reducible repeat refine bp_ ?_); refine blk_far ?_ NB264_263.out _; (with_reducible repeat refine bp_ ?_); refine blk_far ?_ NB264_263.out _; (with_reducible repeat refine bp_ ?_); refine blk_far ?_ NB264_263.out _; (with_reducible repeat refine bp_ ?_); refine blk_far ?_ NB264_263.out _; (with_reducible repeat refine bp_ ?_); refine blk_far ?_ NB264_263.out _; (with_reducible repeat refine bp_ ?_); refine blk_far ?_ NB264_262.out _; (with_reducible repeat refine bp_ ?_); refine blk_far ?_ NB264_262.out _; (with_reducible repeat refine bp_ ?_); refine blk_far ?_ NB264_262.out _; (with_reducible repeat refine bp_ ?_); refine blk_far ?_ NB264_262.out _; (with_reducible repeat refine bp_ ?_); refine blk_far ?_ NB264_262.out _; (with_reducible repeat refine bp_ ?_); refine blk_far ?_ NB264_262.out _; (with_reducible repeat refine bp_ ?_); refine blk_far ?_ NB264_262.out _; (with_reducible repeat refine bp_ ?_); exact BK264.out⟩
  have n6_ : Aside0 (Below w.heap.size w (((((((((((((((((((((((((((w31.setCell ⟨gb262, 0, none⟩ (.int .i64 1000)).setCell ⟨gb262, 1, none⟩ (.int .i64 1000)).setCell ⟨gb262, 2, none⟩ (.int .i64 5)).setCell ⟨gb262, 3, none⟩ (.int .i64 10)).setCell ⟨gb262, 4, none⟩ (.int .i64 900)).setCell ⟨gb262, 5, none⟩ (.int .i64 1012)).setCell ⟨gb262, 6, none⟩ (.bool false)).setCell ⟨gb263, 0, none⟩ (.int .i64 1000)).setCell ⟨gb263, 1, none⟩ (.int .i64 1000)).setCell ⟨gb263, 2, none⟩ (.int .i64 5)).setCell ⟨gb263, 3, none⟩ (.int .i64 10)).setCell ⟨gb263, 4, none⟩ (.int .i64 900)).setCell ⟨gb263, 5, none⟩ (.int .i64 1012)).setCell ⟨gb263, 6, none⟩ (.bool false)).setCell ⟨gb264, 0, none⟩ (.int .i64 1000)).setCell ⟨gb264, 1, none⟩ (.int .i64 1000)).setCell ⟨gb264, 2, none⟩ (.int .i64 5)).setCell ⟨gb264, 3, none⟩ (.int .i64 10)).setCell ⟨gb264, 4, none⟩ (.int .i64 900)).setCell ⟨gb264, 5, none⟩ (.int .i64 1012)).setCell ⟨gb264, 6, none⟩ (.bool false)).setCell ⟨gb262, 0, none⟩ (.int .i64 1004)).setCell ⟨gb262, 1, none⟩ (.int .i64 1005)).setCell ⟨gb263, 0, none⟩ (.int .i64 1008)).setCell ⟨gb263, 1, none⟩ (.int .i64 1010)).setCell ⟨gb263, 6, none⟩ (.bool true)).setCell ⟨gb264, 6, none⟩ (.bool true))) := ⟨by repeat (first | (with_reducible first | exact HB.out | apply below_alloc | apply pw_below_drewN | apply below_drew1 | refine below_set ?_ GE245.out | refine below_set ?_ GE253.out | refine below_set ?_ GE261.out | refine below_set ?_ GE262.out | refine below_set ?_ GE263.out | refine below_set ?_ GE264.out) | exact HB.out)⟩
  (try clear BK245)
  (try clear BK253)
  (try clear BK261)
  (try clear BK262)
  (try clear BK263)
  (try clear BK264)
  (try clear HB)
  generalize (((((((((((((((((((((((((((w31.setCell ⟨gb262, 0, none⟩ (.int .i64 1000)).setCell ⟨gb262, 1, none⟩ (.int .i64 1000)).setCell ⟨gb262, 2, none⟩ (.int .i64 5)).setCell ⟨gb262, 3, none⟩ (.int .i64 10)).setCell ⟨gb262, 4, none⟩ (.int .i64 900)).setCell ⟨gb262, 5, none⟩ (.int .i64 1012)).setCell ⟨gb262, 6, none⟩ (.bool false)).setCell ⟨gb263, 0, none⟩ (.int .i64 1000)).setCell ⟨gb263, 1, none⟩ (.int .i64 1000)).setCell ⟨gb263, 2, none⟩ (.int .i64 5)).setCell ⟨gb263, 3, none⟩ (.int .i64 10)).setCell ⟨gb263, 4, none⟩ (.int .i64 900)).setCell ⟨gb263, 5, none⟩ (.int .i64 1012)).setCell ⟨gb263, 6, none⟩ (.bool false)).setCell ⟨gb264, 0, none⟩ (.int .i64 1000)).setCell ⟨gb264, 1, none⟩ (.int .i64 1000)).setCell ⟨gb264, 2, none⟩ (.int .i64 5)).setCell ⟨gb264, 3, none⟩ (.int .i64 10)).setCell ⟨gb264, 4, none⟩ (.int .i64 900)).setCell ⟨gb264, 5, none⟩ (.int .i64 1012)).setCell ⟨gb264, 6, none⟩ (.bool false)).setCell ⟨gb262, 0, none⟩ (.int .i64 1004)).setCell ⟨gb262, 1, none⟩ (.int .i64 1005)).setCell ⟨gb263, 0, none⟩ (.int .i64 1008)).setCell ⟨gb263, 1, none⟩ (.int .i64 1010)).setCell ⟨gb263, 6, none⟩ (.bool true)).setCell ⟨gb264, 6, none⟩ (.bool true)) = w68 at n0_ n1_ n2_ n3_ n4_ n5_ n6_ ⊢
  have BK245 := n0_
  have BK253 := n1_
  have BK261 := n2_
  have BK262 := n3_
  have BK263 := n4_
  have BK264 := n5_
  have HB := n6_
  clear n0_ n1_ n2_ n3_ n4_ n5_ n6_
  have n0_ := Aside0.mk (blk_drew BK245.out)
  have n1_ := Aside0.mk (blk_drew BK253.out)
  have n2_ := Aside0.mk (blk_drew BK261.out)
  have n3_ := Aside0.mk (blk_drew BK262.out)
  have n4_ := Aside0.mk (blk_drew BK263.out)
  have n5_ := Aside0.mk (blk_drew BK264.out)
  have n6_ := Aside0.mk (below_drew1 HB.out)
  clear BK245
  clear BK253
  clear BK261
  clear BK262
  clear BK263
  clear BK264
  clear HB
  have BK245 := n0_
  have BK253 := n1_
  have BK261 := n2_
  have BK262 := n3_
  have BK263 := n4_
  have BK264 := n5_
  have HB := n6_
  clear n0_ n1_ n2_ n3_ n4_ n5_ n6_
  refine start_ (n := 33) (S := fun w' => w'.cell? ⟨gb245, 0, none⟩ = some (.int .i64 1000) ∧ w'.cell? ⟨gb245, 1, none⟩ = some (.int .i64 1000) ∧ w'.cell? ⟨gb245, 2, none⟩ = some (.int .i64 5) ∧ w'.cell? ⟨gb245, 3, none⟩ = some (.int .i64 10) ∧ w'.cell? ⟨gb245, 4, none⟩ = some (.int .i64 900) ∧ w'.cell? ⟨gb245, 5, none⟩ = some (.int .i64 1012) ∧ w'.cell? ⟨gb245, 6, none⟩ = some (.bool false) ∧ w'.cell? ⟨gb253, 0, none⟩ = some (.int .i64 1004) ∧ w'.cell? ⟨gb253, 1, none⟩ = some (.int .i64 1005) ∧ w'.cell? ⟨gb253, 2, none⟩ = some (.int .i64 5) ∧ w'.cell? ⟨gb253, 3, none⟩ = some (.int .i64 10) ∧ w'.cell? ⟨gb253, 4, none⟩ = some (.int .i64 900) ∧ w'.cell? ⟨gb253, 5, none⟩ = some (.int .i64 1012) ∧ w'.cell? ⟨gb253, 6, none⟩ = some (.bool false) ∧ w'.cell? ⟨gb262, 0, none⟩ = some (.int .i64 1004) ∧ w'.cell? ⟨gb262, 1, none⟩ = some (.int .i64 1005) ∧ w'.cell? ⟨gb262, 2, none⟩ = some (.int .i64 5) ∧ w'.cell? ⟨gb262, 3, none⟩ = some (.int .i64 10) ∧ w'.cell? ⟨gb262, 4, none⟩ = some (.int .i64 900) ∧ w'.cell? ⟨gb262, 5, none⟩ = some (.int .i64 1012) ∧ w'.cell? ⟨gb262, 6, none⟩ = some (.bool false) ∧ w'.cell? ⟨gb261, 0, none⟩ = some (.int .i64 1008) ∧ w'.cell? ⟨gb261, 1, none⟩ = some (.int .i64 1010) ∧ w'.cell? ⟨gb261, 2, none⟩ = some (.int .i64 5) ∧ w'.cell? ⟨gb261, 3, none⟩ = some (.int .i64 10) ∧ w'.cell? ⟨gb261, 4, none⟩ = some (.int .i64 900) ∧ w'.cell? ⟨gb261, 5, none⟩ = some (.int .i64 1012) ∧ w'.cell? ⟨gb261, 6, none⟩ = some (.bool true) ∧ w'.cell? ⟨gb263, 0, none⟩ = some (.int .i64 1008) ∧ w'.cell? ⟨gb263, 1, none⟩ = some (.int .i64 1010) ∧ w'.cell? ⟨gb263, 2, none⟩ = some (.int .i64 5) ∧ w'.cell? ⟨gb263, 3, none⟩ = some (.int .i64 10) ∧ w'.cell? ⟨gb263, 4, none⟩ = some (.int .i64 900) ∧ w'.cell? ⟨gb263, 5, none⟩ = some (.int .i64 1012) ∧ w'.cell? ⟨gb263, 6, none⟩ = some (.bool true) ∧ w'.cell? ⟨gb264, 0, none⟩ = some (.int .i64 1000) ∧ w'.cell? ⟨gb264, 1, none⟩ = some (.int .i64 1000) ∧ w'.cell? ⟨gb264, 2, none⟩ = some (.int .i64 5) ∧ w'.cell? ⟨gb264, 3, none⟩ = some (.int .i64 10) ∧ w'.cell? ⟨gb264, 4, none⟩ = some (.int .i64 900) ∧ w'.cell? ⟨gb264, 5, none⟩ = some (.int .i64 1012) ∧ w'.cell? ⟨gb264, 6, none⟩ = some (.bool true)) (ds := []) #[false, false, false, false, false, false, false, false, false, false, false, false, false, false, false, false, false, false, false, false, false, false, false, false, false, false, false, false, false, false, false, false, false] (by kernel_rfl) rfl rfl ⟨bc BK245 0, bc BK245 1, bc BK245 2, bc BK245 3, bc BK245 4, bc BK245 5, bc BK245 6, bc BK253 0, bc BK253 1, bc BK253 2, bc BK253 3, bc BK253 4, bc BK253 5, bc BK253 6, bc BK262 0, bc BK262 1, bc BK262 2, bc BK262 3, bc BK262 4, bc BK262 5, bc BK262 6, bc BK261 0, bc BK261 1, bc BK261 2, bc BK261 3, bc BK261 4, bc BK261 5, bc BK261 6, bc BK263 0, bc BK263 1, bc BK263 2, bc BK263 3, bc BK263 4, bc BK263 5, bc BK263 6, bc BK264 0, bc BK264 1, bc BK264 2, bc BK264 3, bc BK264 4, bc BK264 5, bc BK264 6⟩ (fun hHeld => ?_); refine with_tabW wireloomlaw45_examples.tab11 wireloomlaw45_examples.bits11 (fun HT_ HW_ => ?_)
  generalize w68.drew = w69 at BK245 BK253 BK261 BK262 BK263 BK264 HB hHeld ⊢
  refine take_ (i := 0) (N := some 21) (v := ?_) (a' := ?_) #[true, false, false, false, false, false, false, false, false, false, false, false, false, false, false, false, false, false, false, false, false, false, false, false, false, false, false, false, false, false, false, false, false] rfl rfl (take_ofW HT_.out HW_.out (by kernel_rfl)) (fun _ _ _ h => h) (Or.inl ⟨by rfl, ?_⟩) hHeld ?_ ?_
  rotate_left
  · rintro w' ⟨s0, s1, s2, s3, s4, s5, s6, s7, s8, s9, s10, s11, s12, s13, s14, s15, s16, s17, s18, s19, s20, s21, s22, s23, s24, s25, s26, s27, s28, s29, s30, s31, s32, s33, s34, s35, s36, s37, s38, s39, s40, s41⟩
    go_simp
    with_reducible rfl
  rotate_left
  · simp only [Act.put, List.setIfInBounds_toArray, List.set_cons_zero, List.set_cons_succ, i64_w, i32_w]
    rfl
  refine take_ (i := 2) (N := some 23) (v := ?_) (a' := ?_) #[true, false, true, false, false, false, false, false, false, false, false, false, false, false, false, false, false, false, false, false, false, false, false, false, false, false, false, false, false, false, false, false, false] rfl rfl (take_ofW HT_.out HW_.out (by kernel_rfl)) (fun _ _ _ h => h) (Or.inl ⟨by rfl, ?_⟩) hHeld ?_ ?_
  rotate_left
  · rintro w' ⟨s0, s1, s2, s3, s4, s5, s6, s7, s8, s9, s10, s11, s12, s13, s14, s15, s16, s17, s18, s19, s20, s21, s22, s23, s24, s25, s26, s27, s28, s29, s30, s31, s32, s33, s34, s35, s36, s37, s38, s39, s40, s41⟩
    go_simp
    with_reducible rfl
  rotate_left
  · simp only [Act.put, List.setIfInBounds_toArray, List.set_cons_zero, List.set_cons_succ, i64_w, i32_w]
    rfl
  refine pure_ (i := 3) (N := some 24) (v := ?_) (a' := ?_) #[true, false, true, true, false, false, false, false, false, false, false, false, false, false, false, false, false, false, false, false, false, false, false, false, false, false, false, false, false, false, false, false, false] rfl rfl (any_of HT_.out (by kernel_rfl)) (fun _ _ _ h => h) (Or.inl ⟨by rfl, ?_⟩) ?_ ?_
  rotate_left
  · intro w'
    go_simp
    with_reducible rfl
  rotate_left
  · simp only [Act.put, List.setIfInBounds_toArray, List.set_cons_zero, List.set_cons_succ, i64_w, i32_w]
    rfl
  refine one_ (i := 1) (N := some 22) #[true, true, true, true, false, false, false, false, false, false, false, false, false, false, false, false, false, false, false, false, false, false, false, false, false, false, false, false, false, false, false, false, false] rfl rfl (one_of HT_.out (by kernel_rfl)) (by decide) (fun K hK => ?_)
  refine goes_ Try.func13 (by kernel_rfl) rfl #[.agg #[.int .i64 1000, .int .i64 1000, .int .i64 5, .int .i64 10, .int .i64 900, .int .i64 1012, .bool false]] (by rfl) rfl rfl (by (try simp only [List.map_toArray, List.map_cons, List.map_nil]); first | done | rfl | (simp only [List.length_drop, List.length_take]; rfl)) ?_
  with_reducible refine (wireloomlaw45_made.calls 1000 1000 5 10 900 1012 false 1000 1000 5 10 900 1012 false 0 _ A3.out).mono ?_
  rintro e w70 ⟨rfl, hb⟩
  refine ⟨_, rfl, ?_⟩
  have n0_ := bxb BK245 hb
  have n1_ := bxb BK253 hb
  have n2_ := bxb BK261 hb
  have n3_ := bxb BK262 hb
  have n4_ := bxb BK263 hb
  have n5_ := bxb BK264 hb
  have n6_ := Aside0.mk (below_step (bwt HB) hb)
  clear BK245
  clear BK253
  clear BK261
  clear BK262
  clear BK263
  clear BK264
  clear HB
  have BK245 := n0_
  have BK253 := n1_
  have BK261 := n2_
  have BK262 := n3_
  have BK263 := n4_
  have BK264 := n5_
  have HB := n6_
  clear n0_ n1_ n2_ n3_ n4_ n5_ n6_
  (try clear hb)
  (try clear hb2)
  (try clear hk)
  (try clear hi)
  refine hK.out _ _ ⟨bc BK245 0, bc BK245 1, bc BK245 2, bc BK245 3, bc BK245 4, bc BK245 5, bc BK245 6, bc BK253 0, bc BK253 1, bc BK253 2, bc BK253 3, bc BK253 4, bc BK253 5, bc BK253 6, bc BK262 0, bc BK262 1, bc BK262 2, bc BK262 3, bc BK262 4, bc BK262 5, bc BK262 6, bc BK261 0, bc BK261 1, bc BK261 2, bc BK261 3, bc BK261 4, bc BK261 5, bc BK261 6, bc BK263 0, bc BK263 1, bc BK263 2, bc BK263 3, bc BK263 4, bc BK263 5, bc BK263 6, bc BK264 0, bc BK264 1, bc BK264 2, bc BK264 3, bc BK264 4, bc BK264 5, bc BK264 6⟩ (fun hHeld => ?_)
  clear hK K
  refine norm_ (a' := ?_) ?_ ?_
  rotate_left
  · show Act.put _ (some 22) _ = _
    simp only [Act.put, List.setIfInBounds_toArray, List.set_cons_zero, List.set_cons_succ, i64_w, i32_w]
    rfl
  refine pure_ (i := 4) (N := some 25) (v := ?_) (a' := ?_) #[true, true, true, true, true, false, false, false, false, false, false, false, false, false, false, false, false, false, false, false, false, false, false, false, false, false, false, false, false, false, false, false, false] rfl rfl (any_of HT_.out (by kernel_rfl)) (fun _ _ _ h => h) (Or.inl ⟨by rfl, ?_⟩) ?_ ?_
  rotate_left
  · intro w'
    go_simp
    with_reducible rfl
  rotate_left
  · simp only [Act.put, List.setIfInBounds_toArray, List.set_cons_zero, List.set_cons_succ, i64_w, i32_w]
    rfl
  refine pure_ (i := 5) (N := some 26) (v := ?_) (a' := ?_) #[true, true, true, true, true, true, false, false, false, false, false, false, false, false, false, false, false, false, false, false, false, false, false, false, false, false, false, false, false, false, false, false, false] rfl rfl (any_of HT_.out (by kernel_rfl)) (fun _ _ _ h => h) (Or.inl ⟨by rfl, ?_⟩) ?_ ?_
  rotate_left
  · intro w'
    go_simp
    with_reducible rfl
  rotate_left
  · simp only [Act.put, List.setIfInBounds_toArray, List.set_cons_zero, List.set_cons_succ, i64_w, i32_w]
    rfl
  refine pure_ (i := 8) (N := some 29) (v := ?_) (a' := ?_) #[true, true, true, true, true, true, false, false, true, false, false, false, false, false, false, false, false, false, false, false, false, false, false, false, false, false, false, false, false, false, false, false, false] rfl rfl (any_of HT_.out (by kernel_rfl)) (fun _ _ _ h => h) (Or.inl ⟨by rfl, ?_⟩) ?_ ?_
  rotate_left
  · intro w'
    go_simp
    with_reducible rfl
  rotate_left
  · simp only [Act.put, List.setIfInBounds_toArray, List.set_cons_zero, List.set_cons_succ, i64_w, i32_w]
    rfl
  refine take_ (i := 6) (N := some 27) (v := ?_) (a' := ?_) #[true, true, true, true, true, true, true, false, true, false, false, false, false, false, false, false, false, false, false, false, false, false, false, false, false, false, false, false, false, false, false, false, false] rfl rfl (take_ofW HT_.out HW_.out (by kernel_rfl)) (fun _ _ _ h => h) (Or.inl ⟨by rfl, ?_⟩) hHeld ?_ ?_
  rotate_left
  · rintro w' ⟨s0, s1, s2, s3, s4, s5, s6, s7, s8, s9, s10, s11, s12, s13, s14, s15, s16, s17, s18, s19, s20, s21, s22, s23, s24, s25, s26, s27, s28, s29, s30, s31, s32, s33, s34, s35, s36, s37, s38, s39, s40, s41⟩
    go_simp
    with_reducible rfl
  rotate_left
  · simp only [Act.put, List.setIfInBounds_toArray, List.set_cons_zero, List.set_cons_succ, i64_w, i32_w]
    rfl
  refine one_ (i := 7) (N := some 28) #[true, true, true, true, true, true, true, true, true, false, false, false, false, false, false, false, false, false, false, false, false, false, false, false, false, false, false, false, false, false, false, false, false] rfl rfl (one_of HT_.out (by kernel_rfl)) (by decide) (fun K hK => ?_)
  refine goes_ Try.func17 (by kernel_rfl) rfl #[.agg #[.int .i64 1000, .int .i64 1000, .int .i64 5, .int .i64 10, .int .i64 900, .int .i64 1012, .bool false]] (by rfl) rfl rfl (by (try simp only [List.map_toArray, List.map_cons, List.map_nil]); first | done | rfl | (simp only [List.length_drop, List.length_take]; rfl)) ?_
  with_reducible refine (wireloomlaw45_outlook.calls 1000 1000 5 10 900 1012 false 995 1005 _ A4.out).mono ?_
  rintro e w71 ⟨rfl, hb⟩
  refine ⟨_, rfl, ?_⟩
  have n0_ := bxb BK245 hb
  have n1_ := bxb BK253 hb
  have n2_ := bxb BK261 hb
  have n3_ := bxb BK262 hb
  have n4_ := bxb BK263 hb
  have n5_ := bxb BK264 hb
  have n6_ := Aside0.mk (below_step (bwt HB) hb)
  clear BK245
  clear BK253
  clear BK261
  clear BK262
  clear BK263
  clear BK264
  clear HB
  have BK245 := n0_
  have BK253 := n1_
  have BK261 := n2_
  have BK262 := n3_
  have BK263 := n4_
  have BK264 := n5_
  have HB := n6_
  clear n0_ n1_ n2_ n3_ n4_ n5_ n6_
  (try clear hb)
  (try clear hb2)
  (try clear hk)
  (try clear hi)
  refine hK.out _ _ ⟨bc BK245 0, bc BK245 1, bc BK245 2, bc BK245 3, bc BK245 4, bc BK245 5, bc BK245 6, bc BK253 0, bc BK253 1, bc BK253 2, bc BK253 3, bc BK253 4, bc BK253 5, bc BK253 6, bc BK262 0, bc BK262 1, bc BK262 2, bc BK262 3, bc BK262 4, bc BK262 5, bc BK262 6, bc BK261 0, bc BK261 1, bc BK261 2, bc BK261 3, bc BK261 4, bc BK261 5, bc BK261 6, bc BK263 0, bc BK263 1, bc BK263 2, bc BK263 3, bc BK263 4, bc BK263 5, bc BK263 6, bc BK264 0, bc BK264 1, bc BK264 2, bc BK264 3, bc BK264 4, bc BK264 5, bc BK264 6⟩ (fun hHeld => ?_)
  clear hK K
  refine norm_ (a' := ?_) ?_ ?_
  rotate_left
  · show Act.put _ (some 28) _ = _
    simp only [Act.put, List.setIfInBounds_toArray, List.set_cons_zero, List.set_cons_succ, i64_w, i32_w]
    rfl
  refine pure_ (i := 9) (N := some 30) (v := ?_) (a' := ?_) #[true, true, true, true, true, true, true, true, true, true, false, false, false, false, false, false, false, false, false, false, false, false, false, false, false, false, false, false, false, false, false, false, false] rfl rfl (any_of HT_.out (by kernel_rfl)) (fun _ _ _ h => h) (Or.inl ⟨by rfl, ?_⟩) ?_ ?_
  rotate_left
  · intro w'
    go_simp
    with_reducible rfl
  rotate_left
  · simp only [Act.put, List.setIfInBounds_toArray, List.set_cons_zero, List.set_cons_succ, i64_w, i32_w]
    rfl
  refine pure_ (i := 10) (N := some 31) (v := ?_) (a' := ?_) #[true, true, true, true, true, true, true, true, true, true, true, false, false, false, false, false, false, false, false, false, false, false, false, false, false, false, false, false, false, false, false, false, false] rfl rfl (any_of HT_.out (by kernel_rfl)) (fun _ _ _ h => h) (Or.inl ⟨by rfl, ?_⟩) ?_ ?_
  rotate_left
  · intro w'
    go_simp
    with_reducible rfl
  rotate_left
  · simp only [Act.put, List.setIfInBounds_toArray, List.set_cons_zero, List.set_cons_succ, i64_w, i32_w]
    rfl
  refine pure_ (i := 11) (N := some 32) (v := ?_) (a' := ?_) #[true, true, true, true, true, true, true, true, true, true, true, true, false, false, false, false, false, false, false, false, false, false, false, false, false, false, false, false, false, false, false, false, false] rfl rfl (any_of HT_.out (by kernel_rfl)) (fun _ _ _ h => h) (Or.inl ⟨by rfl, ?_⟩) ?_ ?_
  rotate_left
  · intro w'
    go_simp
    with_reducible rfl
  rotate_left
  · simp only [Act.put, List.setIfInBounds_toArray, List.set_cons_zero, List.set_cons_succ, i64_w, i32_w]
    rfl
  refine take_ (i := 12) (N := some 33) (v := ?_) (a' := ?_) #[true, true, true, true, true, true, true, true, true, true, true, true, true, false, false, false, false, false, false, false, false, false, false, false, false, false, false, false, false, false, false, false, false] rfl rfl (take_ofW HT_.out HW_.out (by kernel_rfl)) (fun _ _ _ h => h) (Or.inl ⟨by rfl, ?_⟩) hHeld ?_ ?_
  rotate_left
  · rintro w' ⟨s0, s1, s2, s3, s4, s5, s6, s7, s8, s9, s10, s11, s12, s13, s14, s15, s16, s17, s18, s19, s20, s21, s22, s23, s24, s25, s26, s27, s28, s29, s30, s31, s32, s33, s34, s35, s36, s37, s38, s39, s40, s41⟩
    go_simp
    with_reducible rfl
  rotate_left
  · simp only [Act.put, List.setIfInBounds_toArray, List.set_cons_zero, List.set_cons_succ, i64_w, i32_w]
    rfl
  refine take_ (i := 13) (N := some 34) (v := ?_) (a' := ?_) #[true, true, true, true, true, true, true, true, true, true, true, true, true, true, false, false, false, false, false, false, false, false, false, false, false, false, false, false, false, false, false, false, false] rfl rfl (take_ofW HT_.out HW_.out (by kernel_rfl)) (fun _ _ _ h => h) (Or.inl ⟨by rfl, ?_⟩) hHeld ?_ ?_
  rotate_left
  · rintro w' ⟨s0, s1, s2, s3, s4, s5, s6, s7, s8, s9, s10, s11, s12, s13, s14, s15, s16, s17, s18, s19, s20, s21, s22, s23, s24, s25, s26, s27, s28, s29, s30, s31, s32, s33, s34, s35, s36, s37, s38, s39, s40, s41⟩
    go_simp
    with_reducible rfl
  rotate_left
  · simp only [Act.put, List.setIfInBounds_toArray, List.set_cons_zero, List.set_cons_succ, i64_w, i32_w]
    rfl
  refine pure_ (i := 14) (N := some 35) (v := ?_) (a' := ?_) #[true, true, true, true, true, true, true, true, true, true, true, true, true, true, true, false, false, false, false, false, false, false, false, false, false, false, false, false, false, false, false, false, false] rfl rfl (any_of HT_.out (by kernel_rfl)) (fun _ _ _ h => h) (Or.inl ⟨by rfl, ?_⟩) ?_ ?_
  rotate_left
  · intro w'
    go_simp
    with_reducible rfl
  rotate_left
  · simp only [Act.put, List.setIfInBounds_toArray, List.set_cons_zero, List.set_cons_succ, i64_w, i32_w]
    rfl
  refine pure_ (i := 15) (N := some 36) (v := ?_) (a' := ?_) #[true, true, true, true, true, true, true, true, true, true, true, true, true, true, true, true, false, false, false, false, false, false, false, false, false, false, false, false, false, false, false, false, false] rfl rfl (any_of HT_.out (by kernel_rfl)) (fun _ _ _ h => h) (Or.inl ⟨by rfl, ?_⟩) ?_ ?_
  rotate_left
  · intro w'
    go_simp
    with_reducible rfl
  rotate_left
  · simp only [Act.put, List.setIfInBounds_toArray, List.set_cons_zero, List.set_cons_succ, i64_w, i32_w]
    rfl
  refine pure_ (i := 16) (N := some 37) (v := ?_) (a' := ?_) #[true, true, true, true, true, true, true, true, true, true, true, true, true, true, true, true, true, false, false, false, false, false, false, false, false, false, false, false, false, false, false, false, false] rfl rfl (any_of HT_.out (by kernel_rfl)) (fun _ _ _ h => h) (Or.inl ⟨by rfl, ?_⟩) ?_ ?_
  rotate_left
  · intro w'
    go_simp
    with_reducible rfl
  rotate_left
  · simp only [Act.put, List.setIfInBounds_toArray, List.set_cons_zero, List.set_cons_succ, i64_w, i32_w]
    rfl
  refine pure_ (i := 19) (N := some 40) (v := ?_) (a' := ?_) #[true, true, true, true, true, true, true, true, true, true, true, true, true, true, true, true, true, false, false, true, false, false, false, false, false, false, false, false, false, false, false, false, false] rfl rfl (any_of HT_.out (by kernel_rfl)) (fun _ _ _ h => h) (Or.inl ⟨by rfl, ?_⟩) ?_ ?_
  rotate_left
  · intro w'
    go_simp
    with_reducible rfl
  rotate_left
  · simp only [Act.put, List.setIfInBounds_toArray, List.set_cons_zero, List.set_cons_succ, i64_w, i32_w]
    rfl
  refine take_ (i := 17) (N := some 38) (v := ?_) (a' := ?_) #[true, true, true, true, true, true, true, true, true, true, true, true, true, true, true, true, true, true, false, true, false, false, false, false, false, false, false, false, false, false, false, false, false] rfl rfl (take_ofW HT_.out HW_.out (by kernel_rfl)) (fun _ _ _ h => h) (Or.inl ⟨by rfl, ?_⟩) hHeld ?_ ?_
  rotate_left
  · rintro w' ⟨s0, s1, s2, s3, s4, s5, s6, s7, s8, s9, s10, s11, s12, s13, s14, s15, s16, s17, s18, s19, s20, s21, s22, s23, s24, s25, s26, s27, s28, s29, s30, s31, s32, s33, s34, s35, s36, s37, s38, s39, s40, s41⟩
    go_simp
    with_reducible rfl
  rotate_left
  · simp only [Act.put, List.setIfInBounds_toArray, List.set_cons_zero, List.set_cons_succ, i64_w, i32_w]
    rfl
  refine one_ (i := 18) (N := some 39) #[true, true, true, true, true, true, true, true, true, true, true, true, true, true, true, true, true, true, true, true, false, false, false, false, false, false, false, false, false, false, false, false, false] rfl rfl (one_of HT_.out (by kernel_rfl)) (by decide) (fun K hK => ?_)
  refine goes_ Try.func17 (by kernel_rfl) rfl #[.agg #[.int .i64 1004, .int .i64 1005, .int .i64 5, .int .i64 10, .int .i64 900, .int .i64 1012, .bool false]] (by rfl) rfl rfl (by (try simp only [List.map_toArray, List.map_cons, List.map_nil]); first | done | rfl | (simp only [List.length_drop, List.length_take]; rfl)) ?_
  with_reducible refine (wireloomlaw45_outlook.calls 1004 1005 5 10 900 1012 false 999 1010 _ A5.out).mono ?_
  rintro e w72 ⟨rfl, hb⟩
  refine ⟨_, rfl, ?_⟩
  have n0_ := bxb BK245 hb
  have n1_ := bxb BK253 hb
  have n2_ := bxb BK261 hb
  have n3_ := bxb BK262 hb
  have n4_ := bxb BK263 hb
  have n5_ := bxb BK264 hb
  have n6_ := Aside0.mk (below_step (bwt HB) hb)
  clear BK245
  clear BK253
  clear BK261
  clear BK262
  clear BK263
  clear BK264
  clear HB
  have BK245 := n0_
  have BK253 := n1_
  have BK261 := n2_
  have BK262 := n3_
  have BK263 := n4_
  have BK264 := n5_
  have HB := n6_
  clear n0_ n1_ n2_ n3_ n4_ n5_ n6_
  (try clear hb)
  (try clear hb2)
  (try clear hk)
  (try clear hi)
  refine hK.out _ _ ⟨bc BK245 0, bc BK245 1, bc BK245 2, bc BK245 3, bc BK245 4, bc BK245 5, bc BK245 6, bc BK253 0, bc BK253 1, bc BK253 2, bc BK253 3, bc BK253 4, bc BK253 5, bc BK253 6, bc BK262 0, bc BK262 1, bc BK262 2, bc BK262 3, bc BK262 4, bc BK262 5, bc BK262 6, bc BK261 0, bc BK261 1, bc BK261 2, bc BK261 3, bc BK261 4, bc BK261 5, bc BK261 6, bc BK263 0, bc BK263 1, bc BK263 2, bc BK263 3, bc BK263 4, bc BK263 5, bc BK263 6, bc BK264 0, bc BK264 1, bc BK264 2, bc BK264 3, bc BK264 4, bc BK264 5, bc BK264 6⟩ (fun hHeld => ?_)
  clear hK K
  refine norm_ (a' := ?_) ?_ ?_
  rotate_left
  · show Act.put _ (some 39) _ = _
    simp only [Act.put, List.setIfInBounds_toArray, List.set_cons_zero, List.set_cons_succ, i64_w, i32_w]
    rfl
  refine pure_ (i := 20) (N := some 41) (v := ?_) (a' := ?_) #[true, true, true, true, true, true, true, true, true, true, true, true, true, true, true, true, true, true, true, true, true, false, false, false, false, false, false, false, false, false, false, false, false] rfl rfl (any_of HT_.out (by kernel_rfl)) (fun _ _ _ h => h) (Or.inl ⟨by rfl, ?_⟩) ?_ ?_
  rotate_left
  · intro w'
    go_simp
    with_reducible rfl
  rotate_left
  · simp only [Act.put, List.setIfInBounds_toArray, List.set_cons_zero, List.set_cons_succ, i64_w, i32_w]
    rfl
  refine pure_ (i := 21) (N := some 42) (v := ?_) (a' := ?_) #[true, true, true, true, true, true, true, true, true, true, true, true, true, true, true, true, true, true, true, true, true, true, false, false, false, false, false, false, false, false, false, false, false] rfl rfl (any_of HT_.out (by kernel_rfl)) (fun _ _ _ h => h) (Or.inl ⟨by rfl, ?_⟩) ?_ ?_
  rotate_left
  · intro w'
    go_simp
    with_reducible rfl
  rotate_left
  · simp only [Act.put, List.setIfInBounds_toArray, List.set_cons_zero, List.set_cons_succ, i64_w, i32_w]
    rfl
  refine pure_ (i := 22) (N := some 43) (v := ?_) (a' := ?_) #[true, true, true, true, true, true, true, true, true, true, true, true, true, true, true, true, true, true, true, true, true, true, true, false, false, false, false, false, false, false, false, false, false] rfl rfl (any_of HT_.out (by kernel_rfl)) (fun _ _ _ h => h) (Or.inl ⟨by rfl, ?_⟩) ?_ ?_
  rotate_left
  · intro w'
    go_simp
    with_reducible rfl
  rotate_left
  · simp only [Act.put, List.setIfInBounds_toArray, List.set_cons_zero, List.set_cons_succ, i64_w, i32_w]
    rfl
  refine take_ (i := 23) (N := some 44) (v := ?_) (a' := ?_) #[true, true, true, true, true, true, true, true, true, true, true, true, true, true, true, true, true, true, true, true, true, true, true, true, false, false, false, false, false, false, false, false, false] rfl rfl (take_ofW HT_.out HW_.out (by kernel_rfl)) (fun _ _ _ h => h) (Or.inl ⟨by rfl, ?_⟩) hHeld ?_ ?_
  rotate_left
  · rintro w' ⟨s0, s1, s2, s3, s4, s5, s6, s7, s8, s9, s10, s11, s12, s13, s14, s15, s16, s17, s18, s19, s20, s21, s22, s23, s24, s25, s26, s27, s28, s29, s30, s31, s32, s33, s34, s35, s36, s37, s38, s39, s40, s41⟩
    go_simp
    with_reducible rfl
  rotate_left
  · simp only [Act.put, List.setIfInBounds_toArray, List.set_cons_zero, List.set_cons_succ, i64_w, i32_w]
    rfl
  refine take_ (i := 24) (N := some 45) (v := ?_) (a' := ?_) #[true, true, true, true, true, true, true, true, true, true, true, true, true, true, true, true, true, true, true, true, true, true, true, true, true, false, false, false, false, false, false, false, false] rfl rfl (take_ofW HT_.out HW_.out (by kernel_rfl)) (fun _ _ _ h => h) (Or.inl ⟨by rfl, ?_⟩) hHeld ?_ ?_
  rotate_left
  · rintro w' ⟨s0, s1, s2, s3, s4, s5, s6, s7, s8, s9, s10, s11, s12, s13, s14, s15, s16, s17, s18, s19, s20, s21, s22, s23, s24, s25, s26, s27, s28, s29, s30, s31, s32, s33, s34, s35, s36, s37, s38, s39, s40, s41⟩
    go_simp
    with_reducible rfl
  rotate_left
  · simp only [Act.put, List.setIfInBounds_toArray, List.set_cons_zero, List.set_cons_succ, i64_w, i32_w]
    rfl
  refine pure_ (i := 25) (N := some 46) (v := ?_) (a' := ?_) #[true, true, true, true, true, true, true, true, true, true, true, true, true, true, true, true, true, true, true, true, true, true, true, true, true, true, false, false, false, false, false, false, false] rfl rfl (any_of HT_.out (by kernel_rfl)) (fun _ _ _ h => h) (Or.inl ⟨by rfl, ?_⟩) ?_ ?_
  rotate_left
  · intro w'
    go_simp
    with_reducible rfl
  rotate_left
  · simp only [Act.put, List.setIfInBounds_toArray, List.set_cons_zero, List.set_cons_succ, i64_w, i32_w]
    rfl
  refine pure_ (i := 26) (N := some 47) (v := ?_) (a' := ?_) #[true, true, true, true, true, true, true, true, true, true, true, true, true, true, true, true, true, true, true, true, true, true, true, true, true, true, true, false, false, false, false, false, false] rfl rfl (any_of HT_.out (by kernel_rfl)) (fun _ _ _ h => h) (Or.inl ⟨by rfl, ?_⟩) ?_ ?_
  rotate_left
  · intro w'
    go_simp
    with_reducible rfl
  rotate_left
  · simp only [Act.put, List.setIfInBounds_toArray, List.set_cons_zero, List.set_cons_succ, i64_w, i32_w]
    rfl
  refine pure_ (i := 27) (N := some 48) (v := ?_) (a' := ?_) #[true, true, true, true, true, true, true, true, true, true, true, true, true, true, true, true, true, true, true, true, true, true, true, true, true, true, true, true, false, false, false, false, false] rfl rfl (any_of HT_.out (by kernel_rfl)) (fun _ _ _ h => h) (Or.inl ⟨by rfl, ?_⟩) ?_ ?_
  rotate_left
  · intro w'
    go_simp
    with_reducible rfl
  rotate_left
  · simp only [Act.put, List.setIfInBounds_toArray, List.set_cons_zero, List.set_cons_succ, i64_w, i32_w]
    rfl
  refine take_ (i := 28) (N := some 49) (v := ?_) (a' := ?_) #[true, true, true, true, true, true, true, true, true, true, true, true, true, true, true, true, true, true, true, true, true, true, true, true, true, true, true, true, true, false, false, false, false] rfl rfl (take_ofW HT_.out HW_.out (by kernel_rfl)) (fun _ _ _ h => h) (Or.inl ⟨by rfl, ?_⟩) hHeld ?_ ?_
  rotate_left
  · rintro w' ⟨s0, s1, s2, s3, s4, s5, s6, s7, s8, s9, s10, s11, s12, s13, s14, s15, s16, s17, s18, s19, s20, s21, s22, s23, s24, s25, s26, s27, s28, s29, s30, s31, s32, s33, s34, s35, s36, s37, s38, s39, s40, s41⟩
    go_simp
    with_reducible rfl
  rotate_left
  · simp only [Act.put, List.setIfInBounds_toArray, List.set_cons_zero, List.set_cons_succ, i64_w, i32_w]
    rfl
  refine take_ (i := 30) (N := some 51) (v := ?_) (a' := ?_) #[true, true, true, true, true, true, true, true, true, true, true, true, true, true, true, true, true, true, true, true, true, true, true, true, true, true, true, true, true, false, true, false, false] rfl rfl (take_ofW HT_.out HW_.out (by kernel_rfl)) (fun _ _ _ h => h) (Or.inl ⟨by rfl, ?_⟩) hHeld ?_ ?_
  rotate_left
  · rintro w' ⟨s0, s1, s2, s3, s4, s5, s6, s7, s8, s9, s10, s11, s12, s13, s14, s15, s16, s17, s18, s19, s20, s21, s22, s23, s24, s25, s26, s27, s28, s29, s30, s31, s32, s33, s34, s35, s36, s37, s38, s39, s40, s41⟩
    go_simp
    with_reducible rfl
  rotate_left
  · simp only [Act.put, List.setIfInBounds_toArray, List.set_cons_zero, List.set_cons_succ, i64_w, i32_w]
    rfl
  refine one_ (i := 29) (N := some 50) #[true, true, true, true, true, true, true, true, true, true, true, true, true, true, true, true, true, true, true, true, true, true, true, true, true, true, true, true, true, true, true, false, false] rfl rfl (one_of HT_.out (by kernel_rfl)) (by decide) (fun K hK => ?_)
  refine goes_ Try.func21 (by kernel_rfl) rfl #[.agg #[.int .i64 1000, .int .i64 1000, .int .i64 5, .int .i64 10, .int .i64 900, .int .i64 1012, .bool false], .int .i64 1040] (by rfl) rfl rfl (by (try simp only [List.map_toArray, List.map_cons, List.map_nil]); first | done | rfl | (simp only [List.length_drop, List.length_take]; rfl)) ?_
  with_reducible refine (monitor_See.calls 1000 1000 5 10 900 1012 false 1040 1000 1000 5 10 900 1012 true _ A6.out).mono ?_
  rintro e w73 ⟨rfl, hb⟩
  refine ⟨_, rfl, ?_⟩
  have n0_ := bxb BK245 hb
  have n1_ := bxb BK253 hb
  have n2_ := bxb BK261 hb
  have n3_ := bxb BK262 hb
  have n4_ := bxb BK263 hb
  have n5_ := bxb BK264 hb
  have n6_ := Aside0.mk (below_step (bwt HB) hb)
  clear BK245
  clear BK253
  clear BK261
  clear BK262
  clear BK263
  clear BK264
  clear HB
  have BK245 := n0_
  have BK253 := n1_
  have BK261 := n2_
  have BK262 := n3_
  have BK263 := n4_
  have BK264 := n5_
  have HB := n6_
  clear n0_ n1_ n2_ n3_ n4_ n5_ n6_
  (try clear hb)
  (try clear hb2)
  (try clear hk)
  (try clear hi)
  refine hK.out _ _ ⟨bc BK245 0, bc BK245 1, bc BK245 2, bc BK245 3, bc BK245 4, bc BK245 5, bc BK245 6, bc BK253 0, bc BK253 1, bc BK253 2, bc BK253 3, bc BK253 4, bc BK253 5, bc BK253 6, bc BK262 0, bc BK262 1, bc BK262 2, bc BK262 3, bc BK262 4, bc BK262 5, bc BK262 6, bc BK261 0, bc BK261 1, bc BK261 2, bc BK261 3, bc BK261 4, bc BK261 5, bc BK261 6, bc BK263 0, bc BK263 1, bc BK263 2, bc BK263 3, bc BK263 4, bc BK263 5, bc BK263 6, bc BK264 0, bc BK264 1, bc BK264 2, bc BK264 3, bc BK264 4, bc BK264 5, bc BK264 6⟩ (fun hHeld => ?_)
  clear hK K
  refine norm_ (a' := ?_) ?_ ?_
  rotate_left
  · show Act.put _ (some 50) _ = _
    simp only [Act.put, List.setIfInBounds_toArray, List.set_cons_zero, List.set_cons_succ, i64_w, i32_w]
    rfl
  refine pure_ (i := 31) (N := some 52) (v := ?_) (a' := ?_) #[true, true, true, true, true, true, true, true, true, true, true, true, true, true, true, true, true, true, true, true, true, true, true, true, true, true, true, true, true, true, true, true, false] rfl rfl (any_of HT_.out (by kernel_rfl)) (fun _ _ _ h => h) (Or.inl ⟨by rfl, ?_⟩) ?_ ?_
  rotate_left
  · intro w'
    go_simp
    with_reducible rfl
  rotate_left
  · simp only [Act.put, List.setIfInBounds_toArray, List.set_cons_zero, List.set_cons_succ, i64_w, i32_w]
    rfl
  refine pure_ (i := 32) (N := some 53) (v := ?_) (a' := ?_) #[true, true, true, true, true, true, true, true, true, true, true, true, true, true, true, true, true, true, true, true, true, true, true, true, true, true, true, true, true, true, true, true, true] rfl rfl (any_of HT_.out (by kernel_rfl)) (fun _ _ _ h => h) (Or.inl ⟨by rfl, ?_⟩) ?_ ?_
  rotate_left
  · intro w'
    go_simp
    with_reducible rfl
  rotate_left
  · simp only [Act.put, List.setIfInBounds_toArray, List.set_cons_zero, List.set_cons_succ, i64_w, i32_w]
    rfl
  refine done_ (done_of HT_.out (by kernel_rfl)) ?_
  try go_wp2
  have n0_ := Aside0.mk (blk_drew BK245.out)
  have n1_ := Aside0.mk (blk_drew BK253.out)
  have n2_ := Aside0.mk (blk_drew BK261.out)
  have n3_ := Aside0.mk (blk_drew BK262.out)
  have n4_ := Aside0.mk (blk_drew BK263.out)
  have n5_ := Aside0.mk (blk_drew BK264.out)
  have n6_ := Aside0.mk (below_drew1 HB.out)
  clear BK245
  clear BK253
  clear BK261
  clear BK262
  clear BK263
  clear BK264
  clear HB
  have BK245 := n0_
  have BK253 := n1_
  have BK261 := n2_
  have BK262 := n3_
  have BK263 := n4_
  have BK264 := n5_
  have HB := n6_
  clear n0_ n1_ n2_ n3_ n4_ n5_ n6_
  refine start_ (n := 39) (S := fun w' => w'.cell? ⟨gb245, 0, none⟩ = some (.int .i64 1000) ∧ w'.cell? ⟨gb245, 1, none⟩ = some (.int .i64 1000) ∧ w'.cell? ⟨gb245, 2, none⟩ = some (.int .i64 5) ∧ w'.cell? ⟨gb245, 3, none⟩ = some (.int .i64 10) ∧ w'.cell? ⟨gb245, 4, none⟩ = some (.int .i64 900) ∧ w'.cell? ⟨gb245, 5, none⟩ = some (.int .i64 1012) ∧ w'.cell? ⟨gb245, 6, none⟩ = some (.bool false) ∧ w'.cell? ⟨gb264, 0, none⟩ = some (.int .i64 1000) ∧ w'.cell? ⟨gb264, 1, none⟩ = some (.int .i64 1000) ∧ w'.cell? ⟨gb264, 2, none⟩ = some (.int .i64 5) ∧ w'.cell? ⟨gb264, 3, none⟩ = some (.int .i64 10) ∧ w'.cell? ⟨gb264, 4, none⟩ = some (.int .i64 900) ∧ w'.cell? ⟨gb264, 5, none⟩ = some (.int .i64 1012) ∧ w'.cell? ⟨gb264, 6, none⟩ = some (.bool true)) (ds := []) #[false, false, false, false, false, false, false, false, false, false, false, false, false, false, false, false, false, false, false, false, false, false, false, false, false, false, false, false, false, false, false, false, false, false, false, false, false, false, false] (by kernel_rfl) rfl rfl ⟨bc BK245 0, bc BK245 1, bc BK245 2, bc BK245 3, bc BK245 4, bc BK245 5, bc BK245 6, bc BK264 0, bc BK264 1, bc BK264 2, bc BK264 3, bc BK264 4, bc BK264 5, bc BK264 6⟩ (fun hHeld => ?_); refine with_tabW wireloomlaw45_examples.tab13 wireloomlaw45_examples.bits13 (fun HT_ HW_ => ?_)
  generalize w73.drew = w74 at BK245 BK253 BK261 BK262 BK263 BK264 HB hHeld ⊢
  refine take_ (i := 0) (N := some 54) (v := ?_) (a' := ?_) #[true, false, false, false, false, false, false, false, false, false, false, false, false, false, false, false, false, false, false, false, false, false, false, false, false, false, false, false, false, false, false, false, false, false, false, false, false, false, false] rfl rfl (take_ofW HT_.out HW_.out (by kernel_rfl)) (fun _ _ _ h => h) (Or.inl ⟨by rfl, ?_⟩) hHeld ?_ ?_
  rotate_left
  · rintro w' ⟨s0, s1, s2, s3, s4, s5, s6, s7, s8, s9, s10, s11, s12, s13⟩
    go_simp
    with_reducible rfl
  rotate_left
  · simp only [Act.put, List.setIfInBounds_toArray, List.set_cons_zero, List.set_cons_succ, i64_w, i32_w]
    rfl
  refine one_ (i := 1) (N := some 55) #[true, true, false, false, false, false, false, false, false, false, false, false, false, false, false, false, false, false, false, false, false, false, false, false, false, false, false, false, false, false, false, false, false, false, false, false, false, false, false] rfl rfl (one_of HT_.out (by kernel_rfl)) (by decide) (fun K hK => ?_)
  refine goes_ Try.func11 (by kernel_rfl) rfl #[.agg #[.int .i64 1000, .int .i64 1000, .int .i64 5, .int .i64 10, .int .i64 900, .int .i64 1012, .bool false]] (by rfl) rfl rfl (by (try simp only [List.map_toArray, List.map_cons, List.map_nil]); first | done | rfl | (simp only [List.length_drop, List.length_take]; rfl)) ?_
  with_reducible refine (monitor_Valid.calls 1000 1000 5 10 900 1012 false true _ A7.out).mono ?_
  rintro e w75 ⟨rfl, hb⟩
  refine ⟨_, rfl, ?_⟩
  have n0_ := bxb BK245 hb
  have n1_ := bxb BK253 hb
  have n2_ := bxb BK261 hb
  have n3_ := bxb BK262 hb
  have n4_ := bxb BK263 hb
  have n5_ := bxb BK264 hb
  have n6_ := Aside0.mk (below_step (bwt HB) hb)
  clear BK245
  clear BK253
  clear BK261
  clear BK262
  clear BK263
  clear BK264
  clear HB
  have BK245 := n0_
  have BK253 := n1_
  have BK261 := n2_
  have BK262 := n3_
  have BK263 := n4_
  have BK264 := n5_
  have HB := n6_
  clear n0_ n1_ n2_ n3_ n4_ n5_ n6_
  (try clear hb)
  (try clear hb2)
  (try clear hk)
  (try clear hi)
  refine hK.out _ _ ⟨bc BK245 0, bc BK245 1, bc BK245 2, bc BK245 3, bc BK245 4, bc BK245 5, bc BK245 6, bc BK264 0, bc BK264 1, bc BK264 2, bc BK264 3, bc BK264 4, bc BK264 5, bc BK264 6⟩ (fun hHeld => ?_)
  clear hK K
  refine norm_ (a' := ?_) ?_ ?_
  rotate_left
  · show Act.put _ (some 55) _ = _
    simp only [Act.put, List.setIfInBounds_toArray, List.set_cons_zero, List.set_cons_succ, i64_w, i32_w]
    rfl
  refine pure_ (i := 2) (N := some 56) (v := ?_) (a' := ?_) #[true, true, true, false, false, false, false, false, false, false, false, false, false, false, false, false, false, false, false, false, false, false, false, false, false, false, false, false, false, false, false, false, false, false, false, false, false, false, false] rfl rfl (any_of HT_.out (by kernel_rfl)) (fun _ _ _ h => h) (Or.inl ⟨by rfl, ?_⟩) ?_ ?_
  rotate_left
  · intro w'
    go_simp
    with_reducible rfl
  rotate_left
  · simp only [Act.put, List.setIfInBounds_toArray, List.set_cons_zero, List.set_cons_succ, i64_w, i32_w]
    rfl
  refine take_ (i := 3) (N := some 57) (v := ?_) (a' := ?_) #[true, true, true, true, false, false, false, false, false, false, false, false, false, false, false, false, false, false, false, false, false, false, false, false, false, false, false, false, false, false, false, false, false, false, false, false, false, false, false] rfl rfl (take_ofW HT_.out HW_.out (by kernel_rfl)) (fun _ _ _ h => h) (Or.inl ⟨by rfl, ?_⟩) hHeld ?_ ?_
  rotate_left
  · rintro w' ⟨s0, s1, s2, s3, s4, s5, s6, s7, s8, s9, s10, s11, s12, s13⟩
    go_simp
    with_reducible rfl
  rotate_left
  · simp only [Act.put, List.setIfInBounds_toArray, List.set_cons_zero, List.set_cons_succ, i64_w, i32_w]
    rfl
  refine one_ (i := 4) (N := some 58) #[true, true, true, true, true, false, false, false, false, false, false, false, false, false, false, false, false, false, false, false, false, false, false, false, false, false, false, false, false, false, false, false, false, false, false, false, false, false, false] rfl rfl (one_of HT_.out (by kernel_rfl)) (by decide) (fun K hK => ?_)
  refine goes_ Try.func11 (by kernel_rfl) rfl #[.agg #[.int .i64 1000, .int .i64 1000, .int .i64 5, .int .i64 10, .int .i64 900, .int .i64 1012, .bool true]] (by rfl) rfl rfl (by (try simp only [List.map_toArray, List.map_cons, List.map_nil]); first | done | rfl | (simp only [List.length_drop, List.length_take]; rfl)) ?_
  with_reducible refine (monitor_Valid.calls 1000 1000 5 10 900 1012 true true _ A8.out).mono ?_
  rintro e w76 ⟨rfl, hb⟩
  refine ⟨_, rfl, ?_⟩
  have n0_ := bxb BK245 hb
  have n1_ := bxb BK253 hb
  have n2_ := bxb BK261 hb
  have n3_ := bxb BK262 hb
  have n4_ := bxb BK263 hb
  have n5_ := bxb BK264 hb
  have n6_ := Aside0.mk (below_step (bwt HB) hb)
  clear BK245
  clear BK253
  clear BK261
  clear BK262
  clear BK263
  clear BK264
  clear HB
  have BK245 := n0_
  have BK253 := n1_
  have BK261 := n2_
  have BK262 := n3_
  have BK263 := n4_
  have BK264 := n5_
  have HB := n6_
  clear n0_ n1_ n2_ n3_ n4_ n5_ n6_
  (try clear hb)
  (try clear hb2)
  (try clear hk)
  (try clear hi)
  refine hK.out _ _ ⟨bc BK245 0, bc BK245 1, bc BK245 2, bc BK245 3, bc BK245 4, bc BK245 5, bc BK245 6, bc BK264 0, bc BK264 1, bc BK264 2, bc BK264 3, bc BK264 4, bc BK264 5, bc BK264 6⟩ (fun hHeld => ?_)
  clear hK K
  refine norm_ (a' := ?_) ?_ ?_
  rotate_left
  · show Act.put _ (some 58) _ = _
    simp only [Act.put, List.setIfInBounds_toArray, List.set_cons_zero, List.set_cons_succ, i64_w, i32_w]
    rfl
  refine pure_ (i := 5) (N := some 59) (v := ?_) (a' := ?_) #[true, true, true, true, true, true, false, false, false, false, false, false, false, false, false, false, false, false, false, false, false, false, false, false, false, false, false, false, false, false, false, false, false, false, false, false, false, false, false] rfl rfl (any_of HT_.out (by kernel_rfl)) (fun _ _ _ h => h) (Or.inl ⟨by rfl, ?_⟩) ?_ ?_
  rotate_left
  · intro w'
    go_simp
    with_reducible rfl
  rotate_left
  · simp only [Act.put, List.setIfInBounds_toArray, List.set_cons_zero, List.set_cons_succ, i64_w, i32_w]
    rfl
  refine pure_ (i := 6) (N := some 60) (v := ?_) (a' := ?_) #[true, true, true, true, true, true, true, false, false, false, false, false, false, false, false, false, false, false, false, false, false, false, false, false, false, false, false, false, false, false, false, false, false, false, false, false, false, false, false] rfl rfl (any_of HT_.out (by kernel_rfl)) (fun _ _ _ h => h) (Or.inl ⟨by rfl, ?_⟩) ?_ ?_
  rotate_left
  · intro w'
    go_simp
    with_reducible rfl
  rotate_left
  · simp only [Act.put, List.setIfInBounds_toArray, List.set_cons_zero, List.set_cons_succ, i64_w, i32_w]
    rfl
  refine pure_ (i := 7) (N := some 61) (v := ?_) (a' := ?_) #[true, true, true, true, true, true, true, true, false, false, false, false, false, false, false, false, false, false, false, false, false, false, false, false, false, false, false, false, false, false, false, false, false, false, false, false, false, false, false] rfl rfl (any_of HT_.out (by kernel_rfl)) (fun _ _ _ h => h) (Or.inl ⟨by rfl, ?_⟩) ?_ ?_
  rotate_left
  · intro w'
    go_simp
    with_reducible rfl
  rotate_left
  · simp only [Act.put, List.setIfInBounds_toArray, List.set_cons_zero, List.set_cons_succ, i64_w, i32_w]
    rfl
  refine one_ (i := 8) (N := some 62) #[true, true, true, true, true, true, true, true, true, false, false, false, false, false, false, false, false, false, false, false, false, false, false, false, false, false, false, false, false, false, false, false, false, false, false, false, false, false, false] rfl rfl (one_of HT_.out (by kernel_rfl)) (by decide) (fun K hK => ?_)
  refine goes_ Try.func11 (by kernel_rfl) rfl #[.agg #[.int .i64 0, .int .i64 0, .int .i64 0, .int .i64 0, .int .i64 0, .int .i64 0, .bool false]] (by rfl) rfl rfl (by (try simp only [List.map_toArray, List.map_cons, List.map_nil]); first | done | rfl | (simp only [List.length_drop, List.length_take]; rfl)) ?_
  with_reducible refine (monitor_Valid.calls 0 0 0 0 0 0 false false _ A9.out).mono ?_
  rintro e w77 ⟨rfl, hb⟩
  refine ⟨_, rfl, ?_⟩
  have n0_ := bxb BK245 hb
  have n1_ := bxb BK253 hb
  have n2_ := bxb BK261 hb
  have n3_ := bxb BK262 hb
  have n4_ := bxb BK263 hb
  have n5_ := bxb BK264 hb
  have n6_ := Aside0.mk (below_step (bwt HB) hb)
  clear BK245
  clear BK253
  clear BK261
  clear BK262
  clear BK263
  clear BK264
  clear HB
  have BK245 := n0_
  have BK253 := n1_
  have BK261 := n2_
  have BK262 := n3_
  have BK263 := n4_
  have BK264 := n5_
  have HB := n6_
  clear n0_ n1_ n2_ n3_ n4_ n5_ n6_
  (try clear hb)
  (try clear hb2)
  (try clear hk)
  (try clear hi)
  refine hK.out _ _ ⟨bc BK245 0, bc BK245 1, bc BK245 2, bc BK245 3, bc BK245 4, bc BK245 5, bc BK245 6, bc BK264 0, bc BK264 1, bc BK264 2, bc BK264 3, bc BK264 4, bc BK264 5, bc BK264 6⟩ (fun hHeld => ?_)
  clear hK K
  refine norm_ (a' := ?_) ?_ ?_
  rotate_left
  · show Act.put _ (some 62) _ = _
    simp only [Act.put, List.setIfInBounds_toArray, List.set_cons_zero, List.set_cons_succ, i64_w, i32_w]
    rfl
  refine pure_ (i := 9) (N := some 63) (v := ?_) (a' := ?_) #[true, true, true, true, true, true, true, true, true, true, false, false, false, false, false, false, false, false, false, false, false, false, false, false, false, false, false, false, false, false, false, false, false, false, false, false, false, false, false] rfl rfl (any_of HT_.out (by kernel_rfl)) (fun _ _ _ h => h) (Or.inl ⟨by rfl, ?_⟩) ?_ ?_
  rotate_left
  · intro w'
    go_simp
    with_reducible rfl
  rotate_left
  · simp only [Act.put, List.setIfInBounds_toArray, List.set_cons_zero, List.set_cons_succ, i64_w, i32_w]
    rfl
  refine pure_ (i := 10) (N := some 64) (v := ?_) (a' := ?_) #[true, true, true, true, true, true, true, true, true, true, true, false, false, false, false, false, false, false, false, false, false, false, false, false, false, false, false, false, false, false, false, false, false, false, false, false, false, false, false] rfl rfl (any_of HT_.out (by kernel_rfl)) (fun _ _ _ h => h) (Or.inl ⟨by rfl, ?_⟩) ?_ ?_
  rotate_left
  · intro w'
    go_simp
    with_reducible rfl
  rotate_left
  · simp only [Act.put, List.setIfInBounds_toArray, List.set_cons_zero, List.set_cons_succ, i64_w, i32_w]
    rfl
  refine pure_ (i := 11) (N := some 65) (v := ?_) (a' := ?_) #[true, true, true, true, true, true, true, true, true, true, true, true, false, false, false, false, false, false, false, false, false, false, false, false, false, false, false, false, false, false, false, false, false, false, false, false, false, false, false] rfl rfl (any_of HT_.out (by kernel_rfl)) (fun _ _ _ h => h) (Or.inl ⟨by rfl, ?_⟩) ?_ ?_
  rotate_left
  · intro w'
    go_simp
    with_reducible rfl
  rotate_left
  · simp only [Act.put, List.setIfInBounds_toArray, List.set_cons_zero, List.set_cons_succ, i64_w, i32_w]
    rfl
  refine take_ (i := 12) (N := some 66) (v := ?_) (a' := ?_) #[true, true, true, true, true, true, true, true, true, true, true, true, true, false, false, false, false, false, false, false, false, false, false, false, false, false, false, false, false, false, false, false, false, false, false, false, false, false, false] rfl rfl (take_ofW HT_.out HW_.out (by kernel_rfl)) (fun _ _ _ h => h) (Or.inl ⟨by rfl, ?_⟩) hHeld ?_ ?_
  rotate_left
  · rintro w' ⟨s0, s1, s2, s3, s4, s5, s6, s7, s8, s9, s10, s11, s12, s13⟩
    go_simp
    with_reducible rfl
  rotate_left
  · simp only [Act.put, List.setIfInBounds_toArray, List.set_cons_zero, List.set_cons_succ, i64_w, i32_w]
    rfl
  refine one_ (i := 13) (N := some 67) #[true, true, true, true, true, true, true, true, true, true, true, true, true, true, false, false, false, false, false, false, false, false, false, false, false, false, false, false, false, false, false, false, false, false, false, false, false, false, false] rfl rfl (one_of HT_.out (by kernel_rfl)) (by decide) (fun K hK => ?_)
  refine goes_ Try.func19 (by kernel_rfl) rfl #[.agg #[.int .i64 1000, .int .i64 1000, .int .i64 5, .int .i64 10, .int .i64 900, .int .i64 1012, .bool false], .int .i64 1015] (by rfl) rfl rfl (by (try simp only [List.map_toArray, List.map_cons, List.map_nil]); first | done | rfl | (simp only [List.length_drop, List.length_take]; rfl)) ?_
  with_reducible refine (monitor_Agrees.calls 1000 1000 5 10 900 1012 false 1015 true _ A10.out).mono ?_
  rintro e w78 ⟨rfl, hb⟩
  refine ⟨_, rfl, ?_⟩
  have n0_ := bxb BK245 hb
  have n1_ := bxb BK253 hb
  have n2_ := bxb BK261 hb
  have n3_ := bxb BK262 hb
  have n4_ := bxb BK263 hb
  have n5_ := bxb BK264 hb
  have n6_ := Aside0.mk (below_step (bwt HB) hb)
  clear BK245
  clear BK253
  clear BK261
  clear BK262
  clear BK263
  clear BK264
  clear HB
  have BK245 := n0_
  have BK253 := n1_
  have BK261 := n2_
  have BK262 := n3_
  have BK263 := n4_
  have BK264 := n5_
  have HB := n6_
  clear n0_ n1_ n2_ n3_ n4_ n5_ n6_
  (try clear hb)
  (try clear hb2)
  (try clear hk)
  (try clear hi)
  refine hK.out _ _ ⟨bc BK245 0, bc BK245 1, bc BK245 2, bc BK245 3, bc BK245 4, bc BK245 5, bc BK245 6, bc BK264 0, bc BK264 1, bc BK264 2, bc BK264 3, bc BK264 4, bc BK264 5, bc BK264 6⟩ (fun hHeld => ?_)
  clear hK K
  refine norm_ (a' := ?_) ?_ ?_
  rotate_left
  · show Act.put _ (some 67) _ = _
    simp only [Act.put, List.setIfInBounds_toArray, List.set_cons_zero, List.set_cons_succ, i64_w, i32_w]
    rfl
  refine pure_ (i := 14) (N := some 68) (v := ?_) (a' := ?_) #[true, true, true, true, true, true, true, true, true, true, true, true, true, true, true, false, false, false, false, false, false, false, false, false, false, false, false, false, false, false, false, false, false, false, false, false, false, false, false] rfl rfl (any_of HT_.out (by kernel_rfl)) (fun _ _ _ h => h) (Or.inl ⟨by rfl, ?_⟩) ?_ ?_
  rotate_left
  · intro w'
    go_simp
    with_reducible rfl
  rotate_left
  · simp only [Act.put, List.setIfInBounds_toArray, List.set_cons_zero, List.set_cons_succ, i64_w, i32_w]
    rfl
  refine pure_ (i := 15) (N := some 69) (v := ?_) (a' := ?_) #[true, true, true, true, true, true, true, true, true, true, true, true, true, true, true, true, false, false, false, false, false, false, false, false, false, false, false, false, false, false, false, false, false, false, false, false, false, false, false] rfl rfl (any_of HT_.out (by kernel_rfl)) (fun _ _ _ h => h) (Or.inl ⟨by rfl, ?_⟩) ?_ ?_
  rotate_left
  · intro w'
    go_simp
    with_reducible rfl
  rotate_left
  · simp only [Act.put, List.setIfInBounds_toArray, List.set_cons_zero, List.set_cons_succ, i64_w, i32_w]
    rfl
  refine take_ (i := 16) (N := some 70) (v := ?_) (a' := ?_) #[true, true, true, true, true, true, true, true, true, true, true, true, true, true, true, true, true, false, false, false, false, false, false, false, false, false, false, false, false, false, false, false, false, false, false, false, false, false, false] rfl rfl (take_ofW HT_.out HW_.out (by kernel_rfl)) (fun _ _ _ h => h) (Or.inl ⟨by rfl, ?_⟩) hHeld ?_ ?_
  rotate_left
  · rintro w' ⟨s0, s1, s2, s3, s4, s5, s6, s7, s8, s9, s10, s11, s12, s13⟩
    go_simp
    with_reducible rfl
  rotate_left
  · simp only [Act.put, List.setIfInBounds_toArray, List.set_cons_zero, List.set_cons_succ, i64_w, i32_w]
    rfl
  refine one_ (i := 17) (N := some 71) #[true, true, true, true, true, true, true, true, true, true, true, true, true, true, true, true, true, true, false, false, false, false, false, false, false, false, false, false, false, false, false, false, false, false, false, false, false, false, false] rfl rfl (one_of HT_.out (by kernel_rfl)) (by decide) (fun K hK => ?_)
  refine goes_ Try.func19 (by kernel_rfl) rfl #[.agg #[.int .i64 1000, .int .i64 1000, .int .i64 5, .int .i64 10, .int .i64 900, .int .i64 1012, .bool false], .int .i64 1016] (by rfl) rfl rfl (by (try simp only [List.map_toArray, List.map_cons, List.map_nil]); first | done | rfl | (simp only [List.length_drop, List.length_take]; rfl)) ?_
  with_reducible refine (monitor_Agrees.calls 1000 1000 5 10 900 1012 false 1016 false _ A11.out).mono ?_
  rintro e w79 ⟨rfl, hb⟩
  refine ⟨_, rfl, ?_⟩
  have n0_ := bxb BK245 hb
  have n1_ := bxb BK253 hb
  have n2_ := bxb BK261 hb
  have n3_ := bxb BK262 hb
  have n4_ := bxb BK263 hb
  have n5_ := bxb BK264 hb
  have n6_ := Aside0.mk (below_step (bwt HB) hb)
  clear BK245
  clear BK253
  clear BK261
  clear BK262
  clear BK263
  clear BK264
  clear HB
  have BK245 := n0_
  have BK253 := n1_
  have BK261 := n2_
  have BK262 := n3_
  have BK263 := n4_
  have BK264 := n5_
  have HB := n6_
  clear n0_ n1_ n2_ n3_ n4_ n5_ n6_
  (try clear hb)
  (try clear hb2)
  (try clear hk)
  (try clear hi)
  refine hK.out _ _ ⟨bc BK245 0, bc BK245 1, bc BK245 2, bc BK245 3, bc BK245 4, bc BK245 5, bc BK245 6, bc BK264 0, bc BK264 1, bc BK264 2, bc BK264 3, bc BK264 4, bc BK264 5, bc BK264 6⟩ (fun hHeld => ?_)
  clear hK K
  refine norm_ (a' := ?_) ?_ ?_
  rotate_left
  · show Act.put _ (some 71) _ = _
    simp only [Act.put, List.setIfInBounds_toArray, List.set_cons_zero, List.set_cons_succ, i64_w, i32_w]
    rfl
  refine pure_ (i := 18) (N := some 72) (v := ?_) (a' := ?_) #[true, true, true, true, true, true, true, true, true, true, true, true, true, true, true, true, true, true, true, false, false, false, false, false, false, false, false, false, false, false, false, false, false, false, false, false, false, false, false] rfl rfl (any_of HT_.out (by kernel_rfl)) (fun _ _ _ h => h) (Or.inl ⟨by rfl, ?_⟩) ?_ ?_
  rotate_left
  · intro w'
    go_simp
    with_reducible rfl
  rotate_left
  · simp only [Act.put, List.setIfInBounds_toArray, List.set_cons_zero, List.set_cons_succ, i64_w, i32_w]
    rfl
  refine pure_ (i := 19) (N := some 73) (v := ?_) (a' := ?_) #[true, true, true, true, true, true, true, true, true, true, true, true, true, true, true, true, true, true, true, true, false, false, false, false, false, false, false, false, false, false, false, false, false, false, false, false, false, false, false] rfl rfl (any_of HT_.out (by kernel_rfl)) (fun _ _ _ h => h) (Or.inl ⟨by rfl, ?_⟩) ?_ ?_
  rotate_left
  · intro w'
    go_simp
    with_reducible rfl
  rotate_left
  · simp only [Act.put, List.setIfInBounds_toArray, List.set_cons_zero, List.set_cons_succ, i64_w, i32_w]
    rfl
  refine pure_ (i := 20) (N := some 74) (v := ?_) (a' := ?_) #[true, true, true, true, true, true, true, true, true, true, true, true, true, true, true, true, true, true, true, true, true, false, false, false, false, false, false, false, false, false, false, false, false, false, false, false, false, false, false] rfl rfl (any_of HT_.out (by kernel_rfl)) (fun _ _ _ h => h) (Or.inl ⟨by rfl, ?_⟩) ?_ ?_
  rotate_left
  · intro w'
    go_simp
    with_reducible rfl
  rotate_left
  · simp only [Act.put, List.setIfInBounds_toArray, List.set_cons_zero, List.set_cons_succ, i64_w, i32_w]
    rfl
  refine pure_ (i := 21) (N := some 75) (v := ?_) (a' := ?_) #[true, true, true, true, true, true, true, true, true, true, true, true, true, true, true, true, true, true, true, true, true, true, false, false, false, false, false, false, false, false, false, false, false, false, false, false, false, false, false] rfl rfl (any_of HT_.out (by kernel_rfl)) (fun _ _ _ h => h) (Or.inl ⟨by rfl, ?_⟩) ?_ ?_
  rotate_left
  · intro w'
    go_simp
    with_reducible rfl
  rotate_left
  · simp only [Act.put, List.setIfInBounds_toArray, List.set_cons_zero, List.set_cons_succ, i64_w, i32_w]
    rfl
  refine one_ (i := 22) (N := some 76) #[true, true, true, true, true, true, true, true, true, true, true, true, true, true, true, true, true, true, true, true, true, true, true, false, false, false, false, false, false, false, false, false, false, false, false, false, false, false, false] rfl rfl (one_of HT_.out (by kernel_rfl)) (by decide) (fun K hK => ?_)
  refine goes_ Try.func13 (by kernel_rfl) rfl #[.agg #[.int .i64 0, .int .i64 0, .int .i64 0, .int .i64 0, .int .i64 0, .int .i64 0, .bool false]] (by rfl) rfl rfl (by (try simp only [List.map_toArray, List.map_cons, List.map_nil]); first | done | rfl | (simp only [List.length_drop, List.length_take]; rfl)) ?_
  with_reducible refine (wireloomlaw45_made.calls 0 0 0 0 0 0 false 0 0 0 0 0 0 false 1 _ A12.out).mono ?_
  rintro e w80 ⟨rfl, hb⟩
  refine ⟨_, rfl, ?_⟩
  have n0_ := bxb BK245 hb
  have n1_ := bxb BK253 hb
  have n2_ := bxb BK261 hb
  have n3_ := bxb BK262 hb
  have n4_ := bxb BK263 hb
  have n5_ := bxb BK264 hb
  have n6_ := Aside0.mk (below_step (bwt HB) hb)
  clear BK245
  clear BK253
  clear BK261
  clear BK262
  clear BK263
  clear BK264
  clear HB
  have BK245 := n0_
  have BK253 := n1_
  have BK261 := n2_
  have BK262 := n3_
  have BK263 := n4_
  have BK264 := n5_
  have HB := n6_
  clear n0_ n1_ n2_ n3_ n4_ n5_ n6_
  (try clear hb)
  (try clear hb2)
  (try clear hk)
  (try clear hi)
  refine hK.out _ _ ⟨bc BK245 0, bc BK245 1, bc BK245 2, bc BK245 3, bc BK245 4, bc BK245 5, bc BK245 6, bc BK264 0, bc BK264 1, bc BK264 2, bc BK264 3, bc BK264 4, bc BK264 5, bc BK264 6⟩ (fun hHeld => ?_)
  clear hK K
  refine norm_ (a' := ?_) ?_ ?_
  rotate_left
  · show Act.put _ (some 76) _ = _
    simp only [Act.put, List.setIfInBounds_toArray, List.set_cons_zero, List.set_cons_succ, i64_w, i32_w]
    rfl
  refine pure_ (i := 23) (N := some 77) (v := ?_) (a' := ?_) #[true, true, true, true, true, true, true, true, true, true, true, true, true, true, true, true, true, true, true, true, true, true, true, true, false, false, false, false, false, false, false, false, false, false, false, false, false, false, false] rfl rfl (any_of HT_.out (by kernel_rfl)) (fun _ _ _ h => h) (Or.inl ⟨by rfl, ?_⟩) ?_ ?_
  rotate_left
  · intro w'
    go_simp
    with_reducible rfl
  rotate_left
  · simp only [Act.put, List.setIfInBounds_toArray, List.set_cons_zero, List.set_cons_succ, i64_w, i32_w]
    rfl
  refine pure_ (i := 24) (N := some 78) (v := ?_) (a' := ?_) #[true, true, true, true, true, true, true, true, true, true, true, true, true, true, true, true, true, true, true, true, true, true, true, true, true, false, false, false, false, false, false, false, false, false, false, false, false, false, false] rfl rfl (any_of HT_.out (by kernel_rfl)) (fun _ _ _ h => h) (Or.inl ⟨by rfl, ?_⟩) ?_ ?_
  rotate_left
  · intro w'
    go_simp
    with_reducible rfl
  rotate_left
  · simp only [Act.put, List.setIfInBounds_toArray, List.set_cons_zero, List.set_cons_succ, i64_w, i32_w]
    rfl
  refine pure_ (i := 25) (N := some 79) (v := ?_) (a' := ?_) #[true, true, true, true, true, true, true, true, true, true, true, true, true, true, true, true, true, true, true, true, true, true, true, true, true, true, false, false, false, false, false, false, false, false, false, false, false, false, false] rfl rfl (any_of HT_.out (by kernel_rfl)) (fun _ _ _ h => h) (Or.inl ⟨by rfl, ?_⟩) ?_ ?_
  rotate_left
  · intro w'
    go_simp
    with_reducible rfl
  rotate_left
  · simp only [Act.put, List.setIfInBounds_toArray, List.set_cons_zero, List.set_cons_succ, i64_w, i32_w]
    rfl
  refine pure_ (i := 26) (N := some 80) (v := ?_) (a' := ?_) #[true, true, true, true, true, true, true, true, true, true, true, true, true, true, true, true, true, true, true, true, true, true, true, true, true, true, true, false, false, false, false, false, false, false, false, false, false, false, false] rfl rfl (any_of HT_.out (by kernel_rfl)) (fun _ _ _ h => h) (Or.inl ⟨by rfl, ?_⟩) ?_ ?_
  rotate_left
  · intro w'
    go_simp
    with_reducible rfl
  rotate_left
  · simp only [Act.put, List.setIfInBounds_toArray, List.set_cons_zero, List.set_cons_succ, i64_w, i32_w]
    rfl
  refine take_ (i := 27) (N := some 81) (v := ?_) (a' := ?_) #[true, true, true, true, true, true, true, true, true, true, true, true, true, true, true, true, true, true, true, true, true, true, true, true, true, true, true, true, false, false, false, false, false, false, false, false, false, false, false] rfl rfl (take_ofW HT_.out HW_.out (by kernel_rfl)) (fun _ _ _ h => h) (Or.inl ⟨by rfl, ?_⟩) hHeld ?_ ?_
  rotate_left
  · rintro w' ⟨s0, s1, s2, s3, s4, s5, s6, s7, s8, s9, s10, s11, s12, s13⟩
    go_simp
    with_reducible rfl
  rotate_left
  · simp only [Act.put, List.setIfInBounds_toArray, List.set_cons_zero, List.set_cons_succ, i64_w, i32_w]
    rfl
  refine take_ (i := 29) (N := some 83) (v := ?_) (a' := ?_) #[true, true, true, true, true, true, true, true, true, true, true, true, true, true, true, true, true, true, true, true, true, true, true, true, true, true, true, true, false, true, false, false, false, false, false, false, false, false, false] rfl rfl (take_ofW HT_.out HW_.out (by kernel_rfl)) (fun _ _ _ h => h) (Or.inl ⟨by rfl, ?_⟩) hHeld ?_ ?_
  rotate_left
  · rintro w' ⟨s0, s1, s2, s3, s4, s5, s6, s7, s8, s9, s10, s11, s12, s13⟩
    go_simp
    with_reducible rfl
  rotate_left
  · simp only [Act.put, List.setIfInBounds_toArray, List.set_cons_zero, List.set_cons_succ, i64_w, i32_w]
    rfl
  refine one_ (i := 28) (N := some 82) #[true, true, true, true, true, true, true, true, true, true, true, true, true, true, true, true, true, true, true, true, true, true, true, true, true, true, true, true, true, true, false, false, false, false, false, false, false, false, false] rfl rfl (one_of HT_.out (by kernel_rfl)) (by decide) (fun K hK => ?_)
  refine goes_ Try.func21 (by kernel_rfl) rfl #[.agg #[.int .i64 1000, .int .i64 1000, .int .i64 5, .int .i64 10, .int .i64 900, .int .i64 1012, .bool true], .int .i64 1000] (by rfl) rfl rfl (by (try simp only [List.map_toArray, List.map_cons, List.map_nil]); first | done | rfl | (simp only [List.length_drop, List.length_take]; rfl)) ?_
  with_reducible refine (monitor_See.calls 1000 1000 5 10 900 1012 true 1000 1000 1000 5 10 900 1012 true _ A13.out).mono ?_
  rintro e w81 ⟨rfl, hb⟩
  refine ⟨_, rfl, ?_⟩
  have n0_ := bxb BK245 hb
  have n1_ := bxb BK253 hb
  have n2_ := bxb BK261 hb
  have n3_ := bxb BK262 hb
  have n4_ := bxb BK263 hb
  have n5_ := bxb BK264 hb
  have n6_ := Aside0.mk (below_step (bwt HB) hb)
  clear BK245
  clear BK253
  clear BK261
  clear BK262
  clear BK263
  clear BK264
  clear HB
  have BK245 := n0_
  have BK253 := n1_
  have BK261 := n2_
  have BK262 := n3_
  have BK263 := n4_
  have BK264 := n5_
  have HB := n6_
  clear n0_ n1_ n2_ n3_ n4_ n5_ n6_
  (try clear hb)
  (try clear hb2)
  (try clear hk)
  (try clear hi)
  refine hK.out _ _ ⟨bc BK245 0, bc BK245 1, bc BK245 2, bc BK245 3, bc BK245 4, bc BK245 5, bc BK245 6, bc BK264 0, bc BK264 1, bc BK264 2, bc BK264 3, bc BK264 4, bc BK264 5, bc BK264 6⟩ (fun hHeld => ?_)
  clear hK K
  refine norm_ (a' := ?_) ?_ ?_
  rotate_left
  · show Act.put _ (some 82) _ = _
    simp only [Act.put, List.setIfInBounds_toArray, List.set_cons_zero, List.set_cons_succ, i64_w, i32_w]
    rfl
  refine pure_ (i := 30) (N := some 84) (v := ?_) (a' := ?_) #[true, true, true, true, true, true, true, true, true, true, true, true, true, true, true, true, true, true, true, true, true, true, true, true, true, true, true, true, true, true, true, false, false, false, false, false, false, false, false] rfl rfl (any_of HT_.out (by kernel_rfl)) (fun _ _ _ h => h) (Or.inl ⟨by rfl, ?_⟩) ?_ ?_
  rotate_left
  · intro w'
    go_simp
    with_reducible rfl
  rotate_left
  · simp only [Act.put, List.setIfInBounds_toArray, List.set_cons_zero, List.set_cons_succ, i64_w, i32_w]
    rfl
  refine pure_ (i := 31) (N := some 85) (v := ?_) (a' := ?_) #[true, true, true, true, true, true, true, true, true, true, true, true, true, true, true, true, true, true, true, true, true, true, true, true, true, true, true, true, true, true, true, true, false, false, false, false, false, false, false] rfl rfl (any_of HT_.out (by kernel_rfl)) (fun _ _ _ h => h) (Or.inl ⟨by rfl, ?_⟩) ?_ ?_
  rotate_left
  · intro w'
    go_simp
    with_reducible rfl
  rotate_left
  · simp only [Act.put, List.setIfInBounds_toArray, List.set_cons_zero, List.set_cons_succ, i64_w, i32_w]
    rfl
  refine pure_ (i := 32) (N := some 86) (v := ?_) (a' := ?_) #[true, true, true, true, true, true, true, true, true, true, true, true, true, true, true, true, true, true, true, true, true, true, true, true, true, true, true, true, true, true, true, true, true, false, false, false, false, false, false] rfl rfl (any_of HT_.out (by kernel_rfl)) (fun _ _ _ h => h) (Or.inl ⟨by rfl, ?_⟩) ?_ ?_
  rotate_left
  · intro w'
    go_simp
    with_reducible rfl
  rotate_left
  · simp only [Act.put, List.setIfInBounds_toArray, List.set_cons_zero, List.set_cons_succ, i64_w, i32_w]
    rfl
  refine take_ (i := 33) (N := some 87) (v := ?_) (a' := ?_) #[true, true, true, true, true, true, true, true, true, true, true, true, true, true, true, true, true, true, true, true, true, true, true, true, true, true, true, true, true, true, true, true, true, true, false, false, false, false, false] rfl rfl (take_ofW HT_.out HW_.out (by kernel_rfl)) (fun _ _ _ h => h) (Or.inl ⟨by rfl, ?_⟩) hHeld ?_ ?_
  rotate_left
  · rintro w' ⟨s0, s1, s2, s3, s4, s5, s6, s7, s8, s9, s10, s11, s12, s13⟩
    go_simp
    with_reducible rfl
  rotate_left
  · simp only [Act.put, List.setIfInBounds_toArray, List.set_cons_zero, List.set_cons_succ, i64_w, i32_w]
    rfl
  refine take_ (i := 35) (N := some 89) (v := ?_) (a' := ?_) #[true, true, true, true, true, true, true, true, true, true, true, true, true, true, true, true, true, true, true, true, true, true, true, true, true, true, true, true, true, true, true, true, true, true, false, true, false, false, false] rfl rfl (take_ofW HT_.out HW_.out (by kernel_rfl)) (fun _ _ _ h => h) (Or.inl ⟨by rfl, ?_⟩) hHeld ?_ ?_
  rotate_left
  · rintro w' ⟨s0, s1, s2, s3, s4, s5, s6, s7, s8, s9, s10, s11, s12, s13⟩
    go_simp
    with_reducible rfl
  rotate_left
  · simp only [Act.put, List.setIfInBounds_toArray, List.set_cons_zero, List.set_cons_succ, i64_w, i32_w]
    rfl
  refine one_ (i := 34) (N := some 88) #[true, true, true, true, true, true, true, true, true, true, true, true, true, true, true, true, true, true, true, true, true, true, true, true, true, true, true, true, true, true, true, true, true, true, true, true, false, false, false] rfl rfl (one_of HT_.out (by kernel_rfl)) (by decide) (fun K hK => ?_)
  refine goes_ Try.func22 (by kernel_rfl) rfl #[.agg #[.int .i64 1000, .int .i64 1000, .int .i64 5, .int .i64 10, .int .i64 900, .int .i64 1012, .bool true]] (by rfl) rfl rfl (by (try simp only [List.map_toArray, List.map_cons, List.map_nil]); first | done | rfl | (simp only [List.length_drop, List.length_take]; rfl)) ?_
  with_reducible refine (monitor_Miss.calls 1000 1000 5 10 900 1012 true 1000 1000 5 10 900 1012 true _ A14.out).mono ?_
  rintro e w82 ⟨rfl, hb⟩
  refine ⟨_, rfl, ?_⟩
  have n0_ := bxb BK245 hb
  have n1_ := bxb BK253 hb
  have n2_ := bxb BK261 hb
  have n3_ := bxb BK262 hb
  have n4_ := bxb BK263 hb
  have n5_ := bxb BK264 hb
  have n6_ := Aside0.mk (below_step (bwt HB) hb)
  clear BK245
  clear BK253
  clear BK261
  clear BK262
  clear BK263
  clear BK264
  clear HB
  have BK245 := n0_
  have BK253 := n1_
  have BK261 := n2_
  have BK262 := n3_
  have BK263 := n4_
  have BK264 := n5_
  have HB := n6_
  clear n0_ n1_ n2_ n3_ n4_ n5_ n6_
  (try clear hb)
  (try clear hb2)
  (try clear hk)
  (try clear hi)
  refine hK.out _ _ ⟨bc BK245 0, bc BK245 1, bc BK245 2, bc BK245 3, bc BK245 4, bc BK245 5, bc BK245 6, bc BK264 0, bc BK264 1, bc BK264 2, bc BK264 3, bc BK264 4, bc BK264 5, bc BK264 6⟩ (fun hHeld => ?_)
  clear hK K
  refine norm_ (a' := ?_) ?_ ?_
  rotate_left
  · show Act.put _ (some 88) _ = _
    simp only [Act.put, List.setIfInBounds_toArray, List.set_cons_zero, List.set_cons_succ, i64_w, i32_w]
    rfl
  refine pure_ (i := 36) (N := some 90) (v := ?_) (a' := ?_) #[true, true, true, true, true, true, true, true, true, true, true, true, true, true, true, true, true, true, true, true, true, true, true, true, true, true, true, true, true, true, true, true, true, true, true, true, true, false, false] rfl rfl (any_of HT_.out (by kernel_rfl)) (fun _ _ _ h => h) (Or.inl ⟨by rfl, ?_⟩) ?_ ?_
  rotate_left
  · intro w'
    go_simp
    with_reducible rfl
  rotate_left
  · simp only [Act.put, List.setIfInBounds_toArray, List.set_cons_zero, List.set_cons_succ, i64_w, i32_w]
    rfl
  refine pure_ (i := 37) (N := some 91) (v := ?_) (a' := ?_) #[true, true, true, true, true, true, true, true, true, true, true, true, true, true, true, true, true, true, true, true, true, true, true, true, true, true, true, true, true, true, true, true, true, true, true, true, true, true, false] rfl rfl (any_of HT_.out (by kernel_rfl)) (fun _ _ _ h => h) (Or.inl ⟨by rfl, ?_⟩) ?_ ?_
  rotate_left
  · intro w'
    go_simp
    with_reducible rfl
  rotate_left
  · simp only [Act.put, List.setIfInBounds_toArray, List.set_cons_zero, List.set_cons_succ, i64_w, i32_w]
    rfl
  refine pure_ (i := 38) (N := some 0) (v := ?_) (a' := ?_) #[true, true, true, true, true, true, true, true, true, true, true, true, true, true, true, true, true, true, true, true, true, true, true, true, true, true, true, true, true, true, true, true, true, true, true, true, true, true, true] rfl rfl (any_of HT_.out (by kernel_rfl)) (fun _ _ _ h => h) (Or.inl ⟨by rfl, ?_⟩) ?_ ?_
  rotate_left
  · intro w'
    go_simp
    with_reducible rfl
  rotate_left
  · simp only [Act.put, List.setIfInBounds_toArray, List.set_cons_zero, List.set_cons_succ, i64_w, i32_w]
    rfl
  refine done_ (done_of HT_.out (by kernel_rfl)) ?_
  try go_wp2
  go_ret
  exact ⟨by first | rfl | (simp [errW_none, errW_some] <;> rfl) | (simp [*, errW_none, errW_some] <;> rfl), by repeat (first | (with_reducible first | exact HB.out | apply below_alloc | apply pw_below_drewN | apply below_drew1 | refine below_set ?_ GE245.out | refine below_set ?_ GE253.out | refine below_set ?_ GE261.out | refine below_set ?_ GE262.out | refine below_set ?_ GE263.out | refine below_set ?_ GE264.out) | exact HB.out)⟩

end Go.Proofs.Ytlofmgdjnaajjaa.Q

namespace Go.Proofs.Ytlofmgdjnaajjaa.Q
open Go.RowKit Go.Proofs.YtlofmgdjnaajjaaW.PrintWords Go.Proofs.YtlofmgdjnaajjaaW.PrintLast Go.Proofs.YtlofmgdjnaajjaaW.PrintMore
attribute [local go_sem] run_makeFunc_own max2_int min2_int max_two min_two max_three min_three max_four min_four   -- for this text's walks alone
set_option linter.unusedVariables false
set_option linter.unusedSimpArgs false

/-! ### wireloomref45_Outlook: function 18 -/
def wireloomref45_Outlook.f (a0_0 : Int) (a0_1 : Int) (a0_2 : Int) (a0_3 : Int) (a0_4 : Int) (a0_5 : Int) (a0_6 : Bool) : Option (Int × Int) := some (mx 1 (wrap64 (a0_0 - a0_2)), wrap64 (a0_1 + a0_2))
set_option maxHeartbeats 8000000 in
set_option maxRecDepth 100000 in
theorem wireloomref45_Outlook.calls (a0_0 : Int) (a0_1 : Int) (a0_2 : Int) (a0_3 : Int) (a0_4 : Int) (a0_5 : Int) (a0_6 : Bool) (r1 : Int) (r2 : Int) (w : World) (h : wireloomref45_Outlook.f a0_0 a0_1 a0_2 a0_3 a0_4 a0_5 a0_6 = some (r1, r2)) :
    Calls Try.prog 18 #[.agg #[.int .i64 a0_0, .int .i64 a0_1, .int .i64 a0_2, .int .i64 a0_3, .int .i64 a0_4, .int .i64 a0_5, .bool a0_6]] w fun e w' => e = .returned (.agg #[.int .i64 r1, .int .i64 r2]) ∧ Below w.heap.size w w' := by
  have hu28 := Try.underlying28
  have hu40 := Try.underlying40
  have HB := Aside0.mk (Below.refl w.heap.size w)
  have H : (some (mx 1 (wrap64 (a0_0 - a0_2)), wrap64 (a0_1 + a0_2))) = some (r1, r2) := h
  clear h
  obtain ⟨ji2, hji2⟩ : ∃ j_ : Int, (mx 1 (wrap64 (a0_0 - a0_2))) = j_ := ⟨_, rfl⟩
  replace H : (some (ji2, wrap64 (a0_1 + a0_2))) = some (r1, r2) := by first | (rw [hji2] at H; exact H) | (simp only [hji2] at H ⊢; exact H)
  (try (have hji2l : 1 ≤ ji2 := by (rw [← hji2]; unfold mx; (repeat' split) <;> omega)))
  (try (have hji2m : 0 ≤ ji2 := by omega))
  have hji2_ : (if 1 < (wrap64 (a0_0 - a0_2)) then (wrap64 (a0_0 - a0_2)) else 1) = ji2 := hji2
  simp only [Option.some.injEq, Prod.mk.injEq] at H
  obtain ⟨rfl, rfl⟩ := H
  go_enter Try.func18, Try.ntmps18
  go_wp2_with (first | ((with_reducible refine gate_dst (N := 1) rfl ?_); refine box_event ?hg (N := 1) ?hd (cs := #[.int .i64 a0_0, .int .i64 a0_1, .int .i64 a0_2, .int .i64 a0_3, .int .i64 a0_4, .int .i64 a0_5, .bool a0_6]) (t := 28) ?hr ?_; (case hd => rfl); (case hg => rfl); (case hr => first | (go_simp; done) | (go_simp; rfl)); intro gb311 hg w3 hbox hb; have n0_ := Aside0.mk (below_step (by repeat (first | (with_reducible first | exact HB.out | apply below_alloc | apply pw_below_drewN | apply below_drew1) | exact HB.out)) hb); have n1_ := Aside0.mk (hbox); have n2_ := Aside0.mk ((by rw [hg]; exact (below_size (by repeat (first | (with_reducible first | exact HB.out | apply below_alloc | apply pw_below_drewN | apply below_drew1) | exact HB.out))) : w.heap.size ≤ gb311)); have n3_ := Aside0.mk ((by rw [hg]; exact (below_size (by repeat (first | (with_reducible first | exact HB.out | apply below_alloc | apply pw_below_drewN | apply below_drew1) | exact HB.out))) : w.heap.size ≤ gb311)); clear HB; have HB := n0_; have BK311 := n1_; have GW311 := n2_; have GE311 := n3_; clear n0_ n1_ n2_ n3_; clear hb hbox hg) | ((with_reducible refine gate_dst (N := 2) rfl ?_); refine box_event ?hg (N := 2) ?hd (cs := #[.int .i64 0, .int .i64 0]) (t := 40) ?hr ?_; (case hd => rfl); (case hg => rfl); (case hr => first | (go_simp; done) | (go_simp; rfl)); intro gb312 hg w4 hbox hb; have n0_ := bxb BK311 hb; have n1_ := Aside0.mk (below_step (bwt HB) hb); have n2_ := Aside0.mk (hbox); have n3_ := Aside0.mk ((by rw [hg]; exact (below_size (bwt HB)) : w.heap.size ≤ gb312)); have n4_ := Aside0.mk ((by rw [hg]; exact (below_size (bwt HB)) : w.heap.size ≤ gb312)); have n5_ := nlt_ BK311 hg; have n6_ := ngt_ BK311 hg; clear BK311; clear HB; have BK311 := n0_; have HB := n1_; have BK312 := n2_; have GW312 := n3_; have GE312 := n4_; have NB311_312 := n5_; have NB312_311 := n6_; clear n0_ n1_ n2_ n3_ n4_ n5_ n6_; clear hb hbox hg; have hnb5 := NB311_312.out; have hnc5 := NB312_311.out; have hcz6_0 : w4.cell? ⟨gb311, 0, none⟩ = some (.int .i64 a0_0) := bc BK311 0; have hcz6_1 : w4.cell? ⟨gb311, 1, none⟩ = some (.int .i64 a0_1) := bc BK311 1; have hcz6_2 : w4.cell? ⟨gb311, 2, none⟩ = some (.int .i64 a0_2) := bc BK311 2; have hcz6_3 : w4.cell? ⟨gb311, 3, none⟩ = some (.int .i64 a0_3) := bc BK311 3; have hcz6_4 : w4.cell? ⟨gb311, 4, none⟩ = some (.int .i64 a0_4) := bc BK311 4; have hcz6_5 : w4.cell? ⟨gb311, 5, none⟩ = some (.int .i64 a0_5) := bc BK311 5; have hcz6_6 : w4.cell? ⟨gb311, 6, none⟩ = some (.bool a0_6) := bc BK311 6; have hfz6_0 := blk_frozen BK311.out 0; have hfz6_1 := blk_frozen BK311.out 1; have hfz6_2 := blk_frozen BK311.out 2; have hfz6_3 := blk_frozen BK311.out 3; have hfz6_4 := blk_frozen BK311.out 4; have hfz6_5 := blk_frozen BK311.out 5; have hfz6_6 := blk_frozen BK311.out 6; have hcz7_0 : w4.cell? ⟨gb312, 0, none⟩ = some (.int .i64 0) := bc BK312 0; have hcz7_1 : w4.cell? ⟨gb312, 1, none⟩ = some (.int .i64 0) := bc BK312 1; have hfz7_0 := blk_frozen BK312.out 0; have hfz7_1 := blk_frozen BK312.out 1))
  refine bodyPost_ret (results_cell_row rfl _ _ gb312 40 #[.int .i64 ji2, .int .i64 (wrap64 (a0_1 + a0_2))] (0, 0) _ rfl (by (with_reducible repeat refine bp_ ?_); refine blk_put (cs := #[.int .i64 ji2, .int .i64 0]) ?_ 1 _ rfl; (with_reducible repeat refine bp_ ?_); refine blk_put (cs := #[.int .i64 0, .int .i64 0]) ?_ 0 _ rfl; (with_reducible repeat refine bp_ ?_); exact BK312.out) Try.underlying40 rfl (by kernel_rfl)) rfl ?_
  exact ⟨by first | rfl | (simp [errW_none, errW_some] <;> rfl) | (simp only [← hji2]; first | rfl | (simp [errW_none, errW_some] <;> rfl)) | (simp [*, errW_none, errW_some] <;> rfl), by repeat (first | (with_reducible first | exact HB.out | apply below_alloc | apply pw_below_drewN | apply below_drew1 | refine below_set ?_ GE311.out | refine below_set ?_ GE312.out) | exact HB.out)⟩

end Go.Proofs.Ytlofmgdjnaajjaa.Q

