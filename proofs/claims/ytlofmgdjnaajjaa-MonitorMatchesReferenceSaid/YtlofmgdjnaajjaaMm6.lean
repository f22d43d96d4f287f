/- Own text, packed by pack.py, part 6: words, functions with their walks, plain lemmas. -/
import Derived.Test.YtlofmgdjnaajjaaMm5
namespace Go.Proofs.Ytlofmgdjnaajjaa.Q
open Go.RowKit Go.Proofs.YtlofmgdjnaajjaaW.PrintWords Go.Proofs.YtlofmgdjnaajjaaW.PrintLast Go.Proofs.YtlofmgdjnaajjaaW.PrintMore
attribute [local go_sem] run_makeFunc_own max2_int min2_int max_two min_two max_three min_three max_four min_four   -- for this text's walks alone
set_option linter.unusedVariables false
set_option linter.unusedSimpArgs false

/-! ### wireloomref45_seen: function 31 -/
def wireloomref45_seen.f (a0_0 : Int) (a0_1 : Int) (a0_2 : Int) (a0_3 : Int) (a0_4 : Int) (a0_5 : Int) (a0_6 : Bool) (a1 : Int) : Option (Int × Int × Bool) := (wireloomref45_Outlook.f a0_0 a0_1 a0_2 a0_3 a0_4 a0_5 a0_6).bind fun bt360 => (if a1 < (-4000000) then (some (0, 0, false)) else (if a1 > 4000000 then (some (0, 0, false)) else (some (mx bt360.1 (wrap64 (a1 - a0_3)), mn bt360.2 (wrap64 (a1 + a0_3)), decide ((mx bt360.1 (wrap64 (a1 - a0_3))) ≤ (mn bt360.2 (wrap64 (a1 + a0_3))))))))
def wireloomref45_seen.T5 : Bool × List (List Nat × List Nat) := (true, [([], []), ([], []), ([1], [1]), ([], []), ([3], [3]), ([2, 4], [2, 4]), ([0, 0], [0]), ([5, 6, 0, 1, 2, 3, 4, 5, 6], [5])])
def wireloomref45_seen.B5 : List Nat := [0, 0, 2, 0, 8, 30, 1, 127]
theorem wireloomref45_seen.tab5 : rtab .any (opsOf Try.f31 5) = wireloomref45_seen.T5 := by kernel_rfl
theorem wireloomref45_seen.bits5 : waitsOk wireloomref45_seen.T5.2 wireloomref45_seen.B5 = true := by kernel_rfl
set_option maxHeartbeats 8000000 in
set_option maxRecDepth 100000 in
theorem wireloomref45_seen.calls (a0_0 : Int) (a0_1 : Int) (a0_2 : Int) (a0_3 : Int) (a0_4 : Int) (a0_5 : Int) (a0_6 : Bool) (a1 : Int) (r1 : Int) (r2 : Int) (r3 : Bool) (w : World) (h : wireloomref45_seen.f a0_0 a0_1 a0_2 a0_3 a0_4 a0_5 a0_6 a1 = some (r1, r2, r3)) :
    Calls Try.prog 31 #[.agg #[.int .i64 a0_0, .int .i64 a0_1, .int .i64 a0_2, .int .i64 a0_3, .int .i64 a0_4, .int .i64 a0_5, .bool a0_6], .int .i64 a1] w fun e w' => e = .returned (.tuple #[.agg #[.int .i64 r1, .int .i64 r2], .bool r3]) ∧ Below w.heap.size w w' := by
  have hu28 := Try.underlying28
  have hu40 := Try.underlying40
  have HB := Aside0.mk (Below.refl w.heap.size w)
  have H : ((wireloomref45_Outlook.f a0_0 a0_1 a0_2 a0_3 a0_4 a0_5 a0_6).bind fun bt360 => (if a1 < (-4000000) then (some (0, 0, false)) else (if a1 > 4000000 then (some (0, 0, false)) else (some (mx bt360.1 (wrap64 (a1 - a0_3)), mn bt360.2 (wrap64 (a1 + a0_3)), decide ((mx bt360.1 (wrap64 (a1 - a0_3))) ≤ (mn bt360.2 (wrap64 (a1 + a0_3))))))))) = some (r1, r2, r3) := h
  clear h
  replace H := Option.bind_eq_some_iff.mp H
  obtain ⟨⟨t360, t361⟩, A30, H⟩ := H
  replace H : (if a1 < (-4000000) then (some (0, 0, false)) else (if a1 > 4000000 then (some (0, 0, false)) else (some (mx t360 (wrap64 (a1 - a0_3)), mn t361 (wrap64 (a1 + a0_3)), decide ((mx t360 (wrap64 (a1 - a0_3))) ≤ (mn t361 (wrap64 (a1 + a0_3)))))))) = some (r1, r2, r3) := H
  have A3 := Aside0.mk A30
  clear A30
  by_cases c4 : a1 < (-4000000)
  · rw [if_pos c4] at H
    have c4b0 : decide (a1 < (-4000000)) = true := decide_eq_true c4
    clear c4
    simp only [Option.some.injEq, Prod.mk.injEq] at H
    obtain ⟨rfl, rfl, rfl⟩ := H
    go_enter Try.func31, Try.ntmps31
    go_wp2_with (first | ((with_reducible refine gate_dst (N := 2) rfl ?_); refine box_event ?hg (N := 2) ?hd (cs := #[.int .i64 a0_0, .int .i64 a0_1, .int .i64 a0_2, .int .i64 a0_3, .int .i64 a0_4, .int .i64 a0_5, .bool a0_6]) (t := 28) ?hr ?_; (case hd => rfl); (case hg => rfl); (case hr => first | (go_simp; done) | (go_simp; rfl)); intro gb358 hg w5 hbox hb; have n0_ := Aside0.mk (below_step (by repeat (first | (with_reducible first | exact HB.out | apply below_alloc | apply pw_below_drewN | apply below_drew1) | exact HB.out)) hb); have n1_ := Aside0.mk (hbox); have n2_ := Aside0.mk ((by rw [hg]; exact (below_size (by repeat (first | (with_reducible first | exact HB.out | apply below_alloc | apply pw_below_drewN | apply below_drew1) | exact HB.out))) : w.heap.size ≤ gb358)); have n3_ := Aside0.mk ((by rw [hg]; exact (below_size (by repeat (first | (with_reducible first | exact HB.out | apply below_alloc | apply pw_below_drewN | apply below_drew1) | exact HB.out))) : w.heap.size ≤ gb358)); clear HB; have HB := n0_; have BK358 := n1_; have GW358 := n2_; have GE358 := n3_; clear n0_ n1_ n2_ n3_; clear hb hbox hg) | ((with_reducible refine gate_dst (N := 4) rfl ?_); refine box_event ?hg (N := 4) ?hd (cs := #[.int .i64 0, .int .i64 0]) (t := 40) ?hr ?_; (case hd => rfl); (case hg => rfl); (case hr => first | (go_simp; done) | (go_simp; rfl)); intro gb359 hg w6 hbox hb; have n0_ := bxb BK358 hb; have n1_ := Aside0.mk (below_step (bwt HB) hb); have n2_ := Aside0.mk (hbox); have n3_ := Aside0.mk ((by rw [hg]; exact (below_size (bwt HB)) : w.heap.size ≤ gb359)); have n4_ := Aside0.mk ((by rw [hg]; exact (below_size (bwt HB)) : w.heap.size ≤ gb359)); have n5_ := nlt_ BK358 hg; have n6_ := ngt_ BK358 hg; clear BK358; clear HB; have BK358 := n0_; have HB := n1_; have BK359 := n2_; have GW359 := n3_; have GE359 := n4_; have NB358_359 := n5_; have NB359_358 := n6_; clear n0_ n1_ n2_ n3_ n4_ n5_ n6_; clear hb hbox hg; have hnb7 := NB358_359.out; have hnc7 := NB359_358.out; have hcz8_0 : w6.cell? ⟨gb358, 0, none⟩ = some (.int .i64 a0_0) := bc BK358 0; have hcz8_1 : w6.cell? ⟨gb358, 1, none⟩ = some (.int .i64 a0_1) := bc BK358 1; have hcz8_2 : w6.cell? ⟨gb358, 2, none⟩ = some (.int .i64 a0_2) := bc BK358 2; have hcz8_3 : w6.cell? ⟨gb358, 3, none⟩ = some (.int .i64 a0_3) := bc BK358 3; have hcz8_4 : w6.cell? ⟨gb358, 4, none⟩ = some (.int .i64 a0_4) := bc BK358 4; have hcz8_5 : w6.cell? ⟨gb358, 5, none⟩ = some (.int .i64 a0_5) := bc BK358 5; have hcz8_6 : w6.cell? ⟨gb358, 6, none⟩ = some (.bool a0_6) := bc BK358 6; have hfz8_0 := blk_frozen BK358.out 0; have hfz8_1 := blk_frozen BK358.out 1; have hfz8_2 := blk_frozen BK358.out 2; have hfz8_3 := blk_frozen BK358.out 3; have hfz8_4 := blk_frozen BK358.out 4; have hfz8_5 := blk_frozen BK358.out 5; have hfz8_6 := blk_frozen BK358.out 6) | ((with_reducible refine gate_callee (f := 18) rfl ?_); refine goesL_ (some 9) rfl rfl Try.func18 (by kernel_rfl) rfl #[.agg #[.int .i64 a0_0, .int .i64 a0_1, .int .i64 a0_2, .int .i64 a0_3, .int .i64 a0_4, .int .i64 a0_5, .bool a0_6]] rfl (by (try simp only [List.map_toArray, List.map_cons, List.map_nil]); first | done | rfl | (simp only [List.length_drop, List.length_take]; rfl)) ?_; (with_reducible refine (wireloomref45_Outlook.calls a0_0 a0_1 a0_2 a0_3 a0_4 a0_5 a0_6 t360 t361 _ A3.out).mono ?_); rintro e w9 ⟨rfl, hb⟩; refine ⟨_, rfl, ?_⟩; have n0_ := bxb BK358 hb; have n1_ := bxb BK359 hb; have n2_ := Aside0.mk (below_step (bwt HB) hb); clear BK358; clear BK359; clear HB; have BK358 := n0_; have BK359 := n1_; have HB := n2_; clear n0_ n1_ n2_; (try clear hb); (try clear hb2); (try clear hk); (try clear hi)) | ((with_reducible refine gate_dst (N := 6) rfl ?_); refine box_event ?hg (N := 6) ?hd (cs := #[.int .i64 0, .int .i64 0]) (t := 40) ?hr ?_; (case hd => rfl); (case hg => rfl); (case hr => first | (go_simp; done) | (go_simp; rfl)); intro gb362 hg w10 hbox hb; have n0_ := bxb BK358 hb; have n1_ := bxb BK359 hb; have n2_ := Aside0.mk (below_step (bwt HB) hb); have n3_ := Aside0.mk (hbox); have n4_ := Aside0.mk ((by rw [hg]; exact (below_size (bwt HB)) : w.heap.size ≤ gb362)); have n5_ := Aside0.mk ((by rw [hg]; exact (below_size (bwt HB)) : w.heap.size ≤ gb362)); have n6_ := nlt_ BK358 hg; have n7_ := ngt_ BK358 hg; have n8_ := nlt_ BK359 hg; have n9_ := ngt_ BK359 hg; clear BK358; clear BK359; clear HB; have BK358 := n0_; have BK359 := n1_; have HB := n2_; have BK362 := n3_; have GW362 := n4_; have GE362 := n5_; have NB358_362 := n6_; have NB362_358 := n7_; have NB359_362 := n8_; have NB362_359 := n9_; clear n0_ n1_ n2_ n3_ n4_ n5_ n6_ n7_ n8_ n9_; clear hb hbox hg; have hnb11 := NB362_358.out; have hnc11 := NB358_362.out; have hnb12 := NB362_359.out; have hnc12 := NB359_362.out; have hcz13_0 : w10.cell? ⟨gb362, 0, none⟩ = some (.int .i64 0) := bc BK362 0; have hcz13_1 : w10.cell? ⟨gb362, 1, none⟩ = some (.int .i64 0) := bc BK362 1; have hfz13_0 := blk_frozen BK362.out 0; have hfz13_1 := blk_frozen BK362.out 1; have hcz14_0 : w10.cell? ⟨gb359, 0, none⟩ = some (.int .i64 0) := bc BK359 0; have hcz14_1 : w10.cell? ⟨gb359, 1, none⟩ = some (.int .i64 0) := bc BK359 1; have hfz14_0 := blk_frozen BK359.out 0; have hfz14_1 := blk_frozen BK359.out 1))
    refine bodyPost_ret (results_ct rfl _ _ gb359 40 #[.int .i64 0, .int .i64 0] (0, 0) _ rfl (by (with_reducible repeat refine bp_ ?_); refine blk_put (cs := #[.int .i64 0, .int .i64 0]) ?_ 1 _ rfl; (with_reducible repeat refine bp_ ?_); refine blk_put (cs := #[.int .i64 0, .int .i64 0]) ?_ 0 _ rfl; (with_reducible repeat refine bp_ ?_); refine blk_far ?_ NB359_362.out _; (with_reducible repeat refine bp_ ?_); refine blk_far ?_ NB359_362.out _; (with_reducible repeat refine bp_ ?_); exact BK359.out) Try.underlying40 rfl (by kernel_rfl)) rfl ?_
    exact ⟨by first | rfl | (simp [errW_none, errW_some] <;> rfl) | (simp [*, errW_none, errW_some] <;> rfl), by repeat (first | (with_reducible first | exact HB.out | apply below_alloc | apply pw_below_drewN | apply below_drew1 | refine below_set ?_ GE358.out | refine below_set ?_ GE359.out | refine below_set ?_ GE362.out) | exact HB.out)⟩
  · rw [if_neg c4] at H
    have c4b0 : decide (a1 < (-4000000)) = false := decide_eq_false c4
    clear c4
    by_cases c15 : a1 > 4000000
    · rw [if_pos c15] at H
      have c15b0 : decide (4000000 < a1) = true := decide_eq_true c15
      clear c15
      simp only [Option.some.injEq, Prod.mk.injEq] at H
      obtain ⟨rfl, rfl, rfl⟩ := H
      go_enter Try.func31, Try.ntmps31
      go_wp2_with (first | ((with_reducible refine gate_dst (N := 2) rfl ?_); refine box_event ?hg (N := 2) ?hd (cs := #[.int .i64 a0_0, .int .i64 a0_1, .int .i64 a0_2, .int .i64 a0_3, .int .i64 a0_4, .int .i64 a0_5, .bool a0_6]) (t := 28) ?hr ?_; (case hd => rfl); (case hg => rfl); (case hr => first | (go_simp; done) | (go_simp; rfl)); intro gb358 hg w16 hbox hb; have n0_ := Aside0.mk (below_step (by repeat (first | (with_reducible first | exact HB.out | apply below_alloc | apply pw_below_drewN | apply below_drew1) | exact HB.out)) hb); have n1_ := Aside0.mk (hbox); have n2_ := Aside0.mk ((by rw [hg]; exact (below_size (by repeat (first | (with_reducible first | exact HB.out | apply below_alloc | apply pw_below_drewN | apply below_drew1) | exact HB.out))) : w.heap.size ≤ gb358)); have n3_ := Aside0.mk ((by rw [hg]; exact (below_size (by repeat (first | (with_reducible first | exact HB.out | apply below_alloc | apply pw_below_drewN | apply below_drew1) | exact HB.out))) : w.heap.size ≤ gb358)); clear HB; have HB := n0_; have BK358 := n1_; have GW358 := n2_; have GE358 := n3_; clear n0_ n1_ n2_ n3_; clear hb hbox hg) | ((with_reducible refine gate_dst (N := 4) rfl ?_); refine box_event ?hg (N := 4) ?hd (cs := #[.int .i64 0, .int .i64 0]) (t := 40) ?hr ?_; (case hd => rfl); (case hg => rfl); (case hr => first | (go_simp; done) | (go_simp; rfl)); intro gb359 hg w17 hbox hb; have n0_ := bxb BK358 hb; have n1_ := Aside0.mk (below_step (bwt HB) hb); have n2_ := Aside0.mk (hbox); have n3_ := Aside0.mk ((by rw [hg]; exact (below_size (bwt HB)) : w.heap.size ≤ gb359)); have n4_ := Aside0.mk ((by rw [hg]; exact (below_size (bwt HB)) : w.heap.size ≤ gb359)); have n5_ := nlt_ BK358 hg; have n6_ := ngt_ BK358 hg; clear BK358; clear HB; have BK358 := n0_; have HB := n1_; have BK359 := n2_; have GW359 := n3_; have GE359 := n4_; have NB358_359 := n5_; have NB359_358 := n6_; clear n0_ n1_ n2_ n3_ n4_ n5_ n6_; clear hb hbox hg; have hnb18 := NB358_359.out; have hnc18 := NB359_358.out; have hcz19_0 : w17.cell? ⟨gb358, 0, none⟩ = some (.int .i64 a0_0) := bc BK358 0; have hcz19_1 : w17.cell? ⟨gb358, 1, none⟩ = some (.int .i64 a0_1) := bc BK358 1; have hcz19_2 : w17.cell? ⟨gb358, 2, none⟩ = some (.int .i64 a0_2) := bc BK358 2; have hcz19_3 : w17.cell? ⟨gb358, 3, none⟩ = some (.int .i64 a0_3) := bc BK358 3; have hcz19_4 : w17.cell? ⟨gb358, 4, none⟩ = some (.int .i64 a0_4) := bc BK358 4; have hcz19_5 : w17.cell? ⟨gb358, 5, none⟩ = some (.int .i64 a0_5) := bc BK358 5; have hcz19_6 : w17.cell? ⟨gb358, 6, none⟩ = some (.bool a0_6) := bc BK358 6; have hfz19_0 := blk_frozen BK358.out 0; have hfz19_1 := blk_frozen BK358.out 1; have hfz19_2 := blk_frozen BK358.out 2; have hfz19_3 := blk_frozen BK358.out 3; have hfz19_4 := blk_frozen BK358.out 4; have hfz19_5 := blk_frozen BK358.out 5; have hfz19_6 := blk_frozen BK358.out 6) | ((with_reducible refine gate_callee (f := 18) rfl ?_); refine goesL_ (some 9) rfl rfl Try.func18 (by kernel_rfl) rfl #[.agg #[.int .i64 a0_0, .int .i64 a0_1, .int .i64 a0_2, .int .i64 a0_3, .int .i64 a0_4, .int .i64 a0_5, .bool a0_6]] rfl (by (try simp only [List.map_toArray, List.map_cons, List.map_nil]); first | done | rfl | (simp only [List.length_drop, List.length_take]; rfl)) ?_; (with_reducible refine (wireloomref45_Outlook.calls a0_0 a0_1 a0_2 a0_3 a0_4 a0_5 a0_6 t360 t361 _ A3.out).mono ?_); rintro e w20 ⟨rfl, hb⟩; refine ⟨_, rfl, ?_⟩; have n0_ := bxb BK358 hb; have n1_ := bxb BK359 hb; have n2_ := Aside0.mk (below_step (bwt HB) hb); clear BK358; clear BK359; clear HB; have BK358 := n0_; have BK359 := n1_; have HB := n2_; clear n0_ n1_ n2_; (try clear hb); (try clear hb2); (try clear hk); (try clear hi)) | ((with_reducible refine gate_dst (N := 6) rfl ?_); refine box_event ?hg (N := 6) ?hd (cs := #[.int .i64 0, .int .i64 0]) (t := 40) ?hr ?_; (case hd => rfl); (case hg => rfl); (case hr => first | (go_simp; done) | (go_simp; rfl)); intro gb362 hg w21 hbox hb; have n0_ := bxb BK358 hb; have n1_ := bxb BK359 hb; have n2_ := Aside0.mk (below_step (bwt HB) hb); have n3_ := Aside0.mk (hbox); have n4_ := Aside0.mk ((by rw [hg]; exact (below_size (bwt HB)) : w.heap.size ≤ gb362)); have n5_ := Aside0.mk ((by rw [hg]; exact (below_size (bwt HB)) : w.heap.size ≤ gb362)); have n6_ := nlt_ BK358 hg; have n7_ := ngt_ BK358 hg; have n8_ := nlt_ BK359 hg; have n9_ := ngt_ BK359 hg; clear BK358; clear BK359; clear HB; have BK358 := n0_; have BK359 := n1_; have HB := n2_; have BK362 := n3_; have GW362 := n4_; have GE362 := n5_; have NB358_362 := n6_; have NB362_358 := n7_; have NB359_362 := n8_; have NB362_359 := n9_; clear n0_ n1_ n2_ n3_ n4_ n5_ n6_ n7_ n8_ n9_; clear hb hbox hg; have hnb22 := NB362_358.out; have hnc22 := NB358_362.out; have hnb23 := NB362_359.out; have hnc23 := NB359_362.out; have hcz24_0 : w21.cell? ⟨gb362, 0, none⟩ = some (.int .i64 0) := bc BK362 0; have hcz24_1 : w21.cell? ⟨gb362, 1, none⟩ = some (.int .i64 0) := bc BK362 1; have hfz24_0 := blk_frozen BK362.out 0; have hfz24_1 := blk_frozen BK362.out 1; have hcz25_0 : w21.cell? ⟨gb359, 0, none⟩ = some (.int .i64 0) := bc BK359 0; have hcz25_1 : w21.cell? ⟨gb359, 1, none⟩ = some (.int .i64 0) := bc BK359 1; have hfz25_0 := blk_frozen BK359.out 0; have hfz25_1 := blk_frozen BK359.out 1))
      refine bodyPost_ret (results_ct rfl _ _ gb359 40 #[.int .i64 0, .int .i64 0] (0, 0) _ rfl (by (with_reducible repeat refine bp_ ?_); refine blk_put (cs := #[.int .i64 0, .int .i64 0]) ?_ 1 _ rfl; (with_reducible repeat refine bp_ ?_); refine blk_put (cs := #[.int .i64 0, .int .i64 0]) ?_ 0 _ rfl; (with_reducible repeat refine bp_ ?_); refine blk_far ?_ NB359_362.out _; (with_reducible repeat refine bp_ ?_); refine blk_far ?_ NB359_362.out _; (with_reducible repeat refine bp_ ?_); exact BK359.out) Try.underlying40 rfl (by kernel_rfl)) rfl ?_
      exact ⟨by first | rfl | (simp [errW_none, errW_some] <;> rfl) | (simp [*, errW_none, errW_some] <;> rfl), by repeat (first | (with_reducible first | exact HB.out | apply below_alloc | apply pw_below_drewN | apply below_drew1 | refine below_set ?_ GE358.out | refine below_set ?_ GE359.out | refine below_set ?_ GE362.out) | exact HB.out)⟩
    · rw [if_neg c15] at H
      have c15b0 : decide (4000000 < a1) = false := decide_eq_false c15
      clear c15
      obtain ⟨ji26, hji26⟩ : ∃ j_ : Int, (mx t360 (wrap64 (a1 - a0_3))) = j_ := ⟨_, rfl⟩
      replace H : (some (ji26, mn t361 (wrap64 (a1 + a0_3)), decide ((ji26) ≤ (mn t361 (wrap64 (a1 + a0_3)))))) = some (r1, r2, r3) := by first | (rw [hji26] at H; exact H) | (simp only [hji26] at H ⊢; exact H)
      (try rw [hji26] at A3)
      have hji26_ : (if t360 < (wrap64 (a1 - a0_3)) then (wrap64 (a1 - a0_3)) else t360) = ji26 := hji26
      obtain ⟨ji27, hji27⟩ : ∃ j_ : Int, (mn t361 (wrap64 (a1 + a0_3))) = j_ := ⟨_, rfl⟩
      replace H : (some (ji26, ji27, decide ((ji26) ≤ (ji27)))) = some (r1, r2, r3) := by first | (rw [hji27] at H; exact H) | (simp only [hji27] at H ⊢; exact H)
      (try rw [hji27] at A3)
      have hji27_ : (if (wrap64 (a1 + a0_3)) < t361 then (wrap64 (a1 + a0_3)) else t361) = ji27 := hji27
      simp only [Option.some.injEq, Prod.mk.injEq] at H
      obtain ⟨rfl, rfl, rfl⟩ := H
      go_enter Try.func31, Try.ntmps31
      try go_wp2_with (first | ((with_reducible refine gate_dst (N := 2) rfl ?_); refine box_event ?hg (N := 2) ?hd (cs := #[.int .i64 a0_0, .int .i64 a0_1, .int .i64 a0_2, .int .i64 a0_3, .int .i64 a0_4, .int .i64 a0_5, .bool a0_6]) (t := 28) ?hr ?_; (case hd => rfl); (case hg => rfl); (case hr => first | (go_simp; done) | (go_simp; rfl)); intro gb358 hg w28 hbox hb; have n0_ := Aside0.mk (below_step (by repeat (first | (with_reducible first | exact HB.out | apply below_alloc | apply pw_below_drewN | apply below_drew1) | exact HB.out)) hb); have n1_ := Aside0.mk (hbox); have n2_ := Aside0.mk ((by rw [hg]; exact (below_size (by repeat (first | (with_reducible first | exact HB.out | apply below_alloc | apply pw_below_drewN | apply below_drew1) | exact HB.out))) : w.heap.size ≤ gb358)); have n3_ := Aside0.mk ((by rw [hg]; exact (below_size (by repeat (first | (with_reducible first | exact HB.out | apply below_alloc | apply pw_below_drewN | apply below_drew1) | exact HB.out))) : w.heap.size ≤ gb358)); clear HB; have HB := n0_; have BK358 := n1_; have GW358 := n2_; have GE358 := n3_; clear n0_ n1_ n2_ n3_; clear hb hbox hg) | ((with_reducible refine gate_dst (N := 4) rfl ?_); refine box_event ?hg (N := 4) ?hd (cs := #[.int .i64 0, .int .i64 0]) (t := 40) ?hr ?_; (case hd => rfl); (case hg => rfl); (case hr => first | (go_simp; done) | (go_simp; rfl)); intro gb359 hg w29 hbox hb; have n0_ := bxb BK358 hb; have n1_ := Aside0.mk (below_step (bwt HB) hb); have n2_ := Aside0.mk (hbox); have n3_ := Aside0.mk ((by rw [hg]; exact (below_size (bwt HB)) : w.heap.size ≤ gb359)); have n4_ := Aside0.mk ((by rw [hg]; exact (below_size (bwt HB)) : w.heap.size ≤ gb359)); have n5_ := nlt_ BK358 hg; have n6_ := ngt_ BK358 hg; clear BK358; clear HB; have BK358 := n0_; have HB := n1_; have BK359 := n2_; have GW359 := n3_; have GE359 := n4_; have NB358_359 := n5_; have NB359_358 := n6_; clear n0_ n1_ n2_ n3_ n4_ n5_ n6_; clear hb hbox hg; have hnb30 := NB358_359.out; have hnc30 := NB359_358.out; have hcz31_0 : w29.cell? ⟨gb358, 0, none⟩ = some (.int .i64 a0_0) := bc BK358 0; have hcz31_1 : w29.cell? ⟨gb358, 1, none⟩ = some (.int .i64 a0_1) := bc BK358 1; have hcz31_2 : w29.cell? ⟨gb358, 2, none⟩ = some (.int .i64 a0_2) := bc BK358 2; have hcz31_3 : w29.cell? ⟨gb358, 3, none⟩ = some (.int .i64 a0_3) := bc BK358 3; have hcz31_4 : w29.cell? ⟨gb358, 4, none⟩ = some (.int .i64 a0_4) := bc BK358 4; have hcz31_5 : w29.cell? ⟨gb358, 5, none⟩ = some (.int .i64 a0_5) := bc BK358 5; have hcz31_6 : w29.cell? ⟨gb358, 6, none⟩ = some (.bool a0_6) := bc BK358 6; have hfz31_0 := blk_frozen BK358.out 0; have hfz31_1 := blk_frozen BK358.out 1; have hfz31_2 := blk_frozen BK358.out 2; have hfz31_3 := blk_frozen BK358.out 3; have hfz31_4 := blk_frozen BK358.out 4; have hfz31_5 := blk_frozen BK358.out 5; have hfz31_6 := blk_frozen BK358.out 6) | ((with_reducible refine gate_callee (f := 18) rfl ?_); refine goesL_ (some 9) rfl rfl Try.func18 (by kernel_rfl) rfl #[.agg #[.int .i64 a0_0, .int .i64 a0_1, .int .i64 a0_2, .int .i64 a0_3, .int .i64 a0_4, .int .i64 a0_5, .bool a0_6]] rfl (by (try simp only [List.map_toArray, List.map_cons, List.map_nil]); first | done | rfl | (simp only [List.length_drop, List.length_take]; rfl)) ?_; (with_reducible refine (wireloomref45_Outlook.calls a0_0 a0_1 a0_2 a0_3 a0_4 a0_5 a0_6 t360 t361 _ A3.out).mono ?_); rintro e w32 ⟨rfl, hb⟩; refine ⟨_, rfl, ?_⟩; have n0_ := bxb BK358 hb; have n1_ := bxb BK359 hb; have n2_ := Aside0.mk (below_step (bwt HB) hb); clear BK358; clear BK359; clear HB; have BK358 := n0_; have BK359 := n1_; have HB := n2_; clear n0_ n1_ n2_; (try clear hb); (try clear hb2); (try clear hk); (try clear hi)) | ((with_reducible refine gate_dst (N := 6) rfl ?_); refine box_event ?hg (N := 6) ?hd (cs := #[.int .i64 0, .int .i64 0]) (t := 40) ?hr ?_; (case hd => rfl); (case hg => rfl); (case hr => first | (go_simp; done) | (go_simp; rfl)); intro gb362 hg w33 hbox hb; have n0_ := bxb BK358 hb; have n1_ := bxb BK359 hb; have n2_ := Aside0.mk (below_step (bwt HB) hb); have n3_ := Aside0.mk (hbox); have n4_ := Aside0.mk ((by rw [hg]; exact (below_size (bwt HB)) : w.heap.size ≤ gb362)); have n5_ := Aside0.mk ((by rw [hg]; exact (below_size (bwt HB)) : w.heap.size ≤ gb362)); have n6_ := nlt_ BK358 hg; have n7_ := ngt_ BK358 hg; have n8_ := nlt_ BK359 hg; have n9_ := ngt_ BK359 hg; clear BK358; clear BK359; clear HB; have BK358 := n0_; have BK359 := n1_; have HB := n2_; have BK362 := n3_; have GW362 := n4_; have GE362 := n5_; have NB358_362 := n6_; have NB362_358 := n7_; have NB359_362 := n8_; have NB362_359 := n9_; clear n0_ n1_ n2_ n3_ n4_ n5_ n6_ n7_ n8_ n9_; clear hb hbox hg; have hnb34 := NB362_358.out; have hnc34 := NB358_362.out; have hnb35 := NB362_359.out; have hnc35 := NB359_362.out; have hcz36_0 : w33.cell? ⟨gb362, 0, none⟩ = some (.int .i64 0) := bc BK362 0; have hcz36_1 : w33.cell? ⟨gb362, 1, none⟩ = some (.int .i64 0) := bc BK362 1; have hfz36_0 := blk_frozen BK362.out 0; have hfz36_1 := blk_frozen BK362.out 1; have hcz37_0 : w33.cell? ⟨gb358, 0, none⟩ = some (.int .i64 a0_0) := bc BK358 0; have hcz37_1 : w33.cell? ⟨gb358, 1, none⟩ = some (.int .i64 a0_1) := bc BK358 1; have hcz37_2 : w33.cell? ⟨gb358, 2, none⟩ = some (.int .i64 a0_2) := bc BK358 2; have hcz37_3 : w33.cell? ⟨gb358, 3, none⟩ = some (.int .i64 a0_3) := bc BK358 3; have hcz37_4 : w33.cell? ⟨gb358, 4, none⟩ = some (.int .i64 a0_4) := bc BK358 4; have hcz37_5 : w33.cell? ⟨gb358, 5, none⟩ = some (.int .i64 a0_5) := bc BK358 5; have hcz37_6 : w33.cell? ⟨gb358, 6, none⟩ = some (.bool a0_6) := bc BK358 6; have hfz37_0 := blk_frozen BK358.out 0; have hfz37_1 := blk_frozen BK358.out 1; have hfz37_2 := blk_frozen BK358.out 2; have hfz37_3 := blk_frozen BK358.out 3; have hfz37_4 := blk_frozen BK358.out 4; have hfz37_5 := blk_frozen BK358.out 5; have hfz37_6 := blk_frozen BK358.out 6) | ((with_reducible refine gate_dst (N := 7) rfl ?_); refine box_event ?hg (N := 7) ?hd (cs := #[.int .i64 0, .int .i64 0]) (t := 40) ?hr ?_; (case hd => rfl); (case hg => rfl); (case hr => first | (go_simp; done) | (go_simp; rfl)); intro gb363 hg w38 hbox hb; have n0_ := Aside0.mk (blk_below (g := gb358) (o := .cells #[.int .i64 a0_0, .int .i64 a0_1, .int .i64 a0_2, .int .i64 a0_3, .int .i64 a0_4, .int .i64 a0_5, .bool a0_6] 28 (0, 0)) (by (with_reducible repeat refine bp_ ?_); refine blk_far ?_ NB358_362.out _; (with_reducible repeat refine bp_ ?_); refine blk_far ?_ NB358_362.out _; (with_reducible repeat refine bp_ ?_); exact BK358.out) hb); have n1_ := Aside0.mk (blk_below (g := gb359) (o := .cells #[.int .i64 0, .int .i64 0] 40 (0, 0)) (by (with_reducible repeat refine bp_ ?_); refine blk_far ?_ NB359_362.out _; (with_reducible repeat refine bp_ ?_); refine blk_far ?_ NB359_362.out _; (with_reducible repeat refine bp_ ?_); exact BK359.out) hb); have n2_ := Aside0.mk (blk_below (g := gb362) (o := .cells #[.int .i64 t360, .int .i64 t361] 40 (0, 0)) (by (with_reducible repeat refine bp_ ?_); refine blk_put (cs := #[.int .i64 t360, .int .i64 0]) ?_ 1 _ rfl; (with_reducible repeat refine bp_ ?_); refine blk_put (cs := #[.int .i64 0, .int .i64 0]) ?_ 0 _ rfl; (with_reducible repeat refine bp_ ?_); exact BK362.out) hb); have n3_ := Aside0.mk (below_step (by repeat (first | (with_reducible first | exact HB.out | apply below_alloc | apply pw_below_drewN | apply below_drew1 | refine below_set ?_ GE358.out | refine below_set ?_ GE359.out | refine below_set ?_ GE362.out) | exact HB.out)) hb); have n4_ := Aside0.mk (hbox); have n5_ := Aside0.mk ((by rw [hg]; exact (below_size (by repeat (first | (with_reducible first | exact HB.out | apply below_alloc | apply pw_below_drewN | apply below_drew1 | refine below_set ?_ GE358.out | refine below_set ?_ GE359.out | refine below_set ?_ GE362.out) | exact HB.out))) : w.heap.size ≤ gb363)); have n6_ := Aside0.mk ((by rw [hg]; exact (below_size (by repeat (first | (with_reducible first | exact HB.out | apply below_alloc | apply pw_below_drewN | apply below_drew1 | refine below_set ?_ GE358.out | refine below_set ?_ GE359.out | refine below_set ?_ GE362.out) | exact HB.out))) : w.heap.size ≤ gb363)); have n7_ := Aside0.mk ((by rw [hg]; exact Nat.ne_of_lt (blk_lt (g := gb358) (o := .cells #[.int .i64 a0_0, .int .i64 a0_1, .int .i64 a0_2, .int .i64 a0_3, .int .i64 a0_4, .int .i64 a0_5, .bool a0_6] 28 (0, 0)) (by (with_reducible repeat refine bp_ ?_); refine blk_far ?_ NB358_362.out _; (with_reducible repeat refine bp_ ?_); refine blk_far ?_ NB358_362.out _; (with_reducible repeat refine bp_ ?_); exact BK358.out)) : gb358 ≠ gb363)); have n8_ := Aside0.mk ((by rw [hg]; exact Nat.ne_of_gt (blk_lt (g := gb358) (o := .cells #[.int .i64 a0_0, .int .i64 a0_1, .int .i64 a0_2, .int .i64 a0_3, .int .i64 a0_4, .int .i64 a0_5, .bool a0_6] 28 (0, 0)) (by (with_reducible repeat refine bp_ ?_); refine blk_far ?_ NB358_362.out _; (with_reducible repeat refine bp_ ?_); refine blk_far ?_ NB358_362.out _; (with_reducible repeat refine bp_ ?_); exact BK358.out)) : gb363 ≠ gb358)); have n9_ := Aside0.mk ((by rw [hg]; exact Nat.ne_of_lt (blk_lt (g := gb359) (o := .cells #[.int .i64 0, .int .i64 0] 40 (0, 0)) (by (with_reducible repeat refine bp_ ?_); refine blk_far ?_ NB359_362.out _; (with_reducible repeat refine bp_ ?_); refine blk_far ?_ NB359_362.out _; (with_reducible repeat refine bp_ ?_); exact BK359.out)) : gb359 ≠ gb363)); have n10_ := Aside0.mk ((by rw [hg]; exact Nat.ne_of_gt (blk_lt (g := gb359) (o := .cells #[.int .i64 0, .int .i64 0] 40 (0, 0)) (by (with_reducible repeat refine bp_ ?_); refine blk_far ?_ NB359_362.out _; (with_reducible repeat refine bp_ ?_); refine blk_far ?_ NB359_362.out _; (with_reducible repeat refine bp_ ?_); exact BK359.out)) : gb363 ≠ gb359)); have n11_ := Aside0.mk ((by rw [hg]; exact Nat.ne_of_lt (blk_lt (g := gb362) (o := .cells #[.int .i64 t360, .int .i64 t361] 40 (0, 0)) (by (with_reducible repeat refine bp_ ?_); refine blk_put (cs := #[.int .i64 t360, .int .i64 0]) ?_ 1 _ rfl; (with_reducible repeat refine bp_ ?_); refine blk_put (cs := #[.int .i64 0, .int .i64 0]) ?_ 0 _ rfl; (with_reducible repeat refine bp_ ?_); exact BK362.out)) : gb362 ≠ gb363)); have n12_ := Aside0.mk ((by rw [hg]; exact Nat.ne_of_gt (blk_lt (g := gb362) (o := .cells #[.int .i64 t360, .int .i64 t361] 40 (0, 0)) (by (with_reducible repeat refine bp_ ?_); refine blk_put (cs := #[.int .i64 t360, .int .i64 0]) ?_ 1 _ rfl; (with_reducible repeat refine bp_ ?_); refine blk_put (cs := #[.int .i64 0, .int .i64 0]) ?_ 0 _ rfl; (with_reducible repeat refine bp_ ?_); exact BK362.out)) : gb363 ≠ gb362)); clear BK358; clear BK359; clear BK362; clear HB; have BK358 := n0_; have BK359 := n1_; have BK362 := n2_; have HB := n3_; have BK363 := n4_; have GW363 := n5_; have GE363 := n6_; have NB358_363 := n7_; have NB363_358 := n8_; have NB359_363 := n9_; have NB363_359 := n10_; have NB362_363 := n11_; have NB363_362 := n12_; clear n0_ n1_ n2_ n3_ n4_ n5_ n6_ n7_ n8_ n9_ n10_ n11_ n12_; clear hb hbox hg; have hnb39 := NB363_358.out; have hnc39 := NB358_363.out; have hnb40 := NB363_359.out; have hnc40 := NB359_363.out; have hnb41 := NB363_362.out; have hnc41 := NB362_363.out; have hcz42_0 : w38.cell? ⟨gb363, 0, none⟩ = some (.int .i64 0) := bc BK363 0; have hcz42_1 : w38.cell? ⟨gb363, 1, none⟩ = some (.int .i64 0) := bc BK363 1; have hfz42_0 := blk_frozen BK363.out 0; have hfz42_1 := blk_frozen BK363.out 1))
      have n0_ : Aside0 (((w38.setCell ⟨gb363, 0, none⟩ (.int .i64 ji26)).setCell ⟨gb363, 1, none⟩ (.int .i64 ji27)).heap[gb358]? = some (.cells #[.int .i64 a0_0, .int .i64 a0_1, .int .i64 a0_2, .int .i64 a0_3, .int .i64 a0_4, .int .i64 a0_5, .bool a0_6] 28 (0, 0))) := ⟨by (with_reducible repeat refine bp_ ?_); refine blk_far ?_ NB358_363.out _; (with_reducible repeat refine bp_ ?_); refine blk_far ?_ NB358_363.out _; (with_reducible repeat refine bp_ ?_); exact BK358.out⟩
      have n1_ : Aside0 (((w38.setCell ⟨gb363, 0, none⟩ (.int .i64 ji26)).setCell ⟨gb363, 1, none⟩ (.int .i64 ji27)).heap[gb359]? = some (.cells #[.int .i64 0, .int .i64 0] 40 (0, 0))) := ⟨by (with_reducible repeat refine bp_ ?_); refine blk_far ?_ NB359_363.out _; (with_reducible repeat refine bp_ ?_); refine blk_far ?_ NB359_363.out _; (with_reducible repeat refine bp_ ?_); exact BK359.out⟩
      have n2_ : Aside0 (((w38.setCell ⟨gb363, 0, none⟩ (.int .i64 ji26)).setCell ⟨gb363, 1, none⟩ (.int .i64 ji27)).heap[gb362]? = some (.cells #[.int .i64 t360, .int .i64 t361] 40 (0, 0))) := ⟨by (with_reducible repeat refine bp_ ?_); refine blk_far ?_ NB362_363.out _; (with_reducible repeat refine bp_ ?_); refine blk_far ?_ NB362_363.out _; (with_reducible repeat refine bp_ ?_); exact BK362.out⟩
      have n3_ : Aside0 (((w38.setCell ⟨gb363, 0, none⟩ (.int .i64 ji26)).setCell ⟨gb363, 1, none⟩ (.int .i64 ji27)).heap[gb363]? = some (.cells #[.int .i64 ji26, .int .i64 ji27] 40 (0, 0))) := ⟨by (with_reducible repeat refine bp_ ?_); refine blk_put (cs := #[.int .i64 ji26, .int .i64 0]) ?_ 1 _ rfl; (with_reducible repeat refine bp_ ?_); refine blk_put (cs := #[.int .i64 0, .int .i64 0]) ?_ 0 _ rfl; (with_reducible repeat refine bp_ ?_); exact BK363.out⟩
      have n4_ : Aside0 (Below w.heap.size w ((w38.setCell ⟨gb363, 0, none⟩ (.int .i64 ji26)).setCell ⟨gb363, 1, none⟩ (.int .i64 ji27))) := ⟨by repeat (first | (with_reducible first | exact HB.out | apply below_alloc | apply pw_below_drewN | apply below_drew1 | refine below_set ?_ GE358.out | refine below_set ?_ GE359.out | refine below_set ?_ GE362.out | refine below_set ?_ GE363.out) | exact HB.out)⟩
      (try clear BK358)
      (try clear BK359)
      (try clear BK362)
      (try clear BK363)
      (try clear HB)
      generalize ((w38.setCell ⟨gb363, 0, none⟩ (.int .i64 ji26)).setCell ⟨gb363, 1, none⟩ (.int .i64 ji27)) = w43 at n0_ n1_ n2_ n3_ n4_ ⊢
      have BK358 := n0_
      have BK359 := n1_
      have BK362 := n2_
      have BK363 := n3_
      have HB := n4_
      clear n0_ n1_ n2_ n3_ n4_
      have n0_ := Aside0.mk (blk_drew BK358.out)
      have n1_ := Aside0.mk (blk_drew BK359.out)
      have n2_ := Aside0.mk (blk_drew BK362.out)
      have n3_ := Aside0.mk (blk_drew BK363.out)
      have n4_ := Aside0.mk (below_drew1 HB.out)
      clear BK358
      clear BK359
      clear BK362
      clear BK363
      clear HB
      have BK358 := n0_
      have BK359 := n1_
      have BK362 := n2_
      have BK363 := n3_
      have HB := n4_
      clear n0_ n1_ n2_ n3_ n4_
      refine start_ (n := 8) (S := fun w' => w'.cell? ⟨gb363, 0, none⟩ = some (.int .i64 ji26) ∧ w'.cell? ⟨gb363, 1, none⟩ = some (.int .i64 ji27)) (ds := []) #[false, false, false, false, false, false, false, false] (by kernel_rfl) rfl rfl ⟨bc BK363 0, bc BK363 1⟩ (fun hHeld => ?_); refine with_tabW wireloomref45_seen.tab5 wireloomref45_seen.bits5 (fun HT_ HW_ => ?_)
      generalize w43.drew = w44 at BK358 BK359 BK362 BK363 HB hHeld ⊢
      refine pure_ (i := 1) (N := some 33) (v := ?_) (a' := ?_) #[false, true, false, false, false, false, false, false] rfl rfl (any_of HT_.out (by kernel_rfl)) (fun _ _ _ h => h) (Or.inl ⟨by rfl, ?_⟩) ?_ ?_
      rotate_left
      · intro w'
        go_simp
        with_reducible rfl
      rotate_left
      · simp only [Act.put, List.setIfInBounds_toArray, List.set_cons_zero, List.set_cons_succ, i64_w, i32_w]
        rfl
      refine pure_ (i := 3) (N := some 35) (v := ?_) (a' := ?_) #[false, true, false, true, false, false, false, false] rfl rfl (any_of HT_.out (by kernel_rfl)) (fun _ _ _ h => h) (Or.inl ⟨by rfl, ?_⟩) ?_ ?_
      rotate_left
      · intro w'
        go_simp
        with_reducible rfl
      rotate_left
      · simp only [Act.put, List.setIfInBounds_toArray, List.set_cons_zero, List.set_cons_succ, i64_w, i32_w]
        rfl
      refine take_ (i := 0) (N := some 32) (v := ?_) (a' := ?_) #[true, true, false, true, false, false, false, false] rfl rfl (take_ofW HT_.out HW_.out (by kernel_rfl)) (fun _ _ _ h => h) (Or.inl ⟨by rfl, ?_⟩) hHeld ?_ ?_
      rotate_left
      · rintro w' ⟨s0, s1⟩
        go_simp
        with_reducible rfl
      rotate_left
      · simp only [Act.put, List.setIfInBounds_toArray, List.set_cons_zero, List.set_cons_succ, i64_w, i32_w]
        rfl
      refine take_ (i := 2) (N := some 34) (v := ?_) (a' := ?_) #[true, true, true, true, false, false, false, false] rfl rfl (take_ofW HT_.out HW_.out (by kernel_rfl)) (fun _ _ _ h => h) (Or.inl ⟨by rfl, ?_⟩) hHeld ?_ ?_
      rotate_left
      · rintro w' ⟨s0, s1⟩
        go_simp
        with_reducible rfl
      rotate_left
      · simp only [Act.put, List.setIfInBounds_toArray, List.set_cons_zero, List.set_cons_succ, i64_w, i32_w]
        rfl
      refine take_ (i := 4) (N := some 36) (v := ?_) (a' := ?_) #[true, true, true, true, true, false, false, false] rfl rfl (take_ofW HT_.out HW_.out (by kernel_rfl)) (fun _ _ _ h => h) (Or.inl ⟨by rfl, ?_⟩) hHeld ?_ ?_
      rotate_left
      · rintro w' ⟨s0, s1⟩
        go_simp
        with_reducible rfl
      rotate_left
      · simp only [Act.put, List.setIfInBounds_toArray, List.set_cons_zero, List.set_cons_succ, i64_w, i32_w]
        rfl
      refine pure_ (i := 5) (N := some 37) (v := ?_) (a' := ?_) #[true, true, true, true, true, true, false, false] rfl rfl (any_of HT_.out (by kernel_rfl)) (fun _ _ _ h => h) (Or.inl ⟨by rfl, ?_⟩) ?_ ?_
      rotate_left
      · intro w'
        go_simp
        with_reducible rfl
      rotate_left
      · simp only [Act.put, List.setIfInBounds_toArray, List.set_cons_zero, List.set_cons_succ, i64_w, i32_w]
        rfl
      refine one_ (i := 6) (N := none) #[true, true, true, true, true, true, true, false] rfl rfl (one_of HT_.out (by kernel_rfl)) (by decide) (fun K hK => ?_)
      have hs45 : w44.cell? ⟨gb359, 0, none⟩ = some (.int .i64 0) := bc BK359 0
      have hfs45 := blk_frozen BK359.out 0
      have hns45_0 := NB358_359.out
      have hns45_2 := NB362_359.out
      have hns45_3 := NB363_359.out
      have hms45_0 := NB359_358.out
      have hms45_2 := NB359_362.out
      have hms45_3 := NB359_363.out
      have hs46 : w44.cell? ⟨gb359, 1, none⟩ = some (.int .i64 0) := bc BK359 1
      have hfs46 := blk_frozen BK359.out 1
      have hns46_0 := NB358_359.out
      have hns46_2 := NB362_359.out
      have hns46_3 := NB363_359.out
      have hms46_0 := NB359_358.out
      have hms46_2 := NB359_362.out
      have hms46_3 := NB359_363.out
      with_reducible refine skip_ (w1 := ?_) ?_ ?_ ?_ ?_
      rotate_left
      · rfl
      · rfl
      · first | (apply store_box BK359; (case hop => rfl); (case hp => rfl); (case hv => rfl); (case hg => with_reducible (repeat (refine blk_far ?_ (by assumption) _); exact bx0 BK359)); (case hi => kernel_rfl); (case ho => rfl); (case h1 => rfl); (case hw => simp only [setCells, Nat.zero_add, Nat.reduceAdd]; rfl)) | (go_simp; rfl)
      refine hK.out _ _ ⟨(by with_reducible (repeat (refine (cell_far (p := ⟨gb359, _, none⟩) NB363_359.out _).trans ?_)); exact hHeld.1), (by with_reducible (repeat (refine (cell_far (p := ⟨gb359, _, none⟩) NB363_359.out _).trans ?_)); exact hHeld.2)⟩ (fun hHeld => ?_)
      clear hK K
      refine pure_ (i := 7) (N := some 5) (v := ?_) (a' := ?_) #[true, true, true, true, true, true, true, true] rfl rfl (any_of HT_.out (by kernel_rfl)) (fun _ _ _ h => h) (Or.inl ⟨by rfl, ?_⟩) ?_ ?_
      rotate_left
      · intro w'
        go_simp
        with_reducible rfl
      rotate_left
      · simp only [Act.put, List.setIfInBounds_toArray, List.set_cons_zero, List.set_cons_succ, i64_w, i32_w]
        rfl
      refine done_ (done_of HT_.out (by kernel_rfl)) ?_
      try go_wp2
      refine bodyPost_ret (results_ct rfl _ _ gb359 40 #[.int .i64 ji26, .int .i64 ji27] (0, 0) _ rfl (by (with_reducible repeat refine bp_ ?_); refine blk_put (cs := #[.int .i64 ji26, .int .i64 0]) ?_ 1 _ rfl; (with_reducible repeat refine bp_ ?_); refine blk_put (cs := #[.int .i64 0, .int .i64 0]) ?_ 0 _ rfl; (with_reducible repeat refine bp_ ?_); exact BK359.out) Try.underlying40 rfl (by kernel_rfl)) rfl ?_
      exact ⟨by first | rfl | (simp [errW_none, errW_some] <;> rfl) | (simp only [← hji26, ← hji27]; first | rfl | (simp [errW_none, errW_some] <;> rfl)) | (simp [*, errW_none, errW_some] <;> rfl), by repeat (first | (with_reducible first | exact HB.out | apply below_alloc | apply pw_below_drewN | apply below_drew1 | refine below_set ?_ GE358.out | refine below_set ?_ GE359.out | refine below_set ?_ GE362.out | refine below_set ?_ GE363.out) | exact HB.out)⟩

end Go.Proofs.Ytlofmgdjnaajjaa.Q

namespace Go.Proofs.Ytlofmgdjnaajjaa.Q
open Go.RowKit Go.Proofs.YtlofmgdjnaajjaaW.PrintWords Go.Proofs.YtlofmgdjnaajjaaW.PrintLast Go.Proofs.YtlofmgdjnaajjaaW.PrintMore
attribute [local go_sem] run_makeFunc_own max2_int min2_int max_two min_two max_three min_three max_four min_four   -- for this text's walks alone
set_option linter.unusedVariables false
set_option linter.unusedSimpArgs false

/-! ### wireloomref45_Agrees: function 20 -/
def wireloomref45_Agrees.f (a0_0 : Int) (a0_1 : Int) (a0_2 : Int) (a0_3 : Int) (a0_4 : Int) (a0_5 : Int) (a0_6 : Bool) (a1 : Int) : Option (Bool) := (wireloomref45_seen.f a0_0 a0_1 a0_2 a0_3 a0_4 a0_5 a0_6 a1).bind fun bt378 => (some bt378.2.2)
set_option maxHeartbeats 8000000 in
set_option maxRecDepth 100000 in
theorem wireloomref45_Agrees.calls (a0_0 : Int) (a0_1 : Int) (a0_2 : Int) (a0_3 : Int) (a0_4 : Int) (a0_5 : Int) (a0_6 : Bool) (a1 : Int) (r : Bool) (w : World) (h : wireloomref45_Agrees.f a0_0 a0_1 a0_2 a0_3 a0_4 a0_5 a0_6 a1 = some r) :
    Calls Try.prog 20 #[.agg #[.int .i64 a0_0, .int .i64 a0_1, .int .i64 a0_2, .int .i64 a0_3, .int .i64 a0_4, .int .i64 a0_5, .bool a0_6], .int .i64 a1] w fun e w' => e = .returned (.bool r) ∧ Below w.heap.size w w' := by
  have hu28 := Try.underlying28
  have hu40 := Try.underlying40
  have HB := Aside0.mk (Below.refl w.heap.size w)
  have H : ((wireloomref45_seen.f a0_0 a0_1 a0_2 a0_3 a0_4 a0_5 a0_6 a1).bind fun bt378 => (some bt378.2.2)) = some r := h
  clear h
  replace H := Option.bind_eq_some_iff.mp H
  obtain ⟨⟨t378, t379, t380⟩, A30, H⟩ := H
  replace H : (some t380) = some r := H
  have A3 := Aside0.mk A30
  clear A30
  obtain rfl := Option.some.inj H
  go_enter Try.func20, Try.ntmps20
  go_wp2_with (first | ((with_reducible refine gate_dst (N := 2) rfl ?_); refine box_event ?hg (N := 2) ?hd (cs := #[.int .i64 a0_0, .int .i64 a0_1, .int .i64 a0_2, .int .i64 a0_3, .int .i64 a0_4, .int .i64 a0_5, .bool a0_6]) (t := 28) ?hr ?_; (case hd => rfl); (case hg => rfl); (case hr => first | (go_simp; done) | (go_simp; rfl)); intro gb377 hg w4 hbox hb; have n0_ := Aside0.mk (below_step (by repeat (first | (with_reducible first | exact HB.out | apply below_alloc | apply pw_below_drewN | apply below_drew1) | exact HB.out)) hb); have n1_ := Aside0.mk (hbox); have n2_ := Aside0.mk ((by rw [hg]; exact (below_size (by repeat (first | (with_reducible first | exact HB.out | apply below_alloc | apply pw_below_drewN | apply below_drew1) | exact HB.out))) : w.heap.size ≤ gb377)); have n3_ := Aside0.mk ((by rw [hg]; exact (below_size (by repeat (first | (with_reducible first | exact HB.out | apply below_alloc | apply pw_below_drewN | apply below_drew1) | exact HB.out))) : w.heap.size ≤ gb377)); clear HB; have HB := n0_; have BK377 := n1_; have GW377 := n2_; have GE377 := n3_; clear n0_ n1_ n2_ n3_; clear hb hbox hg; have hcz5_0 : w4.cell? ⟨gb377, 0, none⟩ = some (.int .i64 a0_0) := bc BK377 0; have hcz5_1 : w4.cell? ⟨gb377, 1, none⟩ = some (.int .i64 a0_1) := bc BK377 1; have hcz5_2 : w4.cell? ⟨gb377, 2, none⟩ = some (.int .i64 a0_2) := bc BK377 2; have hcz5_3 : w4.cell? ⟨gb377, 3, none⟩ = some (.int .i64 a0_3) := bc BK377 3; have hcz5_4 : w4.cell? ⟨gb377, 4, none⟩ = some (.int .i64 a0_4) := bc BK377 4; have hcz5_5 : w4.cell? ⟨gb377, 5, none⟩ = some (.int .i64 a0_5) := bc BK377 5; have hcz5_6 : w4.cell? ⟨gb377, 6, none⟩ = some (.bool a0_6) := bc BK377 6; have hfz5_0 := blk_frozen BK377.out 0; have hfz5_1 := blk_frozen BK377.out 1; have hfz5_2 := blk_frozen BK377.out 2; have hfz5_3 := blk_frozen BK377.out 3; have hfz5_4 := blk_frozen BK377.out 4; have hfz5_5 := blk_frozen BK377.out 5; have hfz5_6 := blk_frozen BK377.out 6) | ((with_reducible refine gate_callee (f := 31) rfl ?_); refine goesL_ (some 10) rfl rfl Try.func31 (by kernel_rfl) rfl #[.agg #[.int .i64 a0_0, .int .i64 a0_1, .int .i64 a0_2, .int .i64 a0_3, .int .i64 a0_4, .int .i64 a0_5, .bool a0_6], .int .i64 a1] rfl (by (try simp only [List.map_toArray, List.map_cons, List.map_nil]); first | done | rfl | (simp only [List.length_drop, List.length_take]; rfl)) ?_; (with_reducible refine (wireloomref45_seen.calls a0_0 a0_1 a0_2 a0_3 a0_4 a0_5 a0_6 a1 t378 t379 t380 _ A3.out).mono ?_); rintro e w6 ⟨rfl, hb⟩; refine ⟨_, rfl, ?_⟩; have n0_ := bxb BK377 hb; have n1_ := Aside0.mk (below_step (bwt HB) hb); clear BK377; clear HB; have BK377 := n0_; have HB := n1_; clear n0_ n1_; (try clear hb); (try clear hb2); (try clear hk); (try clear hi)) | ((with_reducible refine gate_dst (N := 5) rfl ?_); refine box_event ?hg (N := 5) ?hd (cs := #[.int .i64 0, .int .i64 0]) (t := 40) ?hr ?_; (case hd => rfl); (case hg => rfl); (case hr => first | (go_simp; done) | (go_simp; rfl)); intro gb381 hg w7 hbox hb; have n0_ := bxb BK377 hb; have n1_ := Aside0.mk (below_step (bwt HB) hb); have n2_ := Aside0.mk (hbox); have n3_ := Aside0.mk ((by rw [hg]; exact (below_size (bwt HB)) : w.heap.size ≤ gb381)); have n4_ := Aside0.mk ((by rw [hg]; exact (below_size (bwt HB)) : w.heap.size ≤ gb381)); have n5_ := nlt_ BK377 hg; have n6_ := ngt_ BK377 hg; clear BK377; clear HB; have BK377 := n0_; have HB := n1_; have BK381 := n2_; have GW381 := n3_; have GE381 := n4_; have NB377_381 := n5_; have NB381_377 := n6_; clear n0_ n1_ n2_ n3_ n4_ n5_ n6_; clear hb hbox hg; have hnb8 := NB381_377.out; have hnc8 := NB377_381.out; have hcz9_0 : w7.cell? ⟨gb381, 0, none⟩ = some (.int .i64 0) := bc BK381 0; have hcz9_1 : w7.cell? ⟨gb381, 1, none⟩ = some (.int .i64 0) := bc BK381 1; have hfz9_0 := blk_frozen BK381.out 0; have hfz9_1 := blk_frozen BK381.out 1))
  go_ret
  exact ⟨by first | rfl | (simp [errW_none, errW_some] <;> rfl) | (simp [*, errW_none, errW_some] <;> rfl), by repeat (first | (with_reducible first | exact HB.out | apply below_alloc | apply pw_below_drewN | apply below_drew1 | refine below_set ?_ GE377.out | refine below_set ?_ GE381.out) | exact HB.out)⟩

end Go.Proofs.Ytlofmgdjnaajjaa.Q

namespace Go.Proofs.Ytlofmgdjnaajjaa.Q
open Go.RowKit Go.Proofs.YtlofmgdjnaajjaaW.PrintWords Go.Proofs.YtlofmgdjnaajjaaW.PrintLast Go.Proofs.YtlofmgdjnaajjaaW.PrintMore
attribute [local go_sem] run_makeFunc_own max2_int min2_int max_two min_two max_three min_three max_four min_four   -- for this text's walks alone
set_option linter.unusedVariables false
set_option linter.unusedSimpArgs false

/-! ### wireloomref44_Made: function 23 -/
def wireloomref44_Made.l0 : Nat → Int → Int → Int → Int → Int → Int → List Int → Int → Int → Int → Int → List Int → List Int → Option (Int × Int × Int × Int × List Int × List Int)
  | 0, _, _, _, _, _, _, _, _, _, _, _, _, _ => none
  | k + 1, x5, x6, x324000, x324001, x324002, x324003, x324004, x326000, x326001, x326002, x326003, x326004, x326005 => if (wrap64 (x6 + 1)) < (x324004.length : Int) then (if x6 < 24 then (if 0 ≤ x6 then (if x6 < (x324004.length : Int) then (if (wrap64 ((wrap64 (2 * x326002)) + 1)) = 0 then (none) else (if x326004.length < 17592186044416 then (if 0 ≤ (wrap64 (x6 + 1)) then (if (wrap64 ((wrap64 (2 * x326003)) + 1)) = 0 then (none) else (if x326005.length < 17592186044416 then (wireloomref44_Made.l0 k (mx 1 (wrap64 ((wrap64 (x5 + (Int.tmod (wrap64 (rd x324004 x6)) (wrap64 ((wrap64 (2 * x326002)) + 1))))) - x326002))) (wrap64 (x6 + 2)) x324000 x324001 x324002 x324003 x324004 x326000 x326001 x326002 x326003 (x326004 ++ [mx 1 (wrap64 ((wrap64 (x5 + (Int.tmod (wrap64 (rd x324004 x6)) (wrap64 ((wrap64 (2 * x326002)) + 1))))) - x326002))]) (x326005 ++ [wrap64 ((wrap64 ((mx 1 (wrap64 ((wrap64 (x5 + (Int.tmod (wrap64 (rd x324004 x6)) (wrap64 ((wrap64 (2 * x326002)) + 1))))) - x326002))) + (Int.tmod (wrap64 (rd x324004 (wrap64 (x6 + 1)))) (wrap64 ((wrap64 (2 * x326003)) + 1))))) - x326003)])) else (none))) else (none)) else (none))) else (none)) else (none)) else (some (x326000, x326001, x326002, x326003, x326004, x326005))) else (some (x326000, x326001, x326002, x326003, x326004, x326005))
def wireloomref44_Made.f (k : Nat) (a0_0 : Int) (a0_1 : Int) (a0_2 : Int) (a0_3 : Int) (l0_4 : List Int) : Option (Int × Int × Int × Int × List Int × List Int) := if (wrap64 (1 + (wrap64 (Int.tmod a0_1 8)))) = 0 then (none) else (wireloomref44_Made.l0 k (wrap64 ((wrap64 (1 + (wrap64 (Int.tmod a0_0 40)))) + (Int.tmod (wrap64 (a0_0)) (wrap64 (1 + (wrap64 (Int.tmod a0_1 8))))))) 0 a0_0 a0_1 a0_2 a0_3 l0_4 (wrap64 (1 + (wrap64 (Int.tmod a0_0 40)))) (wrap64 ((wrap64 (1 + (wrap64 (Int.tmod a0_0 40)))) + (wrap64 (Int.tmod a0_1 8)))) (wrap64 (Int.tmod a0_2 6)) (wrap64 (Int.tmod a0_3 6)) (([wrap64 ((wrap64 (1 + (wrap64 (Int.tmod a0_0 40)))) + (Int.tmod (wrap64 (a0_0)) (wrap64 (1 + (wrap64 (Int.tmod a0_1 8))))))] : List Int)) ([] : List Int))
theorem wireloomref44_Made.mono_l : ∀ k, (∀ y0 y1 y2 y3 y4 y5 y6 y7 y8 y9 y10 y11 y12, LeO (wireloomref44_Made.l0 k y0 y1 y2 y3 y4 y5 y6 y7 y8 y9 y10 y11 y12) (wireloomref44_Made.l0 (k + 1) y0 y1 y2 y3 y4 y5 y6 y7 y8 y9 y10 y11 y12))
  | 0 => fun _ _ _ _ _ _ _ _ _ _ _ _ _ r h => by simp [wireloomref44_Made.l0] at h
  | k + 1 => by
    have ih0 := wireloomref44_Made.mono_l k
    · intro y0 y1 y2 y3 y4 y5 y6 y7 y8 y9 y10 y11 y12
      unfold wireloomref44_Made.l0
      repeat' first
      | (with_reducible exact ih0 _ _ _ _ _ _ _ _ _ _ _ _ _)
      | (with_reducible exact LeO.refl _)
      | (with_reducible exact LeO.none _)
      | (with_reducible refine LeO.ite ?_ ?_)
      | (with_reducible refine LeO.bind ?_ (fun _ => ?_))
      | exact ih0 _ _ _ _ _ _ _ _ _ _ _ _ _
      | exact LeO.none _
      | refine LeO.ite ?_ ?_
      | refine LeO.bind ?_ (fun _ => ?_)
theorem wireloomref44_Made.mono : ∀ a0 a1 a2 a3 a4 k, LeO (wireloomref44_Made.f k a0 a1 a2 a3 a4) (wireloomref44_Made.f (k + 1) a0 a1 a2 a3 a4) := by
  intro a0 a1 a2 a3 a4 k
  have ih0 := wireloomref44_Made.mono_l k
  unfold wireloomref44_Made.f
  repeat' first
      | (with_reducible exact ih0 _ _ _ _ _ _ _ _ _ _ _ _ _)
      | (with_reducible exact LeO.refl _)
      | (with_reducible exact LeO.none _)
      | (with_reducible refine LeO.ite ?_ ?_)
      | (with_reducible refine LeO.bind ?_ (fun _ => ?_))
      | exact ih0 _ _ _ _ _ _ _ _ _ _ _ _ _
      | exact LeO.none _
      | refine LeO.ite ?_ ?_
      | refine LeO.bind ?_ (fun _ => ?_)
def wireloomref44_Made.T8 : Bool × List (List Nat × List Nat) := (true, [([], []), ([], []), ([1], [1]), ([], []), ([2, 3], [2, 3]), ([4], [4]), ([5], [5]), ([], []), ([7], [7]), ([8], [8]), ([9], [9]), ([10], [10]), ([6, 11], [6, 11]), ([0, 12], [0, 12]), ([], []), ([14], [14]), ([15], [15]), ([13, 16], [13, 16]), ([17], [17]), ([18, 0, 1, 2, 3, 4, 5, 6, 7, 8, 9, 10, 11, 12, 13, 14, 15, 16, 17, 18], [0, 18])])
def wireloomref44_Made.B8 : List Nat := [0, 0, 2, 0, 14, 30, 62, 0, 128, 384, 896, 1920, 4094, 8191, 0, 16384, 49152, 131071, 262143, 524287]
theorem wireloomref44_Made.tab8 : rtab .any (opsOf Try.f23 8) = wireloomref44_Made.T8 := by kernel_rfl
theorem wireloomref44_Made.bits8 : waitsOk wireloomref44_Made.T8.2 wireloomref44_Made.B8 = true := by kernel_rfl
def wireloomref44_Made.T10 : Bool × List (List Nat × List Nat) := (true, [([], []), ([0], [0]), ([], []), ([], []), ([3], [3]), ([], []), ([5], [5]), ([4, 6], [4, 6]), ([7], [7]), ([8], [8]), ([], []), ([10], [10]), ([11], [11]), ([12], [12]), ([13], [13]), ([9, 14], [9, 14]), ([2, 15], [2, 15]), ([], []), ([17], [17]), ([18], [18]), ([16, 19], [16, 19]), ([20], [20]), ([1, 21], [1, 21]), ([0, 1, 2, 3, 4, 5, 6, 7, 8, 9, 10, 11, 12, 13, 14, 15, 16, 17, 18, 19, 20, 21, 22], []), ([23, 22, 22, 0, 1, 2, 3, 4, 5, 6, 7, 8, 9, 10, 11, 12, 13, 14, 15, 16, 17, 18, 19, 20, 21, 22], [22, 23])])
def wireloomref44_Made.B10 : List Nat := [0, 1, 0, 0, 8, 0, 32, 120, 248, 504, 0, 1024, 3072, 7168, 15360, 32760, 65532, 0, 131072, 393216, 1048572, 2097148, 4194303, 8388607, 16777215]
theorem wireloomref44_Made.tab10 : rtab .any (opsOf Try.f23 10) = wireloomref44_Made.T10 := by kernel_rfl
theorem wireloomref44_Made.bits10 : waitsOk wireloomref44_Made.T10.2 wireloomref44_Made.B10 = true := by kernel_rfl
set_option maxHeartbeats 8000000 in
set_option maxRecDepth 100000 in
theorem wireloomref44_Made.calls (k : Nat) (a0_0 : Int) (a0_1 : Int) (a0_2 : Int) (a0_3 : Int) (A0_4 : Option Addr) (c0_4 : Nat) (l0_4 : List Int) (r1 : Int) (r2 : Int) (r3 : Int) (r4 : Int) (r5 : List Int) (r6 : List Int) (w : World) (hr0_4 : Kd.C (Kd.int .u8) w A0_4 l0_4.length l0_4) (hc0_4 : l0_4.length ≤ c0_4) (h : wireloomref44_Made.f k a0_0 a0_1 a0_2 a0_3 l0_4 = some (r1, r2, r3, r4, r5, r6)) :
    Calls Try.prog 23 #[.agg #[.int .u8 a0_0, .int .u8 a0_1, .int .u8 a0_2, .int .u8 a0_3, .slice A0_4 l0_4.length c0_4]] w fun e w' => ∃ v4_ v5_ : Value, e = .returned (.agg #[.int .i64 r1, .int .i64 r2, .int .i64 r3, .int .i64 r4, v4_, v5_]) ∧ Kd.R (Kd.int .i64) 3 w' w.heap.size (fun k_ => some k_ ≠ (v5_ : Value).ownBlock) v4_ r5 ∧ Kd.R (Kd.int .i64) 3 w' w.heap.size (fun k_ => some k_ ≠ (v4_ : Value).ownBlock) v5_ r6 ∧ Below w.heap.size w w' := by
  have hu24 := Try.underlying24
  have hu49 := Try.underlying49
  have hu46 := Try.underlying46
  have HR0_4 := Aside0.mk hr0_4
  have HC0_4 := Aside0.mk hc0_4
  clear hr0_4 hc0_4
  have HB := Aside0.mk (Below.refl w.heap.size w)
  have H : (if (wrap64 (1 + (wrap64 (Int.tmod a0_1 8)))) = 0 then (none) else (wireloomref44_Made.l0 k (wrap64 ((wrap64 (1 + (wrap64 (Int.tmod a0_0 40)))) + (Int.tmod (wrap64 (a0_0)) (wrap64 (1 + (wrap64 (Int.tmod a0_1 8))))))) 0 a0_0 a0_1 a0_2 a0_3 l0_4 (wrap64 (1 + (wrap64 (Int.tmod a0_0 40)))) (wrap64 ((wrap64 (1 + (wrap64 (Int.tmod a0_0 40)))) + (wrap64 (Int.tmod a0_1 8)))) (wrap64 (Int.tmod a0_2 6)) (wrap64 (Int.tmod a0_3 6)) (([wrap64 ((wrap64 (1 + (wrap64 (Int.tmod a0_0 40)))) + (Int.tmod (wrap64 (a0_0)) (wrap64 (1 + (wrap64 (Int.tmod a0_1 8))))))] : List Int)) ([] : List Int))) = some (r1, r2, r3, r4, r5, r6) := h
  clear h
  by_cases c2 : (wrap64 (1 + (wrap64 (Int.tmod a0_1 8)))) = 0
  · rw [if_pos c2] at H
    exact absurd H (by simp)
  rw [if_neg c2] at H
  have c2b0 : ((wrap64 (1 + (wrap64 (Int.tmod a0_1 8)))) == 0) = false := beq_eq_false_iff_ne.mpr c2
  have c2b1 : ((wrap64 (1 + (wrap64 (Int.tmod a0_1 8)))) != 0) = true := bne_iff_ne.mpr c2
  obtain ⟨y326, hy326⟩ : ∃ y_ : List Int, y_ = (([wrap64 ((wrap64 (1 + (wrap64 (Int.tmod a0_0 40)))) + (Int.tmod (wrap64 (a0_0)) (wrap64 (1 + (wrap64 (Int.tmod a0_1 8))))))] : List Int)) := ⟨_, rfl⟩
  replace H : (wireloomref44_Made.l0 k (wrap64 ((wrap64 (1 + (wrap64 (Int.tmod a0_0 40)))) + (Int.tmod (wrap64 (a0_0)) (wrap64 (1 + (wrap64 (Int.tmod a0_1 8))))))) 0 a0_0 a0_1 a0_2 a0_3 l0_4 (wrap64 (1 + (wrap64 (Int.tmod a0_0 40)))) (wrap64 ((wrap64 (1 + (wrap64 (Int.tmod a0_0 40)))) + (wrap64 (Int.tmod a0_1 8)))) (wrap64 (Int.tmod a0_2 6)) (wrap64 (Int.tmod a0_3 6)) y326 ([] : List Int)) = some (r1, r2, r3, r4, r5, r6) := by first | (rw [hy326]; with_reducible exact H) | (have H2_ := (Option.bind_some _ _).symm.trans H; rw [hy326]; with_reducible exact H2_) | (have H2_ := (Option.bind_some _ _).symm.trans H; with_reducible exact H2_) | with_reducible exact H | (rw [hy326]; exact H) | exact H
  have Ny326 := Aside0.mk hy326
  clear hy326
  have H' := Aside0.mk H
  clear H
  go_enter Try.func23, Try.ntmps23
  go_wp2_with (first | ((with_reducible refine gate_dst (N := 1) rfl ?_); refine box_event ?hg (N := 1) ?hd (cs := #[.int .u8 a0_0, .int .u8 a0_1, .int .u8 a0_2, .int .u8 a0_3, .slice A0_4 l0_4.length c0_4]) (t := 24) ?hr ?_; (case hd => rfl); (case hg => rfl); (case hr => first | (go_simp; done) | (go_simp; rfl)); intro gb323 hg w3 hbox hb; have n0_ := Aside0.mk (below_step (by repeat (first | (with_reducible first | exact HB.out | apply below_alloc | apply pw_below_drewN | apply below_drew1) | exact HB.out)) hb); have n1_ := Aside0.mk (hbox); have n2_ := Aside0.mk ((by rw [hg]; exact (below_size (by repeat (first | (with_reducible first | exact HB.out | apply below_alloc | apply pw_below_drewN | apply below_drew1) | exact HB.out))) : w.heap.size ≤ gb323)); have n3_ := Aside0.mk ((by rw [hg]; exact (below_size (by repeat (first | (with_reducible first | exact HB.out | apply below_alloc | apply pw_below_drewN | apply below_drew1) | exact HB.out))) : w.heap.size ≤ gb323)); clear HB; have HB := n0_; have BK323 := n1_; have GW323 := n2_; have GE323 := n3_; clear n0_ n1_ n2_ n3_; clear hb hbox hg) | ((with_reducible refine gate_dst (N := 2) rfl ?_); refine box_event ?hg (N := 2) ?hd (cs := #[.int .i64 0, .int .i64 0, .int .i64 0, .int .i64 0, .slice none 0 0, .slice none 0 0]) (t := 49) ?hr ?_; (case hd => rfl); (case hg => rfl); (case hr => first | (go_simp; done) | (go_simp; rfl)); intro gb324 hg w4 hbox hb; have n0_ := bxb BK323 hb; have n1_ := Aside0.mk (below_step (bwt HB) hb); have n2_ := Aside0.mk (hbox); have n3_ := Aside0.mk ((by rw [hg]; exact (below_size (bwt HB)) : w.heap.size ≤ gb324)); have n4_ := Aside0.mk ((by rw [hg]; exact (below_size (bwt HB)) : w.heap.size ≤ gb324)); have n5_ := nlt_ BK323 hg; have n6_ := ngt_ BK323 hg; clear BK323; clear HB; have BK323 := n0_; have HB := n1_; have BK324 := n2_; have GW324 := n3_; have GE324 := n4_; have NB323_324 := n5_; have NB324_323 := n6_; clear n0_ n1_ n2_ n3_ n4_ n5_ n6_; clear hb hbox hg; have hnb5 := NB323_324.out; have hnc5 := NB324_323.out; have hcz6_0 : w4.cell? ⟨gb323, 0, none⟩ = some (.int .u8 a0_0) := bc BK323 0; have hcz6_1 : w4.cell? ⟨gb323, 1, none⟩ = some (.int .u8 a0_1) := bc BK323 1; have hcz6_2 : w4.cell? ⟨gb323, 2, none⟩ = some (.int .u8 a0_2) := bc BK323 2; have hcz6_3 : w4.cell? ⟨gb323, 3, none⟩ = some (.int .u8 a0_3) := bc BK323 3; have hcz6_4 : w4.cell? ⟨gb323, 4, none⟩ = some (.slice A0_4 l0_4.length c0_4) := bc BK323 4; have hfz6_0 := blk_frozen BK323.out 0; have hfz6_1 := blk_frozen BK323.out 1; have hfz6_2 := blk_frozen BK323.out 2; have hfz6_3 := blk_frozen BK323.out 3; have hfz6_4 := blk_frozen BK323.out 4) | ((with_reducible refine gate_dst (N := 4) rfl ?_); refine box_event ?hg (N := 4) ?hd (cs := #[.int .i64 0, .int .i64 0, .int .i64 0, .int .i64 0, .slice none 0 0, .slice none 0 0]) (t := 49) ?hr ?_; (case hd => rfl); (case hg => rfl); (case hr => first | (go_simp; done) | (go_simp; rfl)); intro gb325 hg w7 hbox hb; have n0_ := bxb BK323 hb; have n1_ := bxb BK324 hb; have n2_ := Aside0.mk (below_step (bwt HB) hb); have n3_ := Aside0.mk (hbox); have n4_ := Aside0.mk ((by rw [hg]; exact (below_size (bwt HB)) : w.heap.size ≤ gb325)); have n5_ := Aside0.mk ((by rw [hg]; exact (below_size (bwt HB)) : w.heap.size ≤ gb325)); have n6_ := nlt_ BK323 hg; have n7_ := ngt_ BK323 hg; have n8_ := nlt_ BK324 hg; have n9_ := ngt_ BK324 hg; clear BK323; clear BK324; clear HB; have BK323 := n0_; have BK324 := n1_; have HB := n2_; have BK325 := n3_; have GW325 := n4_; have GE325 := n5_; have NB323_325 := n6_; have NB325_323 := n7_; have NB324_325 := n8_; have NB325_324 := n9_; clear n0_ n1_ n2_ n3_ n4_ n5_ n6_ n7_ n8_ n9_; clear hb hbox hg; have hnb8 := NB325_323.out; have hnc8 := NB323_325.out; have hnb9 := NB325_324.out; have hnc9 := NB324_325.out; have hcz10_0 : w7.cell? ⟨gb325, 0, none⟩ = some (.int .i64 0) := bc BK325 0; have hcz10_1 : w7.cell? ⟨gb325, 1, none⟩ = some (.int .i64 0) := bc BK325 1; have hcz10_2 : w7.cell? ⟨gb325, 2, none⟩ = some (.int .i64 0) := bc BK325 2; have hcz10_3 : w7.cell? ⟨gb325, 3, none⟩ = some (.int .i64 0) := bc BK325 3; have hcz10_4 : w7.cell? ⟨gb325, 4, none⟩ = some (.slice none 0 0) := bc BK325 4; have hcz10_5 : w7.cell? ⟨gb325, 5, none⟩ = some (.slice none 0 0) := bc BK325 5; have hfz10_0 := blk_frozen BK325.out 0; have hfz10_1 := blk_frozen BK325.out 1; have hfz10_2 := blk_frozen BK325.out 2; have hfz10_3 := blk_frozen BK325.out 3; have hfz10_4 := blk_frozen BK325.out 4; have hfz10_5 := blk_frozen BK325.out 5; have hcz11_0 : w7.cell? ⟨gb323, 0, none⟩ = some (.int .u8 a0_0) := bc BK323 0; have hcz11_1 : w7.cell? ⟨gb323, 1, none⟩ = some (.int .u8 a0_1) := bc BK323 1; have hcz11_2 : w7.cell? ⟨gb323, 2, none⟩ = some (.int .u8 a0_2) := bc BK323 2; have hcz11_3 : w7.cell? ⟨gb323, 3, none⟩ = some (.int .u8 a0_3) := bc BK323 3; have hcz11_4 : w7.cell? ⟨gb323, 4, none⟩ = some (.slice A0_4 l0_4.length c0_4) := bc BK323 4; have hfz11_0 := blk_frozen BK323.out 0; have hfz11_1 := blk_frozen BK323.out 1; have hfz11_2 := blk_frozen BK323.out 2; have hfz11_3 := blk_frozen BK323.out 3; have hfz11_4 := blk_frozen BK323.out 4) | ((with_reducible refine gate_dst (N := 41) rfl ?_); refine Kd.R_lit (Kd.int .i64) _ 3 ?hg (N := 41) ?hd (xs := ([wrap64 ((wrap64 (1 + (wrap64 (Int.tmod a0_0 40)))) + (Int.tmod (wrap64 (a0_0)) (wrap64 (1 + (wrap64 (Int.tmod a0_1 8))))))] : List Int)) (inner := [.int .i64 (wrap64 ((wrap64 (1 + (wrap64 (Int.tmod a0_0 40)))) + (Int.tmod (wrap64 (a0_0)) (wrap64 (1 + (wrap64 (Int.tmod a0_1 8)))))))]) (ok := fun _ => True) (okp := fun _ => True) ?hr ?hp (fun _ hk => hk) trivial (Below.refl _ _) (Nat.le_refl _) (by simp) ?_; (case hd => rfl); (case hg => rfl); (case hr => first | (go_simp; done) | (go_simp; rfl)); (case hp => exact (Reps.one (show Kd.M (Kd.int .i64) _ _ _ (wrap64 ((wrap64 (1 + (wrap64 (Int.tmod a0_0 40)))) + (Int.tmod (wrap64 (a0_0)) (wrap64 (1 + (wrap64 (Int.tmod a0_1 8))))))) [.int .i64 (wrap64 ((wrap64 (1 + (wrap64 (Int.tmod a0_0 40)))) + (Int.tmod (wrap64 (a0_0)) (wrap64 (1 + (wrap64 (Int.tmod a0_1 8)))))))] from rfl) (Reps.none _ _))); intro v327 w12 ho13 hb hg_ hnew_; clear hg_ hnew_; (first | rw [← Ny326.out] at ho13 | (simp only [Int.reduceToNat] at ho13; rw [← Ny326.out] at ho13)); have n0_ := Aside0.mk (Kd.R_lower ho13 (below_size (by repeat (first | (with_reducible first | exact HB.out | apply below_alloc | apply pw_below_drewN | apply below_drew1 | refine below_set ?_ GE323.out | refine below_set ?_ GE324.out | refine below_set ?_ GE325.out) | exact HB.out)))); have n1_ := Aside0.mk (blk_below (g := gb323) (o := .cells #[.int .u8 a0_0, .int .u8 a0_1, .int .u8 a0_2, .int .u8 a0_3, .slice A0_4 l0_4.length c0_4] 24 (0, 0)) (by (with_reducible repeat refine bp_ ?_); refine blk_far ?_ NB323_325.out _; (with_reducible repeat refine bp_ ?_); refine blk_far ?_ NB323_325.out _; (with_reducible repeat refine bp_ ?_); refine blk_far ?_ NB323_325.out _; (with_reducible repeat refine bp_ ?_); refine blk_far ?_ NB323_325.out _; (with_reducible repeat refine bp_ ?_); refine blk_far ?_ NB323_325.out _; (with_reducible repeat refine bp_ ?_); refine blk_far ?_ NB323_325.out _; (with_reducible repeat refine bp_ ?_); exact BK323.out) hb); have n2_ := Aside0.mk (blk_below (g := gb324) (o := .cells #[.int .i64 0, .int .i64 0, .int .i64 0, .int .i64 0, .slice none 0 0, .slice none 0 0] 49 (0, 0)) (by (with_reducible repeat refine bp_ ?_); refine blk_far ?_ NB324_325.out _; (with_reducible repeat refine bp_ ?_); refine blk_far ?_ NB324_325.out _; (with_reducible repeat refine bp_ ?_); refine blk_far ?_ NB324_325.out _; (with_reducible repeat refine bp_ ?_); refine blk_far ?_ NB324_325.out _; (with_reducible repeat refine bp_ ?_); refine blk_far ?_ NB324_325.out _; (with_reducible repeat refine bp_ ?_); refine blk_far ?_ NB324_325.out _; (with_reducible repeat refine bp_ ?_); exact BK324.out) hb); have n3_ := Aside0.mk (blk_below (g := gb325) (o := .cells #[.int .i64 (wrap64 (1 + (wrap64 (Int.tmod a0_0 40)))), .int .i64 (wrap64 ((wrap64 (1 + (wrap64 (Int.tmod a0_0 40)))) + (wrap64 (Int.tmod a0_1 8)))), .int .i64 (wrap64 (Int.tmod a0_2 6)), .int .i64 (wrap64 (Int.tmod a0_3 6)), .slice none 0 0, .slice none 0 0] 49 (0, 0)) (by (with_reducible repeat refine bp_ ?_); refine blk_put (cs := #[.int .i64 (wrap64 (1 + (wrap64 (Int.tmod a0_0 40)))), .int .i64 (wrap64 ((wrap64 (1 + (wrap64 (Int.tmod a0_0 40)))) + (wrap64 (Int.tmod a0_1 8)))), .int .i64 (wrap64 (Int.tmod a0_2 6)), .int .i64 (wrap64 (Int.tmod a0_3 6)), .slice none 0 0, .slice none 0 0]) ?_ 5 _ rfl; (with_reducible repeat refine bp_ ?_); refine blk_put (cs := #[.int .i64 (wrap64 (1 + (wrap64 (Int.tmod a0_0 40)))), .int .i64 (wrap64 ((wrap64 (1 + (wrap64 (Int.tmod a0_0 40)))) + (wrap64 (Int.tmod a0_1 8)))), .int .i64 (wrap64 (Int.tmod a0_2 6)), .int .i64 (wrap64 (Int.tmod a0_3 6)), .slice none 0 0, .slice none 0 0]) ?_ 4 _ rfl; (with_reducible repeat refine bp_ ?_); refine blk_put (cs := #[.int .i64 (wrap64 (1 + (wrap64 (Int.tmod a0_0 40)))), .int .i64 (wrap64 ((wrap64 (1 + (wrap64 (Int.tmod a0_0 40)))) + (wrap64 (Int.tmod a0_1 8)))), .int .i64 (wrap64 (Int.tmod a0_2 6)), .int .i64 0, .slice none 0 0, .slice none 0 0]) ?_ 3 _ rfl; (with_reducible repeat refine bp_ ?_); refine blk_put (cs := #[.int .i64 (wrap64 (1 + (wrap64 (Int.tmod a0_0 40)))), .int .i64 (wrap64 ((wrap64 (1 + (wrap64 (Int.tmod a0_0 40)))) + (wrap64 (Int.tmod a0_1 8)))), .int .i64 0, .int .i64 0, .slice none 0 0, .slice none 0 0]) ?_ 2 _ rfl; (with_reducible repeat refine bp_ ?_); refine blk_put (cs := #[.int .i64 (wrap64 (1 + (wrap64 (Int.tmod a0_0 40)))), .int .i64 0, .int .i64 0, .int .i64 0, .slice none 0 0, .slice none 0 0]) ?_ 1 _ rfl; (with_reducible repeat refine bp_ ?_); refine blk_put (cs := #[.int .i64 0, .int .i64 0, .int .i64 0, .int .i64 0, .slice none 0 0, .slice none 0 0]) ?_ 0 _ rfl; (with_reducible repeat refine bp_ ?_); exact BK325.out) hb); have n4_ := Aside0.mk (below_step (by repeat (first | (with_reducible first | exact HB.out | apply below_alloc | apply pw_below_drewN | apply below_drew1 | refine below_set ?_ GE323.out | refine below_set ?_ GE324.out | refine below_set ?_ GE325.out) | exact HB.out)) hb); clear BK323; clear BK324; clear BK325; clear HB; have HO328 := n0_; have BK323 := n1_; have BK324 := n2_; have BK325 := n3_; have HB := n4_; clear n0_ n1_ n2_ n3_ n4_; clear hb ho13; obtain ⟨Ao14, co14, eo14⟩ := Kd.R_slice HO328.out; subst eo14; have hcz15_0 : w12.cell? ⟨gb325, 0, none⟩ = some (.int .i64 (wrap64 (1 + (wrap64 (Int.tmod a0_0 40))))) := bc BK325 0; have hcz15_1 : w12.cell? ⟨gb325, 1, none⟩ = some (.int .i64 (wrap64 ((wrap64 (1 + (wrap64 (Int.tmod a0_0 40)))) + (wrap64 (Int.tmod a0_1 8))))) := bc BK325 1; have hcz15_2 : w12.cell? ⟨gb325, 2, none⟩ = some (.int .i64 (wrap64 (Int.tmod a0_2 6))) := bc BK325 2; have hcz15_3 : w12.cell? ⟨gb325, 3, none⟩ = some (.int .i64 (wrap64 (Int.tmod a0_3 6))) := bc BK325 3; have hcz15_4 : w12.cell? ⟨gb325, 4, none⟩ = some (.slice none 0 0) := bc BK325 4; have hcz15_5 : w12.cell? ⟨gb325, 5, none⟩ = some (.slice none 0 0) := bc BK325 5; have hfz15_0 := blk_frozen BK325.out 0; have hfz15_1 := blk_frozen BK325.out 1; have hfz15_2 := blk_frozen BK325.out 2; have hfz15_3 := blk_frozen BK325.out 3; have hfz15_4 := blk_frozen BK325.out 4; have hfz15_5 := blk_frozen BK325.out 5))
  go_loopg [5, 6] k (fun kq v5 v6 w' => ∃ (x5_1 : Int) (x6_1 : Int) (x326004_1 : List Int) (x326005_1 : List Int) (u326004 : Value) (u326005 : Value), v5 = .int .i64 x5_1 ∧ v6 = .int .i64 x6_1 ∧ Aside0 (wireloomref44_Made.l0 kq x5_1 x6_1 a0_0 a0_1 a0_2 a0_3 l0_4 (wrap64 (1 + (wrap64 (Int.tmod a0_0 40)))) (wrap64 ((wrap64 (1 + (wrap64 (Int.tmod a0_0 40)))) + (wrap64 (Int.tmod a0_1 8)))) (wrap64 (Int.tmod a0_2 6)) (wrap64 (Int.tmod a0_3 6)) x326004_1 x326005_1 = some (r1, r2, r3, r4, r5, r6)) ∧ Aside0 (kq ≤ k) ∧ Aside0 (Kd.R (Kd.int .i64) 3 w' w.heap.size (fun k_ => some k_ ≠ (u326005 : Value).ownBlock) u326004 x326004_1) ∧ Aside0 (Kd.R (Kd.int .i64) 3 w' w.heap.size (fun k_ => some k_ ≠ (u326004 : Value).ownBlock) u326005 x326005_1) ∧ Aside0 (w'.heap[gb323]? = some (.cells #[.int .u8 a0_0, .int .u8 a0_1, .int .u8 a0_2, .int .u8 a0_3, (.slice A0_4 l0_4.length c0_4)] 24 (0, 0))) ∧ Aside0 (w'.heap[gb324]? = some (.cells #[.int .i64 0, .int .i64 0, .int .i64 0, .int .i64 0, (.slice none 0 0), (.slice none 0 0)] 49 (0, 0))) ∧ Aside0 (w'.heap[gb325]? = some (.cells #[.int .i64 (wrap64 (1 + (wrap64 (Int.tmod a0_0 40)))), .int .i64 (wrap64 ((wrap64 (1 + (wrap64 (Int.tmod a0_0 40)))) + (wrap64 (Int.tmod a0_1 8)))), .int .i64 (wrap64 (Int.tmod a0_2 6)), .int .i64 (wrap64 (Int.tmod a0_3 6)), u326004, u326005] 49 (0, 0))) ∧ Aside0 (Below w.heap.size w w'))
  case atStart => exact ⟨(wrap64 ((wrap64 (1 + (wrap64 (Int.tmod a0_0 40)))) + (Int.tmod (wrap64 (a0_0)) (wrap64 (1 + (wrap64 (Int.tmod a0_1 8))))))), (0), (y326), (([] : List Int)), (.slice Ao14 y326.length co14), (.slice none 0 0), (by first | rfl | (simp; done) | (simp [*]; done)), (by first | rfl | (simp; done) | (simp [*]; done)), H', ⟨Nat.le_refl _⟩, ⟨by (with_reducible repeat (first | apply Kd.R_alloc | apply Kd.R_drewN | apply Kd.R_drew)); exact Kd.R_mono (Kd.R_far (p := ⟨gb325, 4, none⟩) (Kd.R_types HO328.out BK325.out (by decide)) (fun _ hk => hk.2) (.slice Ao14 y326.length co14)) (fun _ hk => (by simp [Value.ownBlock]))⟩, ⟨by first | exact Kd.R_nil _ _ _ _ _ | exact Kd.N_nil _ _ _ _ _ | exact Kd.V_nil _ _ _ _ _ | exact Kd.Q_nil _ _ _ _ _ | exact Kd.S_nil _ _ _ _ _⟩, ⟨by (with_reducible repeat refine bp_ ?_); refine blk_far ?_ NB323_325.out _; (with_reducible repeat refine bp_ ?_); exact BK323.out⟩, ⟨by (with_reducible repeat refine bp_ ?_); refine blk_far ?_ NB324_325.out _; (with_reducible repeat refine bp_ ?_); exact BK324.out⟩, ⟨by (with_reducible repeat refine bp_ ?_); refine blk_put (cs := #[.int .i64 (wrap64 (1 + (wrap64 (Int.tmod a0_0 40)))), .int .i64 (wrap64 ((wrap64 (1 + (wrap64 (Int.tmod a0_0 40)))) + (wrap64 (Int.tmod a0_1 8)))), .int .i64 (wrap64 (Int.tmod a0_2 6)), .int .i64 (wrap64 (Int.tmod a0_3 6)), .slice none 0 0, .slice none 0 0]) ?_ 4 _ rfl; (with_reducible repeat refine bp_ ?_); exact BK325.out⟩, ⟨by repeat (first | (with_reducible first | exact HB.out | apply below_alloc | apply pw_below_drewN | apply below_drew1 | refine below_set ?_ GE323.out | refine below_set ?_ GE324.out | refine below_set ?_ GE325.out) | exact HB.out)⟩⟩
  case round =>
    clear H'
    try clear c2
    try clear c2b0
    try clear c2b1
    try clear p2
    try clear c5
    try clear p6
    try clear c8
    try clear c9
    try clear hcz10_0
    try clear hcz10_1
    try clear hcz10_2
    try clear hcz10_3
    try clear hcz10_4
    try clear hcz10_5
    try clear hcz11_0
    try clear hcz11_1
    try clear hcz11_2
    try clear hcz11_3
    try clear hcz11_4
    try clear hcz15_0
    try clear hcz15_1
    try clear hcz15_2
    try clear hcz15_3
    try clear hcz15_4
    try clear hcz15_5
    try clear hcz6_0
    try clear hcz6_1
    try clear hcz6_2
    try clear hcz6_3
    try clear hcz6_4
    try clear hfz10_0
    try clear hfz10_1
    try clear hfz10_2
    try clear hfz10_3
    try clear hfz10_4
    try clear hfz10_5
    try clear hfz11_0
    try clear hfz11_1
    try clear hfz11_2
    try clear hfz11_3
    try clear hfz11_4
    try clear hfz15_0
    try clear hfz15_1
    try clear hfz15_2
    try clear hfz15_3
    try clear hfz15_4
    try clear hfz15_5
    try clear hfz6_0
    try clear hfz6_1
    try clear hfz6_2
    try clear hfz6_3
    try clear hfz6_4
    obtain ⟨x5_1, x6_1, x326004_1, x326005_1, u326004, u326005, rfl, rfl, HA, HK1, HO_326004, HO_326005, BK323, BK324, BK325, HB⟩ := hrel
    cases gk with
    | zero => exact absurd HA.out (by simp [wireloomref44_Made.l0])
    | succ k1 =>
      have H := HA.out
      clear HA
      simp only [wireloomref44_Made.l0] at H
      by_cases c16 : (wrap64 (x6_1 + 1)) < (l0_4.length : Int)
      · rw [if_pos c16] at H
        have c16b0 : decide ((wrap64 (x6_1 + 1)) < (l0_4.length : Int)) = true := decide_eq_true c16
        clear c16
        by_cases c17 : x6_1 < 24
        · rw [if_pos c17] at H
          have c17b0 : decide (x6_1 < 24) = true := decide_eq_true c17
          clear c17
          by_cases c18 : 0 ≤ x6_1
          rotate_left
          · rw [if_neg c18] at H
            exact absurd H (by simp)
          rw [if_pos c18] at H
          have c18b0 : decide (0 ≤ x6_1) = true := decide_eq_true c18
          clear c18
          by_cases c19 : x6_1 < (l0_4.length : Int)
          rotate_left
          · rw [if_neg c19] at H
            exact absurd H (by simp)
          rw [if_pos c19] at H
          have c19b0 : decide (x6_1 < (l0_4.length : Int)) = true := decide_eq_true c19
          clear c19
          by_cases c20 : (wrap64 ((wrap64 (2 * (wrap64 (Int.tmod a0_2 6)))) + 1)) = 0
          · rw [if_pos c20] at H
            exact absurd H (by simp)
          rw [if_neg c20] at H
          have c20b0 : ((wrap64 ((wrap64 (2 * (wrap64 (Int.tmod a0_2 6)))) + 1)) == 0) = false := beq_eq_false_iff_ne.mpr c20
          have c20b1 : ((wrap64 ((wrap64 (2 * (wrap64 (Int.tmod a0_2 6)))) + 1)) != 0) = true := bne_iff_ne.mpr c20
          obtain ⟨ji21, hji21⟩ : ∃ j_ : Int, (mx 1 (wrap64 ((wrap64 (x5_1 + (Int.tmod (wrap64 (rd l0_4 x6_1)) (wrap64 ((wrap64 (2 * (wrap64 (Int.tmod a0_2 6)))) + 1))))) - (wrap64 (Int.tmod a0_2 6))))) = j_ := ⟨_, rfl⟩
          replace H : (if x326004_1.length < 17592186044416 then (if 0 ≤ (wrap64 (x6_1 + 1)) then (if (wrap64 ((wrap64 (2 * (wrap64 (Int.tmod a0_3 6)))) + 1)) = 0 then (none) else (if x326005_1.length < 17592186044416 then (wireloomref44_Made.l0 k1 ji21 (wrap64 (x6_1 + 2)) a0_0 a0_1 a0_2 a0_3 l0_4 (wrap64 (1 + (wrap64 (Int.tmod a0_0 40)))) (wrap64 ((wrap64 (1 + (wrap64 (Int.tmod a0_0 40)))) + (wrap64 (Int.tmod a0_1 8)))) (wrap64 (Int.tmod a0_2 6)) (wrap64 (Int.tmod a0_3 6)) (x326004_1 ++ [ji21]) (x326005_1 ++ [wrap64 ((wrap64 ((ji21) + (Int.tmod (wrap64 (rd l0_4 (wrap64 (x6_1 + 1)))) (wrap64 ((wrap64 (2 * (wrap64 (Int.tmod a0_3 6)))) + 1))))) - (wrap64 (Int.tmod a0_3 6)))])) else (none))) else (none)) else (none)) = some (r1, r2, r3, r4, r5, r6) := by first | (rw [hji21] at H; exact H) | (simp only [hji21] at H ⊢; exact H)
          have hji21_ : (if 1 < (wrap64 ((wrap64 (x5_1 + (Int.tmod (wrap64 (rd l0_4 x6_1)) (wrap64 ((wrap64 (2 * (wrap64 (Int.tmod a0_2 6)))) + 1))))) - (wrap64 (Int.tmod a0_2 6)))) then (wrap64 ((wrap64 (x5_1 + (Int.tmod (wrap64 (rd l0_4 x6_1)) (wrap64 ((wrap64 (2 * (wrap64 (Int.tmod a0_2 6)))) + 1))))) - (wrap64 (Int.tmod a0_2 6)))) else 1) = ji21 := hji21
          by_cases c22 : x326004_1.length < 17592186044416
          rotate_left
          · rw [if_neg c22] at H
            exact absurd H (by simp)
          rw [if_pos c22] at H
          have LMc22 := Aside0.mk c22
          clear c22
          obtain ⟨y330, hy330⟩ : ∃ y_ : List Int, y_ = (x326004_1 ++ [ji21]) := ⟨_, rfl⟩
          replace H : (if 0 ≤ (wrap64 (x6_1 + 1)) then (if (wrap64 ((wrap64 (2 * (wrap64 (Int.tmod a0_3 6)))) + 1)) = 0 then (none) else (if x326005_1.length < 17592186044416 then (wireloomref44_Made.l0 k1 ji21 (wrap64 (x6_1 + 2)) a0_0 a0_1 a0_2 a0_3 l0_4 (wrap64 (1 + (wrap64 (Int.tmod a0_0 40)))) (wrap64 ((wrap64 (1 + (wrap64 (Int.tmod a0_0 40)))) + (wrap64 (Int.tmod a0_1 8)))) (wrap64 (Int.tmod a0_2 6)) (wrap64 (Int.tmod a0_3 6)) y330 (x326005_1 ++ [wrap64 ((wrap64 ((ji21) + (Int.tmod (wrap64 (rd l0_4 (wrap64 (x6_1 + 1)))) (wrap64 ((wrap64 (2 * (wrap64 (Int.tmod a0_3 6)))) + 1))))) - (wrap64 (Int.tmod a0_3 6)))])) else (none))) else (none)) = some (r1, r2, r3, r4, r5, r6) := by first | (rw [hy330]; with_reducible exact H) | (have H2_ := (Option.bind_some _ _).symm.trans H; rw [hy330]; with_reducible exact H2_) | (have H2_ := (Option.bind_some _ _).symm.trans H; with_reducible exact H2_) | with_reducible exact H | (rw [hy330]; exact H) | exact H
          have Ny330 := Aside0.mk hy330
          clear hy330
          obtain ⟨ji23, hji23⟩ : ∃ j_ : Int, (wrap64 (x6_1 + 1)) = j_ := ⟨_, rfl⟩
          replace H : (if 0 ≤ (ji23) then (if (wrap64 ((wrap64 (2 * (wrap64 (Int.tmod a0_3 6)))) + 1)) = 0 then (none) else (if x326005_1.length < 17592186044416 then (wireloomref44_Made.l0 k1 ji21 (wrap64 (x6_1 + 2)) a0_0 a0_1 a0_2 a0_3 l0_4 (wrap64 (1 + (wrap64 (Int.tmod a0_0 40)))) (wrap64 ((wrap64 (1 + (wrap64 (Int.tmod a0_0 40)))) + (wrap64 (Int.tmod a0_1 8)))) (wrap64 (Int.tmod a0_2 6)) (wrap64 (Int.tmod a0_3 6)) y330 (x326005_1 ++ [wrap64 ((wrap64 ((ji21) + (Int.tmod (wrap64 (rd l0_4 (ji23))) (wrap64 ((wrap64 (2 * (wrap64 (Int.tmod a0_3 6)))) + 1))))) - (wrap64 (Int.tmod a0_3 6)))])) else (none))) else (none)) = some (r1, r2, r3, r4, r5, r6) := by first | (rw [hji23] at H; exact H) | (simp only [hji23] at H ⊢; exact H)
          (try rw [hji23] at c16b0)
          have hji23w : (IntKind.i64.wrap (x6_1 + 1)) = ji23 := (i64_w _).trans hji23
          by_cases c24 : 0 ≤ (ji23)
          rotate_left
          · rw [if_neg c24] at H
            exact absurd H (by simp)
          rw [if_pos c24] at H
          have c24b0 : decide (0 ≤ (ji23)) = true := decide_eq_true c24
          clear c24
          by_cases c25 : (wrap64 ((wrap64 (2 * (wrap64 (Int.tmod a0_3 6)))) + 1)) = 0
          · rw [if_pos c25] at H
            exact absurd H (by simp)
          rw [if_neg c25] at H
          have c25b0 : ((wrap64 ((wrap64 (2 * (wrap64 (Int.tmod a0_3 6)))) + 1)) == 0) = false := beq_eq_false_iff_ne.mpr c25
          have c25b1 : ((wrap64 ((wrap64 (2 * (wrap64 (Int.tmod a0_3 6)))) + 1)) != 0) = true := bne_iff_ne.mpr c25
          by_cases c26 : x326005_1.length < 17592186044416
          rotate_left
          · rw [if_neg c26] at H
            exact absurd H (by simp)
          rw [if_pos c26] at H
          have LMc26 := Aside0.mk c26
          clear c26
          obtain ⟨y334, hy334⟩ : ∃ y_ : List Int, y_ = (x326005_1 ++ [wrap64 ((wrap64 ((ji21) + (Int.tmod (wrap64 (rd l0_4 (ji23))) (wrap64 ((wrap64 (2 * (wrap64 (Int.tmod a0_3 6)))) + 1))))) - (wrap64 (Int.tmod a0_3 6)))]) := ⟨_, rfl⟩
          replace H : (wireloomref44_Made.l0 k1 ji21 (wrap64 (x6_1 + 2)) a0_0 a0_1 a0_2 a0_3 l0_4 (wrap64 (1 + (wrap64 (Int.tmod a0_0 40)))) (wrap64 ((wrap64 (1 + (wrap64 (Int.tmod a0_0 40)))) + (wrap64 (Int.tmod a0_1 8)))) (wrap64 (Int.tmod a0_2 6)) (wrap64 (Int.tmod a0_3 6)) y330 y334) = some (r1, r2, r3, r4, r5, r6) := by first | (rw [hy334]; with_reducible exact H) | (have H2_ := (Option.bind_some _ _).symm.trans H; rw [hy334]; with_reducible exact H2_) | (have H2_ := (Option.bind_some _ _).symm.trans H; with_reducible exact H2_) | with_reducible exact H | (rw [hy334]; exact H) | exact H
          have Ny334 := Aside0.mk hy334
          clear hy334
          have H' := Aside0.mk H
          clear H
          have hnb27 := NB323_324.out
          have hnc27 := NB324_323.out
          have hnb28 := NB323_325.out
          have hnc28 := NB325_323.out
          have hcz29_0 : wr.cell? ⟨gb323, 0, none⟩ = some (.int .u8 a0_0) := bc BK323 0
          have hcz29_1 : wr.cell? ⟨gb323, 1, none⟩ = some (.int .u8 a0_1) := bc BK323 1
          have hcz29_2 : wr.cell? ⟨gb323, 2, none⟩ = some (.int .u8 a0_2) := bc BK323 2
          have hcz29_3 : wr.cell? ⟨gb323, 3, none⟩ = some (.int .u8 a0_3) := bc BK323 3
          have hcz29_4 : wr.cell? ⟨gb323, 4, none⟩ = some (.slice A0_4 l0_4.length c0_4) := bc BK323 4
          have hfz29_0 := blk_frozen BK323.out 0
          have hfz29_1 := blk_frozen BK323.out 1
          have hfz29_2 := blk_frozen BK323.out 2
          have hfz29_3 := blk_frozen BK323.out 3
          have hfz29_4 := blk_frozen BK323.out 4
          try go_wp2
          have n0_ := Aside0.mk (Kd.R_drew HO_326004.out)
          have n1_ := Aside0.mk (Kd.R_drew HO_326005.out)
          have n2_ := Aside0.mk (blk_drew BK323.out)
          have n3_ := Aside0.mk (blk_drew BK324.out)
          have n4_ := Aside0.mk (blk_drew BK325.out)
          have n5_ := Aside0.mk (below_drew1 HB.out)
          clear HO_326004
          clear HO_326005
          clear BK323
          clear BK324
          clear BK325
          clear HB
          have HO_326004 := n0_
          have HO_326005 := n1_
          have BK323 := n2_
          have BK324 := n3_
          have BK325 := n4_
          have HB := n5_
          clear n0_ n1_ n2_ n3_ n4_ n5_
          have p329 : 0 ≤ (x6_1 : Int) := of_decide_eq_true (by first | (with_reducible assumption) | assumption)
          have q329 : x6_1 < (l0_4.length : Int) := of_decide_eq_true (by first | (with_reducible assumption) | assumption)
          obtain ⟨ad329, e329, hx329_0⟩ := Kd.at_int HR0_4.out x6_1 p329 q329
          have hw329_0 := hx329_0
          cases e329
          replace hx329_0 := (HB.out.cell (World.block_lt_of_cell? w _ hx329_0)).trans hx329_0
          replace p329 := eq_true p329
          replace q329 := eq_true q329
          refine start_ (n := 20) (S := fun w' => w'.cell? ⟨gb323, 0, none⟩ = some (.int .u8 a0_0) ∧ w'.cell? ⟨gb323, 1, none⟩ = some (.int .u8 a0_1) ∧ w'.cell? ⟨gb323, 2, none⟩ = some (.int .u8 a0_2) ∧ w'.cell? ⟨gb323, 3, none⟩ = some (.int .u8 a0_3) ∧ w'.cell? ⟨gb323, 4, none⟩ = some (.slice (some ad329) l0_4.length c0_4) ∧ w'.cell? ⟨gb325, 0, none⟩ = some (.int .i64 (wrap64 (1 + (wrap64 (Int.tmod a0_0 40))))) ∧ w'.cell? ⟨gb325, 1, none⟩ = some (.int .i64 (wrap64 ((wrap64 (1 + (wrap64 (Int.tmod a0_0 40)))) + (wrap64 (Int.tmod a0_1 8))))) ∧ w'.cell? ⟨gb325, 2, none⟩ = some (.int .i64 (wrap64 (Int.tmod a0_2 6))) ∧ w'.cell? ⟨gb325, 3, none⟩ = some (.int .i64 (wrap64 (Int.tmod a0_3 6))) ∧ w'.cell? ⟨gb325, 4, none⟩ = some (u326004) ∧ w'.cell? ⟨gb325, 5, none⟩ = some (u326005) ∧ w'.cell? (ad329.add (x6_1).toNat) = some (.int .u8 (rd l0_4 x6_1))) (ds := []) #[false, false, false, false, false, false, false, false, false, false, false, false, false, false, false, false, false, false, false, false] (by kernel_rfl) rfl rfl ⟨bc BK323 0, bc BK323 1, bc BK323 2, bc BK323 3, bc BK323 4, bc BK325 0, bc BK325 1, bc BK325 2, bc BK325 3, bc BK325 4, bc BK325 5, ((HB.out.cell (World.block_lt_of_cell? w _ hw329_0)).trans hw329_0)⟩ (fun hHeld => ?_); refine with_tabW wireloomref44_Made.tab8 wireloomref44_Made.bits8 (fun HT_ HW_ => ?_)
          generalize wr.drew = w30 at HO_326004 HO_326005 BK323 BK324 BK325 HB hx329_0 hHeld ⊢
          refine pure_ (i := 0) (N := some 55) (v := ?_) (a' := ?_) #[true, false, false, false, false, false, false, false, false, false, false, false, false, false, false, false, false, false, false, false] rfl rfl (any_of HT_.out (by kernel_rfl)) (fun _ _ _ h => h) (Or.inl ⟨by rfl, ?_⟩) ?_ ?_
          rotate_left
          · intro w'
            go_simp
            with_reducible rfl
          rotate_left
          · simp only [Act.put, List.setIfInBounds_toArray, List.set_cons_zero, List.set_cons_succ, i64_w, i32_w]
            rfl
          refine pure_ (i := 1) (N := some 56) (v := ?_) (a' := ?_) #[true, true, false, false, false, false, false, false, false, false, false, false, false, false, false, false, false, false, false, false] rfl rfl (any_of HT_.out (by kernel_rfl)) (fun _ _ _ h => h) (Or.inl ⟨by rfl, ?_⟩) ?_ ?_
          rotate_left
          · intro w'
            go_simp
            with_reducible rfl
          rotate_left
          · simp only [Act.put, List.setIfInBounds_toArray, List.set_cons_zero, List.set_cons_succ, i64_w, i32_w]
            rfl
          refine pure_ (i := 3) (N := some 58) (v := ?_) (a' := ?_) #[true, true, false, true, false, false, false, false, false, false, false, false, false, false, false, false, false, false, false, false] rfl rfl (any_of HT_.out (by kernel_rfl)) (fun _ _ _ h => h) (Or.inl ⟨by rfl, ?_⟩) ?_ ?_
          rotate_left
          · intro w'
            go_simp
            with_reducible rfl
          rotate_left
          · simp only [Act.put, List.setIfInBounds_toArray, List.set_cons_zero, List.set_cons_succ, i64_w, i32_w]
            rfl
          refine pure_ (i := 7) (N := some 62) (v := ?_) (a' := ?_) #[true, true, false, true, false, false, false, true, false, false, false, false, false, false, false, false, false, false, false, false] rfl rfl (any_of HT_.out (by kernel_rfl)) (fun _ _ _ h => h) (Or.inl ⟨by rfl, ?_⟩) ?_ ?_
          rotate_left
          · intro w'
            go_simp
            with_reducible rfl
          rotate_left
          · simp only [Act.put, List.setIfInBounds_toArray, List.set_cons_zero, List.set_cons_succ, i64_w, i32_w]
            rfl
          refine pure_ (i := 8) (N := some 63) (v := ?_) (a' := ?_) #[true, true, false, true, false, false, false, true, true, false, false, false, false, false, false, false, false, false, false, false] rfl rfl (any_of HT_.out (by kernel_rfl)) (fun _ _ _ h => h) (Or.inl ⟨by rfl, ?_⟩) ?_ ?_
          rotate_left
          · intro w'
            go_simp
            with_reducible rfl
          rotate_left
          · simp only [Act.put, List.setIfInBounds_toArray, List.set_cons_zero, List.set_cons_succ, i64_w, i32_w]
            rfl
          refine pure_ (i := 14) (N := some 69) (v := ?_) (a' := ?_) #[true, true, false, true, false, false, false, true, true, false, false, false, false, false, true, false, false, false, false, false] rfl rfl (any_of HT_.out (by kernel_rfl)) (fun _ _ _ h => h) (Or.inl ⟨by rfl, ?_⟩) ?_ ?_
          rotate_left
          · intro w'
            go_simp
            with_reducible rfl
          rotate_left
          · simp only [Act.put, List.setIfInBounds_toArray, List.set_cons_zero, List.set_cons_succ, i64_w, i32_w]
            rfl
          refine pure_ (i := 15) (N := some 70) (v := ?_) (a' := ?_) #[true, true, false, true, false, false, false, true, true, false, false, false, false, false, true, true, false, false, false, false] rfl rfl (any_of HT_.out (by kernel_rfl)) (fun _ _ _ h => h) (Or.inl ⟨by rfl, ?_⟩) ?_ ?_
          rotate_left
          · intro w'
            go_simp
            with_reducible rfl
          rotate_left
          · simp only [Act.put, List.setIfInBounds_toArray, List.set_cons_zero, List.set_cons_succ, i64_w, i32_w]
            rfl
          refine take_ (i := 2) (N := some 57) (v := ?_) (a' := ?_) #[true, true, true, true, false, false, false, true, true, false, false, false, false, false, true, true, false, false, false, false] rfl rfl (take_ofW HT_.out HW_.out (by kernel_rfl)) (fun _ _ _ h => h) (Or.inl ⟨by rfl, ?_⟩) hHeld ?_ ?_
          rotate_left
          · rintro w' ⟨s0, s1, s2, s3, s4, s5, s6, s7, s8, s9, s10, s11⟩
            go_simp
            with_reducible rfl
          rotate_left
          · simp only [Act.put, List.setIfInBounds_toArray, List.set_cons_zero, List.set_cons_succ, i64_w, i32_w]
            rfl
          refine pure_ (i := 4) (N := some 59) (v := ?_) (a' := ?_) #[true, true, true, true, true, false, false, true, true, false, false, false, false, false, true, true, false, false, false, false] rfl rfl (any_of HT_.out (by kernel_rfl)) (fun _ _ _ h => h) (Or.inl ⟨by rfl, ?_⟩) ?_ ?_
          rotate_left
          · intro w'
            go_simp
            with_reducible rfl
          rotate_left
          · simp only [Act.put, List.setIfInBounds_toArray, List.set_cons_zero, List.set_cons_succ, i64_w, i32_w]
            rfl
          refine take_ (i := 5) (N := some 60) (v := ?_) (a' := ?_) #[true, true, true, true, true, true, false, true, true, false, false, false, false, false, true, true, false, false, false, false] rfl rfl (take_ofW HT_.out HW_.out (by kernel_rfl)) (fun _ _ _ h => h) (Or.inl ⟨by rfl, ?_⟩) hHeld ?_ ?_
          rotate_left
          · rintro w' ⟨s0, s1, s2, s3, s4, s5, s6, s7, s8, s9, s10, s11⟩
            go_simp
            with_reducible rfl
          rotate_left
          · simp only [Act.put, List.setIfInBounds_toArray, List.set_cons_zero, List.set_cons_succ, i64_w, i32_w]
            rfl
          refine pure_ (i := 6) (N := some 61) (v := ?_) (a' := ?_) #[true, true, true, true, true, true, true, true, true, false, false, false, false, false, true, true, false, false, false, false] rfl rfl (any_of HT_.out (by kernel_rfl)) (fun _ _ _ h => h) (Or.inl ⟨by rfl, ?_⟩) ?_ ?_
          rotate_left
          · intro w'
            go_simp
            with_reducible rfl
          rotate_left
          · simp only [Act.put, List.setIfInBounds_toArray, List.set_cons_zero, List.set_cons_succ, i64_w, i32_w]
            rfl
          refine take_ (i := 9) (N := some 64) (v := ?_) (a' := ?_) #[true, true, true, true, true, true, true, true, true, true, false, false, false, false, true, true, false, false, false, false] rfl rfl (take_ofW HT_.out HW_.out (by kernel_rfl)) (fun _ _ _ h => h) (Or.inl ⟨by rfl, ?_⟩) hHeld ?_ ?_
          rotate_left
          · rintro w' ⟨s0, s1, s2, s3, s4, s5, s6, s7, s8, s9, s10, s11⟩
            go_simp
            with_reducible rfl
          rotate_left
          · simp only [Act.put, List.setIfInBounds_toArray, List.set_cons_zero, List.set_cons_succ, i64_w, i32_w]
            rfl
          refine pure_ (i := 10) (N := some 65) (v := ?_) (a' := ?_) #[true, true, true, true, true, true, true, true, true, true, true, false, false, false, true, true, false, false, false, false] rfl rfl (any_of HT_.out (by kernel_rfl)) (fun _ _ _ h => h) (Or.inl ⟨by rfl, ?_⟩) ?_ ?_
          rotate_left
          · intro w'
            go_simp
            with_reducible rfl
          rotate_left
          · simp only [Act.put, List.setIfInBounds_toArray, List.set_cons_zero, List.set_cons_succ, i64_w, i32_w]
            rfl
          refine pure_ (i := 11) (N := some 66) (v := ?_) (a' := ?_) #[true, true, true, true, true, true, true, true, true, true, true, true, false, false, true, true, false, false, false, false] rfl rfl (any_of HT_.out (by kernel_rfl)) (fun _ _ _ h => h) (Or.inl ⟨by rfl, ?_⟩) ?_ ?_
          rotate_left
          · intro w'
            go_simp
            with_reducible rfl
          rotate_left
          · simp only [Act.put, List.setIfInBounds_toArray, List.set_cons_zero, List.set_cons_succ, i64_w, i32_w]
            rfl
          refine pure_ (i := 12) (N := some 67) (v := ?_) (a' := ?_) #[true, true, true, true, true, true, true, true, true, true, true, true, true, false, true, true, false, false, false, false] rfl rfl (any_of HT_.out (by kernel_rfl)) (fun _ _ _ h => h) (Or.inl ⟨by rfl, ?_⟩) ?_ ?_
          rotate_left
          · intro w'
            go_simp
            with_reducible rfl
          rotate_left
          · simp only [Act.put, List.setIfInBounds_toArray, List.set_cons_zero, List.set_cons_succ, i64_w, i32_w]
            rfl
          refine pure_ (i := 13) (N := some 68) (v := ?_) (a' := ?_) #[true, true, true, true, true, true, true, true, true, true, true, true, true, true, true, true, false, false, false, false] rfl rfl (any_of HT_.out (by kernel_rfl)) (fun _ _ _ h => h) (Or.inl ⟨by rfl, ?_⟩) ?_ ?_
          rotate_left
          · intro w'
            go_simp
            with_reducible rfl
          rotate_left
          · simp only [Act.put, List.setIfInBounds_toArray, List.set_cons_zero, List.set_cons_succ, i64_w, i32_w]
            rfl
          refine take_ (i := 16) (N := some 71) (v := ?_) (a' := ?_) #[true, true, true, true, true, true, true, true, true, true, true, true, true, true, true, true, true, false, false, false] rfl rfl (take_ofW HT_.out HW_.out (by kernel_rfl)) (fun _ _ _ h => h) (Or.inl ⟨by rfl, ?_⟩) hHeld ?_ ?_
          rotate_left
          · rintro w' ⟨s0, s1, s2, s3, s4, s5, s6, s7, s8, s9, s10, s11⟩
            go_simp
            with_reducible rfl
          rotate_left
          · simp only [Act.put, List.setIfInBounds_toArray, List.set_cons_zero, List.set_cons_succ, i64_w, i32_w]
            rfl
          refine pure_ (i := 17) (N := some 72) (v := ?_) (a' := ?_) #[true, true, true, true, true, true, true, true, true, true, true, true, true, true, true, true, true, true, false, false] rfl rfl (any_of HT_.out (by kernel_rfl)) (fun _ _ _ h => h) (Or.inl ⟨by rfl, ?_⟩) ?_ ?_
          rotate_left
          · intro w'
            go_simp
            with_reducible rfl
          rotate_left
          · simp only [Act.put, List.setIfInBounds_toArray, List.set_cons_zero, List.set_cons_succ, i64_w, i32_w]
            rfl
          refine pure_ (i := 18) (N := some 73) (v := ?_) (a' := ?_) #[true, true, true, true, true, true, true, true, true, true, true, true, true, true, true, true, true, true, true, false] rfl rfl (any_of HT_.out (by kernel_rfl)) (fun _ _ _ h => h) (Or.inl ⟨by rfl, ?_⟩) ?_ ?_
          rotate_left
          · intro w'
            go_simp
            with_reducible rfl
          rotate_left
          · simp only [Act.put, List.setIfInBounds_toArray, List.set_cons_zero, List.set_cons_succ, i64_w, i32_w]
            rfl
          refine pure_ (i := 19) (N := some 5) (v := ?_) (a' := ?_) #[true, true, true, true, true, true, true, true, true, true, true, true, true, true, true, true, true, true, true, true] rfl rfl (any_of HT_.out (by kernel_rfl)) (fun _ _ _ h => h) (Or.inl ⟨by rfl, ?_⟩) ?_ ?_
          rotate_left
          · intro w'
            go_simp
            with_reducible rfl
          rotate_left
          · simp only [Act.put, List.setIfInBounds_toArray, List.set_cons_zero, List.set_cons_succ, i64_w, i32_w]
            rfl
          refine done_ (done_of HT_.out (by kernel_rfl)) ?_
          have hnb31 := NB325_324.out
          have hnc31 := NB324_325.out
          have hcz32_0 : w30.cell? ⟨gb325, 0, none⟩ = some (.int .i64 (wrap64 (1 + (wrap64 (Int.tmod a0_0 40))))) := bc BK325 0
          have hcz32_1 : w30.cell? ⟨gb325, 1, none⟩ = some (.int .i64 (wrap64 ((wrap64 (1 + (wrap64 (Int.tmod a0_0 40)))) + (wrap64 (Int.tmod a0_1 8))))) := bc BK325 1
          have hcz32_2 : w30.cell? ⟨gb325, 2, none⟩ = some (.int .i64 (wrap64 (Int.tmod a0_2 6))) := bc BK325 2
          have hcz32_3 : w30.cell? ⟨gb325, 3, none⟩ = some (.int .i64 (wrap64 (Int.tmod a0_3 6))) := bc BK325 3
          have hcz32_4 : w30.cell? ⟨gb325, 4, none⟩ = some (u326004) := bc BK325 4
          have hcz32_5 : w30.cell? ⟨gb325, 5, none⟩ = some (u326005) := bc BK325 5
          have hfz32_0 := blk_frozen BK325.out 0
          have hfz32_1 := blk_frozen BK325.out 1
          have hfz32_2 := blk_frozen BK325.out 2
          have hfz32_3 := blk_frozen BK325.out 3
          have hfz32_4 := blk_frozen BK325.out 4
          have hfz32_5 := blk_frozen BK325.out 5
          try go_wp2_with (first | ((with_reducible refine gate_builtin (b := .append) (xs := #[.tmp 75, .tmp 77]) rfl ?_); at_builtin; refine Kd.R_append (Kd.int .i64) (w0 := w) w.heap.size rfl (.tmp 75) (.tmp 77) 47 3 (.int .i64 0) 8 rfl Try.underlying47 info3 rfl (by decide) (by omega) u326004 x326004_1 ji21 [.int .i64 ji21] (fun k_ => some k_ ≠ (u326005 : Value).ownBlock) (fun _ => False) rfl rfl ?aP (fun _ hk => hk.elim) ?aF ?aO ?aB ?aS ?aL ?_; (case aP => exact rfl); (case aB => exact (by repeat (first | (with_reducible first | exact HB.out | apply below_alloc | apply pw_below_drewN | apply below_drew1 | refine below_set ?_ GE323.out | refine below_set ?_ GE324.out | refine below_set ?_ GE325.out) | exact HB.out))); (case aF => exact (fun k_ hk => Kd.fresh' (Kd.R_lt (by (with_reducible repeat (first | apply Kd.R_alloc | apply Kd.R_drewN | apply Kd.R_drew)); exact HO_326005.out)) k_ hk)); (case aO => exact (by (with_reducible repeat (first | apply Kd.R_alloc | apply Kd.R_drewN | apply Kd.R_drew)); exact HO_326004.out)); (case aS => exact (below_size (by repeat (first | (with_reducible first | exact HB.out | apply below_alloc | apply pw_below_drewN | apply below_drew1 | refine below_set ?_ GE323.out | refine below_set ?_ GE324.out | refine below_set ?_ GE325.out) | exact HB.out)))); (case aL => have := LMc22.out; omega); intro v331 w33 ho hb hg hat; rw [← Ny330.out] at ho; have n0_ := Aside0.mk (Kd.R_after (ok := (fun _ => True)) (by (with_reducible repeat (first | apply Kd.R_alloc | apply Kd.R_drewN | apply Kd.R_drew)); exact Kd.R_mono HO_326005.out (fun _ hk => ⟨trivial, hk⟩)) hg hat); have n1_ := Aside0.mk (blk_grown (g := gb323) (o := .cells #[.int .u8 a0_0, .int .u8 a0_1, .int .u8 a0_2, .int .u8 a0_3, .slice (some ad329) l0_4.length c0_4] 24 (0, 0)) (bx0 BK323) hg (Kd.R_ne HO_326004.out BK323.out (by decide))); have n2_ := Aside0.mk (blk_grown (g := gb324) (o := .cells #[.int .i64 0, .int .i64 0, .int .i64 0, .int .i64 0, .slice none 0 0, .slice none 0 0] 49 (0, 0)) (bx0 BK324) hg (Kd.R_ne HO_326004.out BK324.out (by decide))); have n3_ := Aside0.mk (blk_grown (g := gb325) (o := .cells #[.int .i64 (wrap64 (1 + (wrap64 (Int.tmod a0_0 40)))), .int .i64 (wrap64 ((wrap64 (1 + (wrap64 (Int.tmod a0_0 40)))) + (wrap64 (Int.tmod a0_1 8)))), .int .i64 (wrap64 (Int.tmod a0_2 6)), .int .i64 (wrap64 (Int.tmod a0_3 6)), u326004, u326005] 49 (0, 0)) (bx0 BK325) hg (Kd.R_ne HO_326004.out BK325.out (by decide))); have n4_ := Aside0.mk (hb); have n5_ := Aside0.mk (ho); clear HO_326005; clear BK323; clear BK324; clear BK325; clear HB; clear HO_326004; have HO_326005 := n0_; have BK323 := n1_; have BK324 := n2_; have BK325 := n3_; have HB := n4_; have HO332 := n5_; clear n0_ n1_ n2_ n3_ n4_ n5_; clear ho hb hg hat; obtain ⟨Ao34, co34, eo34⟩ := Kd.R_slice HO332.out; subst eo34; have hcz35_0 : w33.cell? ⟨gb325, 0, none⟩ = some (.int .i64 (wrap64 (1 + (wrap64 (Int.tmod a0_0 40))))) := bc BK325 0; have hcz35_1 : w33.cell? ⟨gb325, 1, none⟩ = some (.int .i64 (wrap64 ((wrap64 (1 + (wrap64 (Int.tmod a0_0 40)))) + (wrap64 (Int.tmod a0_1 8))))) := bc BK325 1; have hcz35_2 : w33.cell? ⟨gb325, 2, none⟩ = some (.int .i64 (wrap64 (Int.tmod a0_2 6))) := bc BK325 2; have hcz35_3 : w33.cell? ⟨gb325, 3, none⟩ = some (.int .i64 (wrap64 (Int.tmod a0_3 6))) := bc BK325 3; have hcz35_4 : w33.cell? ⟨gb325, 4, none⟩ = some (u326004) := bc BK325 4; have hcz35_5 : w33.cell? ⟨gb325, 5, none⟩ = some (u326005) := bc BK325 5; have hfz35_0 := blk_frozen BK325.out 0; have hfz35_1 := blk_frozen BK325.out 1; have hfz35_2 := blk_frozen BK325.out 2; have hfz35_3 := blk_frozen BK325.out 3; have hfz35_4 := blk_frozen BK325.out 4; have hfz35_5 := blk_frozen BK325.out 5))
          have n0_ : Aside0 (Kd.R (Kd.int .i64) 3 (w33.setCell ⟨gb325, 4, none⟩ (.slice Ao34 y330.length co34)) w.heap.size (fun k_ => some k_ ≠ (.slice Ao34 y330.length co34 : Value).ownBlock) u326005 x326005_1) := ⟨by (with_reducible repeat (first | apply Kd.R_alloc | apply Kd.R_drewN | apply Kd.R_drew)); exact Kd.R_mono (Kd.R_far (p := ⟨gb325, 4, none⟩) (Kd.R_types HO_326005.out BK325.out (by decide)) (fun _ hk => hk.2) (.slice Ao34 y330.length co34)) (fun _ hk => hk.1.2)⟩
          have n1_ : Aside0 (Kd.R (Kd.int .i64) 3 (w33.setCell ⟨gb325, 4, none⟩ (.slice Ao34 y330.length co34)) w.heap.size (fun k_ => some k_ ≠ (u326005 : Value).ownBlock) (.slice Ao34 y330.length co34) y330) := ⟨by (with_reducible repeat (first | apply Kd.R_alloc | apply Kd.R_drewN | apply Kd.R_drew)); exact Kd.R_mono (Kd.R_far (p := ⟨gb325, 4, none⟩) (Kd.R_types HO332.out BK325.out (by decide)) (fun _ hk => hk.2) (.slice Ao34 y330.length co34)) (fun _ hk => hk.1)⟩
          have n2_ : Aside0 ((w33.setCell ⟨gb325, 4, none⟩ (.slice Ao34 y330.length co34)).heap[gb323]? = some (.cells #[.int .u8 a0_0, .int .u8 a0_1, .int .u8 a0_2, .int .u8 a0_3, .slice (some ad329) l0_4.length c0_4] 24 (0, 0))) := ⟨by (with_reducible repeat refine bp_ ?_); refine blk_far ?_ NB323_325.out _; (with_reducible repeat refine bp_ ?_); exact BK323.out⟩
          have n3_ : Aside0 ((w33.setCell ⟨gb325, 4, none⟩ (.slice Ao34 y330.length co34)).heap[gb324]? = some (.cells #[.int .i64 0, .int .i64 0, .int .i64 0, .int .i64 0, .slice none 0 0, .slice none 0 0] 49 (0, 0))) := ⟨by (with_reducible repeat refine bp_ ?_); refine blk_far ?_ NB324_325.out _; (with_reducible repeat refine bp_ ?_); exact BK324.out⟩
          have n4_ : Aside0 ((w33.setCell ⟨gb325, 4, none⟩ (.slice Ao34 y330.length co34)).heap[gb325]? = some (.cells #[.int .i64 (wrap64 (1 + (wrap64 (Int.tmod a0_0 40)))), .int .i64 (wrap64 ((wrap64 (1 + (wrap64 (Int.tmod a0_0 40)))) + (wrap64 (Int.tmod a0_1 8)))), .int .i64 (wrap64 (Int.tmod a0_2 6)), .int .i64 (wrap64 (Int.tmod a0_3 6)), .slice Ao34 y330.length co34, u326005] 49 (0, 0))) := ⟨by (with_reducible repeat refine bp_ ?_); refine blk_put (cs := #[.int .i64 (wrap64 (1 + (wrap64 (Int.tmod a0_0 40)))), .int .i64 (wrap64 ((wrap64 (1 + (wrap64 (Int.tmod a0_0 40)))) + (wrap64 (Int.tmod a0_1 8)))), .int .i64 (wrap64 (Int.tmod a0_2 6)), .int .i64 (wrap64 (Int.tmod a0_3 6)), u326004, u326005]) ?_ 4 _ rfl; (with_reducible repeat refine bp_ ?_); exact BK325.out⟩
          have n5_ : Aside0 (Below w.heap.size w (w33.setCell ⟨gb325, 4, none⟩ (.slice Ao34 y330.length co34))) := ⟨by repeat (first | (with_reducible first | exact HB.out | apply below_alloc | apply pw_below_drewN | apply below_drew1 | refine below_set ?_ GE323.out | refine below_set ?_ GE324.out | refine below_set ?_ GE325.out) | exact HB.out)⟩
          (try clear HO_326005)
          (try clear HO332)
          (try clear BK323)
          (try clear BK324)
          (try clear BK325)
          (try clear HB)
          generalize (w33.setCell ⟨gb325, 4, none⟩ (.slice Ao34 y330.length co34)) = w36 at n0_ n1_ n2_ n3_ n4_ n5_ ⊢
          have HO_326005 := n0_
          have HO332 := n1_
          have BK323 := n2_
          have BK324 := n3_
          have BK325 := n4_
          have HB := n5_
          clear n0_ n1_ n2_ n3_ n4_ n5_
          have n0_ := Aside0.mk (Kd.R_drew HO_326005.out)
          have n1_ := Aside0.mk (Kd.R_drew HO332.out)
          have n2_ := Aside0.mk (blk_drew BK323.out)
          have n3_ := Aside0.mk (blk_drew BK324.out)
          have n4_ := Aside0.mk (blk_drew BK325.out)
          have n5_ := Aside0.mk (below_drew1 HB.out)
          clear HO_326005
          clear HO332
          clear BK323
          clear BK324
          clear BK325
          clear HB
          have HO_326005 := n0_
          have HO332 := n1_
          have BK323 := n2_
          have BK324 := n3_
          have BK325 := n4_
          have HB := n5_
          clear n0_ n1_ n2_ n3_ n4_ n5_
          have p333 : 0 ≤ ((ji23) : Int) := of_decide_eq_true (by first | (with_reducible assumption) | assumption)
          have q333 : (ji23) < (l0_4.length : Int) := of_decide_eq_true (by first | (with_reducible assumption) | assumption)
          obtain ⟨ad333, e333, hx333_0⟩ := Kd.at_int HR0_4.out (ji23) p333 q333
          have hw333_0 := hx333_0
          obtain rfl : ad329 = ad333 := (by injection e333)
          replace hx333_0 := (HB.out.cell (World.block_lt_of_cell? w _ hx333_0)).trans hx333_0
          replace p333 := eq_true p333
          replace q333 := eq_true q333
          refine start_ (n := 25) (S := fun w' => w'.cell? ⟨gb325, 0, none⟩ = some (.int .i64 (wrap64 (1 + (wrap64 (Int.tmod a0_0 40))))) ∧ w'.cell? ⟨gb325, 1, none⟩ = some (.int .i64 (wrap64 ((wrap64 (1 + (wrap64 (Int.tmod a0_0 40)))) + (wrap64 (Int.tmod a0_1 8))))) ∧ w'.cell? ⟨gb325, 2, none⟩ = some (.int .i64 (wrap64 (Int.tmod a0_2 6))) ∧ w'.cell? ⟨gb325, 3, none⟩ = some (.int .i64 (wrap64 (Int.tmod a0_3 6))) ∧ w'.cell? ⟨gb325, 4, none⟩ = some (.slice Ao34 y330.length co34) ∧ w'.cell? ⟨gb325, 5, none⟩ = some (u326005) ∧ w'.cell? ⟨gb323, 0, none⟩ = some (.int .u8 a0_0) ∧ w'.cell? ⟨gb323, 1, none⟩ = some (.int .u8 a0_1) ∧ w'.cell? ⟨gb323, 2, none⟩ = some (.int .u8 a0_2) ∧ w'.cell? ⟨gb323, 3, none⟩ = some (.int .u8 a0_3) ∧ w'.cell? ⟨gb323, 4, none⟩ = some (.slice (some ad329) l0_4.length c0_4) ∧ w'.cell? (ad329.add ((ji23)).toNat) = some (.int .u8 (rd l0_4 (ji23)))) (ds := [24]) #[false, false, false, false, false, false, false, false, false, false, false, false, false, false, false, false, false, false, false, false, false, false, false, false, false] (by kernel_rfl) rfl rfl ⟨bc BK325 0, bc BK325 1, bc BK325 2, bc BK325 3, bc BK325 4, bc BK325 5, bc BK323 0, bc BK323 1, bc BK323 2, bc BK323 3, bc BK323 4, ((HB.out.cell (World.block_lt_of_cell? w _ hw333_0)).trans hw333_0)⟩ (fun hHeld => ?_); refine with_tabW wireloomref44_Made.tab10 wireloomref44_Made.bits10 (fun HT_ HW_ => ?_)
          generalize w36.drew = w37 at HO_326005 HO332 BK323 BK324 BK325 HB hx333_0 hHeld ⊢
          refine pure_ (i := 0) (N := some 80) (v := ?_) (a' := ?_) #[true, false, false, false, false, false, false, false, false, false, false, false, false, false, false, false, false, false, false, false, false, false, false, false, false] rfl rfl (any_of HT_.out (by kernel_rfl)) (fun _ _ _ h => h) (Or.inl ⟨by rfl, ?_⟩) ?_ ?_
          rotate_left
          · intro w'
            go_simp
            with_reducible rfl
          rotate_left
          · simp only [Act.put, List.setIfInBounds_toArray, List.set_cons_zero, List.set_cons_succ, i64_w, i32_w]
            rfl
          refine pure_ (i := 2) (N := some 82) (v := ?_) (a' := ?_) #[true, false, true, false, false, false, false, false, false, false, false, false, false, false, false, false, false, false, false, false, false, false, false, false, false] rfl rfl (any_of HT_.out (by kernel_rfl)) (fun _ _ _ h => h) (Or.inl ⟨by rfl, ?_⟩) ?_ ?_
          rotate_left
          · intro w'
            go_simp
            with_reducible rfl
          rotate_left
          · simp only [Act.put, List.setIfInBounds_toArray, List.set_cons_zero, List.set_cons_succ, i64_w, i32_w]
            rfl
          refine pure_ (i := 3) (N := some 83) (v := ?_) (a' := ?_) #[true, false, true, true, false, false, false, false, false, false, false, false, false, false, false, false, false, false, false, false, false, false, false, false, false] rfl rfl (any_of HT_.out (by kernel_rfl)) (fun _ _ _ h => h) (Or.inl ⟨by rfl, ?_⟩) ?_ ?_
          rotate_left
          · intro w'
            go_simp
            with_reducible rfl
          rotate_left
          · simp only [Act.put, List.setIfInBounds_toArray, List.set_cons_zero, List.set_cons_succ, i64_w, i32_w]
            rfl
          refine pure_ (i := 5) (N := some 85) (v := ?_) (a' := ?_) #[true, false, true, true, false, true, false, false, false, false, false, false, false, false, false, false, false, false, false, false, false, false, false, false, false] rfl rfl (any_of HT_.out (by kernel_rfl)) (fun _ _ _ h => h) (Or.inl ⟨by rfl, ?_⟩) ?_ ?_
          rotate_left
          · intro w'
            go_simp
            with_reducible rfl
          rotate_left
          · simp only [Act.put, List.setIfInBounds_toArray, List.set_cons_zero, List.set_cons_succ, i64_w, i32_w]
            rfl
          refine pure_ (i := 6) (N := some 86) (v := ?_) (a' := ?_) #[true, false, true, true, false, true, true, false, false, false, false, false, false, false, false, false, false, false, false, false, false, false, false, false, false] rfl rfl (any_of HT_.out (by kernel_rfl)) (fun _ _ _ h => h) (Or.inl ⟨by rfl, ?_⟩) ?_ ?_
          rotate_left
          · intro w'
            go_simp
            with_reducible rfl
          rotate_left
          · simp only [Act.put, List.setIfInBounds_toArray, List.set_cons_zero, List.set_cons_succ, i64_w, i32_w]
            rfl
          refine pure_ (i := 10) (N := some 90) (v := ?_) (a' := ?_) #[true, false, true, true, false, true, true, false, false, false, true, false, false, false, false, false, false, false, false, false, false, false, false, false, false] rfl rfl (any_of HT_.out (by kernel_rfl)) (fun _ _ _ h => h) (Or.inl ⟨by rfl, ?_⟩) ?_ ?_
          rotate_left
          · intro w'
            go_simp
            with_reducible rfl
          rotate_left
          · simp only [Act.put, List.setIfInBounds_toArray, List.set_cons_zero, List.set_cons_succ, i64_w, i32_w]
            rfl
          refine pure_ (i := 11) (N := some 91) (v := ?_) (a' := ?_) #[true, false, true, true, false, true, true, false, false, false, true, true, false, false, false, false, false, false, false, false, false, false, false, false, false] rfl rfl (any_of HT_.out (by kernel_rfl)) (fun _ _ _ h => h) (Or.inl ⟨by rfl, ?_⟩) ?_ ?_
          rotate_left
          · intro w'
            go_simp
            with_reducible rfl
          rotate_left
          · simp only [Act.put, List.setIfInBounds_toArray, List.set_cons_zero, List.set_cons_succ, i64_w, i32_w]
            rfl
          refine pure_ (i := 17) (N := some 97) (v := ?_) (a' := ?_) #[true, false, true, true, false, true, true, false, false, false, true, true, false, false, false, false, false, true, false, false, false, false, false, false, false] rfl rfl (any_of HT_.out (by kernel_rfl)) (fun _ _ _ h => h) (Or.inl ⟨by rfl, ?_⟩) ?_ ?_
          rotate_left
          · intro w'
            go_simp
            with_reducible rfl
          rotate_left
          · simp only [Act.put, List.setIfInBounds_toArray, List.set_cons_zero, List.set_cons_succ, i64_w, i32_w]
            rfl
          refine pure_ (i := 18) (N := some 98) (v := ?_) (a' := ?_) #[true, false, true, true, false, true, true, false, false, false, true, true, false, false, false, false, false, true, true, false, false, false, false, false, false] rfl rfl (any_of HT_.out (by kernel_rfl)) (fun _ _ _ h => h) (Or.inl ⟨by rfl, ?_⟩) ?_ ?_
          rotate_left
          · intro w'
            go_simp
            with_reducible rfl
          rotate_left
          · simp only [Act.put, List.setIfInBounds_toArray, List.set_cons_zero, List.set_cons_succ, i64_w, i32_w]
            rfl
          refine take_ (i := 1) (N := some 81) (v := ?_) (a' := ?_) #[true, true, true, true, false, true, true, false, false, false, true, true, false, false, false, false, false, true, true, false, false, false, false, false, false] rfl rfl (take_ofW HT_.out HW_.out (by kernel_rfl)) (fun _ _ _ h => h) (Or.inl ⟨by rfl, ?_⟩) hHeld ?_ ?_
          rotate_left
          · rintro w' ⟨s0, s1, s2, s3, s4, s5, s6, s7, s8, s9, s10, s11⟩
            go_simp
            with_reducible rfl
          rotate_left
          · simp only [Act.put, List.setIfInBounds_toArray, List.set_cons_zero, List.set_cons_succ, i64_w, i32_w]
            rfl
          refine take_ (i := 4) (N := some 84) (v := ?_) (a' := ?_) #[true, true, true, true, true, true, true, false, false, false, true, true, false, false, false, false, false, true, true, false, false, false, false, false, false] rfl rfl (take_ofW HT_.out HW_.out (by kernel_rfl)) (fun _ _ _ h => h) (Or.inl ⟨by rfl, ?_⟩) hHeld ?_ ?_
          rotate_left
          · rintro w' ⟨s0, s1, s2, s3, s4, s5, s6, s7, s8, s9, s10, s11⟩
            go_simp
            with_reducible rfl
          rotate_left
          · simp only [Act.put, List.setIfInBounds_toArray, List.set_cons_zero, List.set_cons_succ, i64_w, i32_w]
            rfl
          refine pure_ (i := 7) (N := some 87) (v := ?_) (a' := ?_) #[true, true, true, true, true, true, true, true, false, false, true, true, false, false, false, false, false, true, true, false, false, false, false, false, false] rfl rfl (any_of HT_.out (by kernel_rfl)) (fun _ _ _ h => h) (Or.inl ⟨by rfl, ?_⟩) ?_ ?_
          rotate_left
          · intro w'
            go_simp
            with_reducible rfl
          rotate_left
          · simp only [Act.put, List.setIfInBounds_toArray, List.set_cons_zero, List.set_cons_succ, i64_w, i32_w]
            rfl
          refine take_ (i := 8) (N := some 88) (v := ?_) (a' := ?_) #[true, true, true, true, true, true, true, true, true, false, true, true, false, false, false, false, false, true, true, false, false, false, false, false, false] rfl rfl (take_ofW HT_.out HW_.out (by kernel_rfl)) (fun _ _ _ h => h) (Or.inl ⟨by rfl, ?_⟩) hHeld ?_ ?_
          rotate_left
          · rintro w' ⟨s0, s1, s2, s3, s4, s5, s6, s7, s8, s9, s10, s11⟩
            go_simp
            with_reducible rfl
          rotate_left
          · simp only [Act.put, List.setIfInBounds_toArray, List.set_cons_zero, List.set_cons_succ, i64_w, i32_w]
            rfl
          refine pure_ (i := 9) (N := some 89) (v := ?_) (a' := ?_) #[true, true, true, true, true, true, true, true, true, true, true, true, false, false, false, false, false, true, true, false, false, false, false, false, false] rfl rfl (any_of HT_.out (by kernel_rfl)) (fun _ _ _ h => h) (Or.inl ⟨by rfl, ?_⟩) ?_ ?_
          rotate_left
          · intro w'
            go_simp
            with_reducible rfl
          rotate_left
          · simp only [Act.put, List.setIfInBounds_toArray, List.set_cons_zero, List.set_cons_succ, i64_w, i32_w]
            rfl
          refine take_ (i := 12) (N := some 92) (v := ?_) (a' := ?_) #[true, true, true, true, true, true, true, true, true, true, true, true, true, false, false, false, false, true, true, false, false, false, false, false, false] rfl rfl (take_ofW HT_.out HW_.out (by kernel_rfl)) (fun _ _ _ h => h) (Or.inl ⟨by rfl, ?_⟩) hHeld ?_ ?_
          rotate_left
          · rintro w' ⟨s0, s1, s2, s3, s4, s5, s6, s7, s8, s9, s10, s11⟩
            go_simp
            with_reducible rfl
          rotate_left
          · simp only [Act.put, List.setIfInBounds_toArray, List.set_cons_zero, List.set_cons_succ, i64_w, i32_w]
            rfl
          refine pure_ (i := 13) (N := some 93) (v := ?_) (a' := ?_) #[true, true, true, true, true, true, true, true, true, true, true, true, true, true, false, false, false, true, true, false, false, false, false, false, false] rfl rfl (any_of HT_.out (by kernel_rfl)) (fun _ _ _ h => h) (Or.inl ⟨by rfl, ?_⟩) ?_ ?_
          rotate_left
          · intro w'
            go_simp
            with_reducible rfl
          rotate_left
          · simp only [Act.put, List.setIfInBounds_toArray, List.set_cons_zero, List.set_cons_succ, i64_w, i32_w]
            rfl
          refine pure_ (i := 14) (N := some 94) (v := ?_) (a' := ?_) #[true, true, true, true, true, true, true, true, true, true, true, true, true, true, true, false, false, true, true, false, false, false, false, false, false] rfl rfl (any_of HT_.out (by kernel_rfl)) (fun _ _ _ h => h) (Or.inl ⟨by rfl, ?_⟩) ?_ ?_
          rotate_left
          · intro w'
            go_simp
            with_reducible rfl
          rotate_left
          · simp only [Act.put, List.setIfInBounds_toArray, List.set_cons_zero, List.set_cons_succ, i64_w, i32_w]
            rfl
          refine pure_ (i := 15) (N := some 95) (v := ?_) (a' := ?_) #[true, true, true, true, true, true, true, true, true, true, true, true, true, true, true, true, false, true, true, false, false, false, false, false, false] rfl rfl (any_of HT_.out (by kernel_rfl)) (fun _ _ _ h => h) (Or.inl ⟨by rfl, ?_⟩) ?_ ?_
          rotate_left
          · intro w'
            go_simp
            with_reducible rfl
          rotate_left
          · simp only [Act.put, List.setIfInBounds_toArray, List.set_cons_zero, List.set_cons_succ, i64_w, i32_w]
            rfl
          refine pure_ (i := 16) (N := some 96) (v := ?_) (a' := ?_) #[true, true, true, true, true, true, true, true, true, true, true, true, true, true, true, true, true, true, true, false, false, false, false, false, false] rfl rfl (any_of HT_.out (by kernel_rfl)) (fun _ _ _ h => h) (Or.inl ⟨by rfl, ?_⟩) ?_ ?_
          rotate_left
          · intro w'
            go_simp
            with_reducible rfl
          rotate_left
          · simp only [Act.put, List.setIfInBounds_toArray, List.set_cons_zero, List.set_cons_succ, i64_w, i32_w]
            rfl
          refine take_ (i := 19) (N := some 99) (v := ?_) (a' := ?_) #[true, true, true, true, true, true, true, true, true, true, true, true, true, true, true, true, true, true, true, true, false, false, false, false, false] rfl rfl (take_ofW HT_.out HW_.out (by kernel_rfl)) (fun _ _ _ h => h) (Or.inl ⟨by rfl, ?_⟩) hHeld ?_ ?_
          rotate_left
          · rintro w' ⟨s0, s1, s2, s3, s4, s5, s6, s7, s8, s9, s10, s11⟩
            go_simp
            with_reducible rfl
          rotate_left
          · simp only [Act.put, List.setIfInBounds_toArray, List.set_cons_zero, List.set_cons_succ, i64_w, i32_w]
            rfl
          refine pure_ (i := 20) (N := some 100) (v := ?_) (a' := ?_) #[true, true, true, true, true, true, true, true, true, true, true, true, true, true, true, true, true, true, true, true, true, false, false, false, false] rfl rfl (any_of HT_.out (by kernel_rfl)) (fun _ _ _ h => h) (Or.inl ⟨by rfl, ?_⟩) ?_ ?_
          rotate_left
          · intro w'
            go_simp
            with_reducible rfl
          rotate_left
          · simp only [Act.put, List.setIfInBounds_toArray, List.set_cons_zero, List.set_cons_succ, i64_w, i32_w]
            rfl
          refine one_ (i := 21) (N := some 101) #[true, true, true, true, true, true, true, true, true, true, true, true, true, true, true, true, true, true, true, true, true, true, false, false, false] rfl rfl (one_of HT_.out (by kernel_rfl)) (by decide) (fun K hK => ?_)
          refine value_ (w1 := ?_) (v := ?_) (by rfl) rfl ?_ ?_
          rotate_left 2
          · go_simp
            constructor
            · rfl
            · rfl
          refine hK.out _ _ ⟨(blk_cell (blk_alloc BK325.out _) 0).trans rfl, (blk_cell (blk_alloc BK325.out _) 1).trans rfl, (blk_cell (blk_alloc BK325.out _) 2).trans rfl, (blk_cell (blk_alloc BK325.out _) 3).trans rfl, (blk_cell (blk_alloc BK325.out _) 4).trans rfl, (blk_cell (blk_alloc BK325.out _) 5).trans rfl, (blk_cell (blk_alloc BK323.out _) 0).trans rfl, (blk_cell (blk_alloc BK323.out _) 1).trans rfl, (blk_cell (blk_alloc BK323.out _) 2).trans rfl, (blk_cell (blk_alloc BK323.out _) 3).trans rfl, (blk_cell (blk_alloc BK323.out _) 4).trans rfl, (World.cell?_alloc_lt _ _ _ (World.block_lt_of_cell? _ _ (((HB.out.cell (World.block_lt_of_cell? w _ hw333_0)).trans hw333_0)))).trans (((HB.out.cell (World.block_lt_of_cell? w _ hw333_0)).trans hw333_0))⟩ (fun hHeld => ?_)
          clear hK K
          refine norm_ (a' := ?_) ?_ ?_
          rotate_left
          · show Act.put _ (some 101) _ = _
            simp only [Act.put, List.setIfInBounds_toArray, List.set_cons_zero, List.set_cons_succ, i64_w, i32_w]
            rfl
          refine one_ (i := 22) (N := some 102) #[true, true, true, true, true, true, true, true, true, true, true, true, true, true, true, true, true, true, true, true, true, true, true, false, false] rfl rfl (one_of HT_.out (by kernel_rfl)) (by decide) (fun K hK => ?_)
          refine Kd.R_append_step (Kd.int .i64) (w0 := w) w.heap.size (by rfl) (.tmp 81) (.tmp 101) 47 3 (.int .i64 0) 8 rfl Try.underlying47 info3 rfl (by decide) (by omega) u326005 x326005_1 (wrap64 ((wrap64 ((ji21) + (Int.tmod (wrap64 (rd l0_4 (ji23))) (wrap64 ((wrap64 (2 * (wrap64 (Int.tmod a0_3 6)))) + 1))))) - (wrap64 (Int.tmod a0_3 6)))) [.int .i64 (wrap64 ((wrap64 ((ji21) + (Int.tmod (wrap64 (rd l0_4 (ji23))) (wrap64 ((wrap64 (2 * (wrap64 (Int.tmod a0_3 6)))) + 1))))) - (wrap64 (Int.tmod a0_3 6))))] (fun k_ => some k_ ≠ (.slice Ao34 y330.length co34 : Value).ownBlock) (fun _ => False) rfl rfl ?aP (fun _ hk => hk.elim) ?aF ?aO ?aB ?aS ?aL ?_
          (case aP => exact rfl)
          (case aB => exact (by repeat (first | (with_reducible first | exact HB.out | apply below_alloc | apply pw_below_drewN | apply below_drew1 | refine below_set ?_ GE323.out | refine below_set ?_ GE324.out | refine below_set ?_ GE325.out) | exact HB.out)))
          (case aF => exact (fun k_ hk => Kd.fresh' (Kd.R_lt (by (with_reducible repeat (first | apply Kd.R_alloc | apply Kd.R_drewN | apply Kd.R_drew)); exact HO332.out)) k_ hk))
          (case aO => exact (by (with_reducible repeat (first | apply Kd.R_alloc | apply Kd.R_drewN | apply Kd.R_drew)); exact HO_326005.out))
          (case aS => exact (below_size (by repeat (first | (with_reducible first | exact HB.out | apply below_alloc | apply pw_below_drewN | apply below_drew1 | refine below_set ?_ GE323.out | refine below_set ?_ GE324.out | refine below_set ?_ GE325.out) | exact HB.out))))
          (case aL => have := LMc26.out; omega)
          intro v335 w38 ho hb hg hat
          rw [← Ny334.out] at ho
          have n0_ := Aside0.mk (blk_grown (g := gb323) (o := .cells #[.int .u8 a0_0, .int .u8 a0_1, .int .u8 a0_2, .int .u8 a0_3, .slice (some ad329) l0_4.length c0_4] 24 (0, 0)) (bx0 BK323) hg (Kd.R_ne HO_326005.out BK323.out (by decide)))
          have n1_ := Aside0.mk (blk_grown (g := gb324) (o := .cells #[.int .i64 0, .int .i64 0, .int .i64 0, .int .i64 0, .slice none 0 0, .slice none 0 0] 49 (0, 0)) (bx0 BK324) hg (Kd.R_ne HO_326005.out BK324.out (by decide)))
          have n2_ := Aside0.mk (blk_grown (g := gb325) (o := .cells #[.int .i64 (wrap64 (1 + (wrap64 (Int.tmod a0_0 40)))), .int .i64 (wrap64 ((wrap64 (1 + (wrap64 (Int.tmod a0_0 40)))) + (wrap64 (Int.tmod a0_1 8)))), .int .i64 (wrap64 (Int.tmod a0_2 6)), .int .i64 (wrap64 (Int.tmod a0_3 6)), .slice Ao34 y330.length co34, u326005] 49 (0, 0)) (bx0 BK325) hg (Kd.R_ne HO_326005.out BK325.out (by decide)))
          have n3_ := Aside0.mk (Kd.R_after (ok := (fun _ => True)) (by (with_reducible repeat (first | apply Kd.R_alloc | apply Kd.R_drewN | apply Kd.R_drew)); exact Kd.R_mono HO332.out (fun _ hk => ⟨trivial, hk⟩)) hg hat)
          have n4_ := Aside0.mk (hb)
          have n5_ := Aside0.mk (ho)
          clear BK323
          clear BK324
          clear BK325
          clear HO332
          clear HB
          clear HO_326005
          have BK323 := n0_
          have BK324 := n1_
          have BK325 := n2_
          have HO332 := n3_
          have HB := n4_
          have HO336 := n5_
          clear n0_ n1_ n2_ n3_ n4_ n5_
          clear ho hb hg hat
          obtain ⟨Ao39, co39, eo39⟩ := Kd.R_slice HO336.out
          (first | subst eo39 | (injection eo39 with f1_ f2_ f3_; have f4_ := f1_.symm; have f5_ := f3_.symm; clear f1_ f2_ f3_; subst f4_; subst f5_))
          refine hK.out _ _ ⟨bc BK325 0, bc BK325 1, bc BK325 2, bc BK325 3, bc BK325 4, bc BK325 5, bc BK323 0, bc BK323 1, bc BK323 2, bc BK323 3, bc BK323 4, ((HB.out.cell (World.block_lt_of_cell? w _ hw333_0)).trans hw333_0)⟩ (fun hHeld => ?_)
          clear hK K
          refine norm_ (a' := ?_) ?_ ?_
          rotate_left
          · show Act.put _ (some 102) _ = _
            simp only [Act.put, List.setIfInBounds_toArray, List.set_cons_zero, List.set_cons_succ, i64_w, i32_w]
            rfl
          refine pure_ (i := 23) (N := some 103) (v := ?_) (a' := ?_) #[true, true, true, true, true, true, true, true, true, true, true, true, true, true, true, true, true, true, true, true, true, true, true, true, false] rfl rfl (any_of HT_.out (by kernel_rfl)) (fun _ _ _ h => h) (Or.inl ⟨by rfl, ?_⟩) ?_ ?_
          rotate_left
          · intro w'
            go_simp
            with_reducible rfl
          rotate_left
          · simp only [Act.put, List.setIfInBounds_toArray, List.set_cons_zero, List.set_cons_succ, i64_w, i32_w]
            rfl
          refine last_ (i := 24) (N := none) #[true, true, true, true, true, true, true, true, true, true, true, true, true, true, true, true, true, true, true, true, true, true, true, true, true] rfl rfl (one_of HT_.out (by kernel_rfl)) (by decide) (fun K hK => ?_)
          have hs40 : w38.cell? ⟨gb325, 5, none⟩ = some (u326005) := bc BK325 5
          have hfs40 := blk_frozen BK325.out 5
          have hns40_0 := NB323_325.out
          have hns40_1 := NB324_325.out
          have hms40_0 := NB325_323.out
          have hms40_1 := NB325_324.out
          with_reducible refine skip_ (w1 := ?_) ?_ ?_ ?_ ?_
          rotate_left
          · rfl
          · rfl
          · first | (apply store_box BK325; (case hop => rfl); (case hp => rfl); (case hv => rfl); (case hg => with_reducible (repeat (refine blk_far ?_ (by assumption) _); exact bx0 BK325)); (case hi => kernel_rfl); (case ho => rfl); (case h1 => rfl); (case hw => simp only [setCells, Nat.zero_add, Nat.reduceAdd]; rfl)) | (go_simp; rfl)
          refine hK.out _ _ ?_
          clear hK K
          refine done_ (done_of HT_.out (by kernel_rfl)) ?_
          try go_wp2
          go_roundg k1
          case measure => have := HK1.out; omega
          case rel => exact ⟨(ji21), (wrap64 (x6_1 + 2)), (y330), (y334), (.slice Ao34 y330.length co34), (.slice Ao39 y334.length co39), (by first | rfl | (simp; done) | (simp only [← hji21] <;> (first | rfl | simp)) | (simp [*]; done)), (by first | rfl | (simp; done) | (simp [*]; done)), H', ⟨by have := HK1.out; omega⟩, ⟨by (with_reducible repeat (first | apply Kd.R_alloc | apply Kd.R_drewN | apply Kd.R_drew)); exact Kd.R_mono (Kd.R_far (p := ⟨gb325, 5, none⟩) (Kd.R_types HO332.out BK325.out (by decide)) (fun _ hk => hk.2) (.slice Ao39 y334.length co39)) (fun _ hk => hk.1.2)⟩, ⟨by (with_reducible repeat (first | apply Kd.R_alloc | apply Kd.R_drewN | apply Kd.R_drew)); exact Kd.R_mono (Kd.R_far (p := ⟨gb325, 5, none⟩) (Kd.R_types HO336.out BK325.out (by decide)) (fun _ hk => hk.2) (.slice Ao39 y334.length co39)) (fun _ hk => hk.1)⟩, ⟨by (with_reducible repeat refine bp_ ?_); refine blk_far ?_ NB323_325.out _; (with_reducible repeat refine bp_ ?_); exact BK323.out⟩, ⟨by (with_reducible repeat refine bp_ ?_); refine blk_far ?_ NB324_325.out _; (with_reducible repeat refine bp_ ?_); exact BK324.out⟩, ⟨by (with_reducible repeat refine bp_ ?_); refine blk_put (cs := #[.int .i64 (wrap64 (1 + (wrap64 (Int.tmod a0_0 40)))), .int .i64 (wrap64 ((wrap64 (1 + (wrap64 (Int.tmod a0_0 40)))) + (wrap64 (Int.tmod a0_1 8)))), .int .i64 (wrap64 (Int.tmod a0_2 6)), .int .i64 (wrap64 (Int.tmod a0_3 6)), .slice Ao34 y330.length co34, u326005]) ?_ 5 _ rfl; (with_reducible repeat refine bp_ ?_); exact BK325.out⟩, ⟨by repeat (first | (with_reducible first | exact HB.out | apply below_alloc | apply pw_below_drewN | apply below_drew1 | refine below_set ?_ GE323.out | refine below_set ?_ GE324.out | refine below_set ?_ GE325.out) | exact HB.out)⟩⟩
        · rw [if_neg c17] at H
          have c17b0 : decide (x6_1 < 24) = false := decide_eq_false c17
          clear c17
          simp only [Option.some.injEq, Prod.mk.injEq] at H
          obtain ⟨rfl, rfl, rfl, rfl, rfl, rfl⟩ := H
          have hnb41 := NB323_324.out
          have hnc41 := NB324_323.out
          have hnb42 := NB323_325.out
          have hnc42 := NB325_323.out
          have hcz43_0 : wr.cell? ⟨gb323, 0, none⟩ = some (.int .u8 a0_0) := bc BK323 0
          have hcz43_1 : wr.cell? ⟨gb323, 1, none⟩ = some (.int .u8 a0_1) := bc BK323 1
          have hcz43_2 : wr.cell? ⟨gb323, 2, none⟩ = some (.int .u8 a0_2) := bc BK323 2
          have hcz43_3 : wr.cell? ⟨gb323, 3, none⟩ = some (.int .u8 a0_3) := bc BK323 3
          have hcz43_4 : wr.cell? ⟨gb323, 4, none⟩ = some (.slice A0_4 l0_4.length c0_4) := bc BK323 4
          have hfz43_0 := blk_frozen BK323.out 0
          have hfz43_1 := blk_frozen BK323.out 1
          have hfz43_2 := blk_frozen BK323.out 2
          have hfz43_3 := blk_frozen BK323.out 3
          have hfz43_4 := blk_frozen BK323.out 4
          have hnb44 := NB325_324.out
          have hnc44 := NB324_325.out
          have hcz45_0 : wr.cell? ⟨gb325, 0, none⟩ = some (.int .i64 (wrap64 (1 + (wrap64 (Int.tmod a0_0 40))))) := bc BK325 0
          have hcz45_1 : wr.cell? ⟨gb325, 1, none⟩ = some (.int .i64 (wrap64 ((wrap64 (1 + (wrap64 (Int.tmod a0_0 40)))) + (wrap64 (Int.tmod a0_1 8))))) := bc BK325 1
          have hcz45_2 : wr.cell? ⟨gb325, 2, none⟩ = some (.int .i64 (wrap64 (Int.tmod a0_2 6))) := bc BK325 2
          have hcz45_3 : wr.cell? ⟨gb325, 3, none⟩ = some (.int .i64 (wrap64 (Int.tmod a0_3 6))) := bc BK325 3
          have hcz45_4 : wr.cell? ⟨gb325, 4, none⟩ = some (u326004) := bc BK325 4
          have hcz45_5 : wr.cell? ⟨gb325, 5, none⟩ = some (u326005) := bc BK325 5
          have hfz45_0 := blk_frozen BK325.out 0
          have hfz45_1 := blk_frozen BK325.out 1
          have hfz45_2 := blk_frozen BK325.out 2
          have hfz45_3 := blk_frozen BK325.out 3
          have hfz45_4 := blk_frozen BK325.out 4
          have hfz45_5 := blk_frozen BK325.out 5
          have hcz46_0 : wr.cell? ⟨gb324, 0, none⟩ = some (.int .i64 0) := bc BK324 0
          have hcz46_1 : wr.cell? ⟨gb324, 1, none⟩ = some (.int .i64 0) := bc BK324 1
          have hcz46_2 : wr.cell? ⟨gb324, 2, none⟩ = some (.int .i64 0) := bc BK324 2
          have hcz46_3 : wr.cell? ⟨gb324, 3, none⟩ = some (.int .i64 0) := bc BK324 3
          have hcz46_4 : wr.cell? ⟨gb324, 4, none⟩ = some (.slice none 0 0) := bc BK324 4
          have hcz46_5 : wr.cell? ⟨gb324, 5, none⟩ = some (.slice none 0 0) := bc BK324 5
          have hfz46_0 := blk_frozen BK324.out 0
          have hfz46_1 := blk_frozen BK324.out 1
          have hfz46_2 := blk_frozen BK324.out 2
          have hfz46_3 := blk_frozen BK324.out 3
          have hfz46_4 := blk_frozen BK324.out 4
          have hfz46_5 := blk_frozen BK324.out 5
          obtain ⟨Ao47, co47, eo47⟩ := Kd.R_slice HO_326004.out
          subst eo47
          obtain ⟨Ao48, co48, eo48⟩ := Kd.R_slice HO_326005.out
          subst eo48
          go_wp2
          refine bodyPost_ret (results_cell_row rfl _ _ gb324 49 #[.int .i64 (wrap64 (1 + (wrap64 (Int.tmod a0_0 40)))), .int .i64 (wrap64 ((wrap64 (1 + (wrap64 (Int.tmod a0_0 40)))) + (wrap64 (Int.tmod a0_1 8)))), .int .i64 (wrap64 (Int.tmod a0_2 6)), .int .i64 (wrap64 (Int.tmod a0_3 6)), .slice Ao47 x326004_1.length co47, .slice Ao48 x326005_1.length co48] (0, 0) _ rfl (by (with_reducible repeat refine bp_ ?_); refine blk_put (cs := #[.int .i64 (wrap64 (1 + (wrap64 (Int.tmod a0_0 40)))), .int .i64 (wrap64 ((wrap64 (1 + (wrap64 (Int.tmod a0_0 40)))) + (wrap64 (Int.tmod a0_1 8)))), .int .i64 (wrap64 (Int.tmod a0_2 6)), .int .i64 (wrap64 (Int.tmod a0_3 6)), .slice Ao47 x326004_1.length co47, .slice none 0 0]) ?_ 5 _ rfl; (with_reducible repeat refine bp_ ?_); refine blk_put (cs := #[.int .i64 (wrap64 (1 + (wrap64 (Int.tmod a0_0 40)))), .int .i64 (wrap64 ((wrap64 (1 + (wrap64 (Int.tmod a0_0 40)))) + (wrap64 (Int.tmod a0_1 8)))), .int .i64 (wrap64 (Int.tmod a0_2 6)), .int .i64 (wrap64 (Int.tmod a0_3 6)), .slice none 0 0, .slice none 0 0]) ?_ 4 _ rfl; (with_reducible repeat refine bp_ ?_); refine blk_put (cs := #[.int .i64 (wrap64 (1 + (wrap64 (Int.tmod a0_0 40)))), .int .i64 (wrap64 ((wrap64 (1 + (wrap64 (Int.tmod a0_0 40)))) + (wrap64 (Int.tmod a0_1 8)))), .int .i64 (wrap64 (Int.tmod a0_2 6)), .int .i64 0, .slice none 0 0, .slice none 0 0]) ?_ 3 _ rfl; (with_reducible repeat refine bp_ ?_); refine blk_put (cs := #[.int .i64 (wrap64 (1 + (wrap64 (Int.tmod a0_0 40)))), .int .i64 (wrap64 ((wrap64 (1 + (wrap64 (Int.tmod a0_0 40)))) + (wrap64 (Int.tmod a0_1 8)))), .int .i64 0, .int .i64 0, .slice none 0 0, .slice none 0 0]) ?_ 2 _ rfl; (with_reducible repeat refine bp_ ?_); refine blk_put (cs := #[.int .i64 (wrap64 (1 + (wrap64 (Int.tmod a0_0 40)))), .int .i64 0, .int .i64 0, .int .i64 0, .slice none 0 0, .slice none 0 0]) ?_ 1 _ rfl; (with_reducible repeat refine bp_ ?_); refine blk_put (cs := #[.int .i64 0, .int .i64 0, .int .i64 0, .int .i64 0, .slice none 0 0, .slice none 0 0]) ?_ 0 _ rfl; (with_reducible repeat refine bp_ ?_); exact BK324.out) Try.underlying49 rfl (by kernel_rfl)) rfl ?_
          exact ⟨_, _, by first | rfl | (simp [errW_none, errW_some] <;> rfl) | (simp [*, errW_none, errW_some] <;> rfl), by (with_reducible repeat (first | apply Kd.R_alloc | apply Kd.R_drewN | apply Kd.R_drew)); exact Kd.R_mono (Kd.R_far (p := ⟨gb324, 5, none⟩) (Kd.R_far (p := ⟨gb324, 4, none⟩) (Kd.R_far (p := ⟨gb324, 3, none⟩) (Kd.R_far (p := ⟨gb324, 2, none⟩) (Kd.R_far (p := ⟨gb324, 1, none⟩) (Kd.R_far (p := ⟨gb324, 0, none⟩) (Kd.R_types HO_326004.out BK324.out (by decide)) (fun _ hk => hk.2) (.int .i64 (wrap64 (1 + (wrap64 (Int.tmod a0_0 40)))))) (fun _ hk => hk.2) (.int .i64 (wrap64 ((wrap64 (1 + (wrap64 (Int.tmod a0_0 40)))) + (wrap64 (Int.tmod a0_1 8)))))) (fun _ hk => hk.2) (.int .i64 (wrap64 (Int.tmod a0_2 6)))) (fun _ hk => hk.2) (.int .i64 (wrap64 (Int.tmod a0_3 6)))) (fun _ hk => hk.2) (.slice Ao47 x326004_1.length co47)) (fun _ hk => hk.2) (.slice Ao48 x326005_1.length co48)) (fun _ hk => hk.1), by (with_reducible repeat (first | apply Kd.R_alloc | apply Kd.R_drewN | apply Kd.R_drew)); exact Kd.R_mono (Kd.R_far (p := ⟨gb324, 5, none⟩) (Kd.R_far (p := ⟨gb324, 4, none⟩) (Kd.R_far (p := ⟨gb324, 3, none⟩) (Kd.R_far (p := ⟨gb324, 2, none⟩) (Kd.R_far (p := ⟨gb324, 1, none⟩) (Kd.R_far (p := ⟨gb324, 0, none⟩) (Kd.R_types HO_326005.out BK324.out (by decide)) (fun _ hk => hk.2) (.int .i64 (wrap64 (1 + (wrap64 (Int.tmod a0_0 40)))))) (fun _ hk => hk.2) (.int .i64 (wrap64 ((wrap64 (1 + (wrap64 (Int.tmod a0_0 40)))) + (wrap64 (Int.tmod a0_1 8)))))) (fun _ hk => hk.2) (.int .i64 (wrap64 (Int.tmod a0_2 6)))) (fun _ hk => hk.2) (.int .i64 (wrap64 (Int.tmod a0_3 6)))) (fun _ hk => hk.2) (.slice Ao47 x326004_1.length co47)) (fun _ hk => hk.2) (.slice Ao48 x326005_1.length co48)) (fun _ hk => hk.1), by repeat (first | (with_reducible first | exact HB.out | apply below_alloc | apply pw_below_drewN | apply below_drew1 | refine below_set ?_ GE323.out | refine below_set ?_ GE324.out | refine below_set ?_ GE325.out) | exact HB.out)⟩
      · rw [if_neg c16] at H
        have c16b0 : decide ((wrap64 (x6_1 + 1)) < (l0_4.length : Int)) = false := decide_eq_false c16
        clear c16
        simp only [Option.some.injEq, Prod.mk.injEq] at H
        obtain ⟨rfl, rfl, rfl, rfl, rfl, rfl⟩ := H
        have hnb49 := NB323_324.out
        have hnc49 := NB324_323.out
        have hnb50 := NB323_325.out
        have hnc50 := NB325_323.out
        have hcz51_0 : wr.cell? ⟨gb323, 0, none⟩ = some (.int .u8 a0_0) := bc BK323 0
        have hcz51_1 : wr.cell? ⟨gb323, 1, none⟩ = some (.int .u8 a0_1) := bc BK323 1
        have hcz51_2 : wr.cell? ⟨gb323, 2, none⟩ = some (.int .u8 a0_2) := bc BK323 2
        have hcz51_3 : wr.cell? ⟨gb323, 3, none⟩ = some (.int .u8 a0_3) := bc BK323 3
        have hcz51_4 : wr.cell? ⟨gb323, 4, none⟩ = some (.slice A0_4 l0_4.length c0_4) := bc BK323 4
        have hfz51_0 := blk_frozen BK323.out 0
        have hfz51_1 := blk_frozen BK323.out 1
        have hfz51_2 := blk_frozen BK323.out 2
        have hfz51_3 := blk_frozen BK323.out 3
        have hfz51_4 := blk_frozen BK323.out 4
        have hnb52 := NB325_324.out
        have hnc52 := NB324_325.out
        have hcz53_0 : wr.cell? ⟨gb325, 0, none⟩ = some (.int .i64 (wrap64 (1 + (wrap64 (Int.tmod a0_0 40))))) := bc BK325 0
        have hcz53_1 : wr.cell? ⟨gb325, 1, none⟩ = some (.int .i64 (wrap64 ((wrap64 (1 + (wrap64 (Int.tmod a0_0 40)))) + (wrap64 (Int.tmod a0_1 8))))) := bc BK325 1
        have hcz53_2 : wr.cell? ⟨gb325, 2, none⟩ = some (.int .i64 (wrap64 (Int.tmod a0_2 6))) := bc BK325 2
        have hcz53_3 : wr.cell? ⟨gb325, 3, none⟩ = some (.int .i64 (wrap64 (Int.tmod a0_3 6))) := bc BK325 3
        have hcz53_4 : wr.cell? ⟨gb325, 4, none⟩ = some (u326004) := bc BK325 4
        have hcz53_5 : wr.cell? ⟨gb325, 5, none⟩ = some (u326005) := bc BK325 5
        have hfz53_0 := blk_frozen BK325.out 0
        have hfz53_1 := blk_frozen BK325.out 1
        have hfz53_2 := blk_frozen BK325.out 2
        have hfz53_3 := blk_frozen BK325.out 3
        have hfz53_4 := blk_frozen BK325.out 4
        have hfz53_5 := blk_frozen BK325.out 5
        have hcz54_0 : wr.cell? ⟨gb324, 0, none⟩ = some (.int .i64 0) := bc BK324 0
        have hcz54_1 : wr.cell? ⟨gb324, 1, none⟩ = some (.int .i64 0) := bc BK324 1
        have hcz54_2 : wr.cell? ⟨gb324, 2, none⟩ = some (.int .i64 0) := bc BK324 2
        have hcz54_3 : wr.cell? ⟨gb324, 3, none⟩ = some (.int .i64 0) := bc BK324 3
        have hcz54_4 : wr.cell? ⟨gb324, 4, none⟩ = some (.slice none 0 0) := bc BK324 4
        have hcz54_5 : wr.cell? ⟨gb324, 5, none⟩ = some (.slice none 0 0) := bc BK324 5
        have hfz54_0 := blk_frozen BK324.out 0
        have hfz54_1 := blk_frozen BK324.out 1
        have hfz54_2 := blk_frozen BK324.out 2
        have hfz54_3 := blk_frozen BK324.out 3
        have hfz54_4 := blk_frozen BK324.out 4
        have hfz54_5 := blk_frozen BK324.out 5
        obtain ⟨Ao55, co55, eo55⟩ := Kd.R_slice HO_326004.out
        subst eo55
        obtain ⟨Ao56, co56, eo56⟩ := Kd.R_slice HO_326005.out
        subst eo56
        go_wp2
        refine bodyPost_ret (results_cell_row rfl _ _ gb324 49 #[.int .i64 (wrap64 (1 + (wrap64 (Int.tmod a0_0 40)))), .int .i64 (wrap64 ((wrap64 (1 + (wrap64 (Int.tmod a0_0 40)))) + (wrap64 (Int.tmod a0_1 8)))), .int .i64 (wrap64 (Int.tmod a0_2 6)), .int .i64 (wrap64 (Int.tmod a0_3 6)), .slice Ao55 x326004_1.length co55, .slice Ao56 x326005_1.length co56] (0, 0) _ rfl (by (with_reducible repeat refine bp_ ?_); refine blk_put (cs := #[.int .i64 (wrap64 (1 + (wrap64 (Int.tmod a0_0 40)))), .int .i64 (wrap64 ((wrap64 (1 + (wrap64 (Int.tmod a0_0 40)))) + (wrap64 (Int.tmod a0_1 8)))), .int .i64 (wrap64 (Int.tmod a0_2 6)), .int .i64 (wrap64 (Int.tmod a0_3 6)), .slice Ao55 x326004_1.length co55, .slice none 0 0]) ?_ 5 _ rfl; (with_reducible repeat refine bp_ ?_); refine blk_put (cs := #[.int .i64 (wrap64 (1 + (wrap64 (Int.tmod a0_0 40)))), .int .i64 (wrap64 ((wrap64 (1 + (wrap64 (Int.tmod a0_0 40)))) + (wrap64 (Int.tmod a0_1 8)))), .int .i64 (wrap64 (Int.tmod a0_2 6)), .int .i64 (wrap64 (Int.tmod a0_3 6)), .slice none 0 0, .slice none 0 0]) ?_ 4 _ rfl; (with_reducible repeat refine bp_ ?_); refine blk_put (cs := #[.int .i64 (wrap64 (1 + (wrap64 (Int.tmod a0_0 40)))), .int .i64 (wrap64 ((wrap64 (1 + (wrap64 (Int.tmod a0_0 40)))) + (wrap64 (Int.tmod a0_1 8)))), .int .i64 (wrap64 (Int.tmod a0_2 6)), .int .i64 0, .slice none 0 0, .slice none 0 0]) ?_ 3 _ rfl; (with_reducible repeat refine bp_ ?_); refine blk_put (cs := #[.int .i64 (wrap64 (1 + (wrap64 (Int.tmod a0_0 40)))), .int .i64 (wrap64 ((wrap64 (1 + (wrap64 (Int.tmod a0_0 40)))) + (wrap64 (Int.tmod a0_1 8)))), .int .i64 0, .int .i64 0, .slice none 0 0, .slice none 0 0]) ?_ 2 _ rfl; (with_reducible repeat refine bp_ ?_); refine blk_put (cs := #[.int .i64 (wrap64 (1 + (wrap64 (Int.tmod a0_0 40)))), .int .i64 0, .int .i64 0, .int .i64 0, .slice none 0 0, .slice none 0 0]) ?_ 1 _ rfl; (with_reducible repeat refine bp_ ?_); refine blk_put (cs := #[.int .i64 0, .int .i64 0, .int .i64 0, .int .i64 0, .slice none 0 0, .slice none 0 0]) ?_ 0 _ rfl; (with_reducible repeat refine bp_ ?_); exact BK324.out) Try.underlying49 rfl (by kernel_rfl)) rfl ?_
        exact ⟨_, _, by first | rfl | (simp [errW_none, errW_some] <;> rfl) | (simp [*, errW_none, errW_some] <;> rfl), by (with_reducible repeat (first | apply Kd.R_alloc | apply Kd.R_drewN | apply Kd.R_drew)); exact Kd.R_mono (Kd.R_far (p := ⟨gb324, 5, none⟩) (Kd.R_far (p := ⟨gb324, 4, none⟩) (Kd.R_far (p := ⟨gb324, 3, none⟩) (Kd.R_far (p := ⟨gb324, 2, none⟩) (Kd.R_far (p := ⟨gb324, 1, none⟩) (Kd.R_far (p := ⟨gb324, 0, none⟩) (Kd.R_types HO_326004.out BK324.out (by decide)) (fun _ hk => hk.2) (.int .i64 (wrap64 (1 + (wrap64 (Int.tmod a0_0 40)))))) (fun _ hk => hk.2) (.int .i64 (wrap64 ((wrap64 (1 + (wrap64 (Int.tmod a0_0 40)))) + (wrap64 (Int.tmod a0_1 8)))))) (fun _ hk => hk.2) (.int .i64 (wrap64 (Int.tmod a0_2 6)))) (fun _ hk => hk.2) (.int .i64 (wrap64 (Int.tmod a0_3 6)))) (fun _ hk => hk.2) (.slice Ao55 x326004_1.length co55)) (fun _ hk => hk.2) (.slice Ao56 x326005_1.length co56)) (fun _ hk => hk.1), by (with_reducible repeat (first | apply Kd.R_alloc | apply Kd.R_drewN | apply Kd.R_drew)); exact Kd.R_mono (Kd.R_far (p := ⟨gb324, 5, none⟩) (Kd.R_far (p := ⟨gb324, 4, none⟩) (Kd.R_far (p := ⟨gb324, 3, none⟩) (Kd.R_far (p := ⟨gb324, 2, none⟩) (Kd.R_far (p := ⟨gb324, 1, none⟩) (Kd.R_far (p := ⟨gb324, 0, none⟩) (Kd.R_types HO_326005.out BK324.out (by decide)) (fun _ hk => hk.2) (.int .i64 (wrap64 (1 + (wrap64 (Int.tmod a0_0 40)))))) (fun _ hk => hk.2) (.int .i64 (wrap64 ((wrap64 (1 + (wrap64 (Int.tmod a0_0 40)))) + (wrap64 (Int.tmod a0_1 8)))))) (fun _ hk => hk.2) (.int .i64 (wrap64 (Int.tmod a0_2 6)))) (fun _ hk => hk.2) (.int .i64 (wrap64 (Int.tmod a0_3 6)))) (fun _ hk => hk.2) (.slice Ao55 x326004_1.length co55)) (fun _ hk => hk.2) (.slice Ao56 x326005_1.length co56)) (fun _ hk => hk.1), by repeat (first | (with_reducible first | exact HB.out | apply below_alloc | apply pw_below_drewN | apply below_drew1 | refine below_set ?_ GE323.out | refine below_set ?_ GE324.out | refine below_set ?_ GE325.out) | exact HB.out)⟩

end Go.Proofs.Ytlofmgdjnaajjaa.Q

namespace Go.Proofs.Ytlofmgdjnaajjaa.Q
open Go.RowKit Go.Proofs.YtlofmgdjnaajjaaW.PrintWords Go.Proofs.YtlofmgdjnaajjaaW.PrintLast Go.Proofs.YtlofmgdjnaajjaaW.PrintMore
attribute [local go_sem] run_makeFunc_own max2_int min2_int max_two min_two max_three min_three max_four min_four   -- for this text's walks alone
set_option linter.unusedVariables false
set_option linter.unusedSimpArgs false

/-! ### wireloomref45_InRange: function 29 -/
def wireloomref45_InRange.f (a0_0 : Int) (a0_1 : Int) (a0_2 : Int) (a0_3 : Int) (a0_4 : Int) (a0_5 : Int) (a0_6 : Bool) : Option (Bool) := (wireloomref45_Outlook.f a0_0 a0_1 a0_2 a0_3 a0_4 a0_5 a0_6).bind fun bt314 => (if bt314.1 ≥ a0_4 then (some (decide (bt314.2 ≤ a0_5))) else (some false))
set_option maxHeartbeats 8000000 in
set_option maxRecDepth 100000 in
theorem wireloomref45_InRange.calls (a0_0 : Int) (a0_1 : Int) (a0_2 : Int) (a0_3 : Int) (a0_4 : Int) (a0_5 : Int) (a0_6 : Bool) (r : Bool) (w : World) (h : wireloomref45_InRange.f a0_0 a0_1 a0_2 a0_3 a0_4 a0_5 a0_6 = some r) :
    Calls Try.prog 29 #[.agg #[.int .i64 a0_0, .int .i64 a0_1, .int .i64 a0_2, .int .i64 a0_3, .int .i64 a0_4, .int .i64 a0_5, .bool a0_6]] w fun e w' => e = .returned (.bool r) ∧ Below w.heap.size w w' := by
  have hu28 := Try.underlying28
  have hu40 := Try.underlying40
  have HB := Aside0.mk (Below.refl w.heap.size w)
  have H : ((wireloomref45_Outlook.f a0_0 a0_1 a0_2 a0_3 a0_4 a0_5 a0_6).bind fun bt314 => (if bt314.1 ≥ a0_4 then (some (decide (bt314.2 ≤ a0_5))) else (some false))) = some r := h
  clear h
  replace H := Option.bind_eq_some_iff.mp H
  obtain ⟨⟨t314, t315⟩, A20, H⟩ := H
  replace H : (if t314 ≥ a0_4 then (some (decide (t315 ≤ a0_5))) else (some false)) = some r := H
  have A2 := Aside0.mk A20
  clear A20
  by_cases c3 : t314 ≥ a0_4
  · rw [if_pos c3] at H
    have c3b0 : decide (a0_4 ≤ t314) = true := decide_eq_true c3
    clear c3
    obtain rfl := Option.some.inj H
    go_enter Try.func29, Try.ntmps29
    go_wp2_with (first | ((with_reducible refine gate_dst (N := 1) rfl ?_); refine box_event ?hg (N := 1) ?hd (cs := #[.int .i64 a0_0, .int .i64 a0_1, .int .i64 a0_2, .int .i64 a0_3, .int .i64 a0_4, .int .i64 a0_5, .bool a0_6]) (t := 28) ?hr ?_; (case hd => rfl); (case hg => rfl); (case hr => first | (go_simp; done) | (go_simp; rfl)); intro gb313 hg w4 hbox hb; have n0_ := Aside0.mk (below_step (by repeat (first | (with_reducible first | exact HB.out | apply below_alloc | apply pw_below_drewN | apply below_drew1) | exact HB.out)) hb); have n1_ := Aside0.mk (hbox); have n2_ := Aside0.mk ((by rw [hg]; exact (below_size (by repeat (first | (with_reducible first | exact HB.out | apply below_alloc | apply pw_below_drewN | apply below_drew1) | exact HB.out))) : w.heap.size ≤ gb313)); have n3_ := Aside0.mk ((by rw [hg]; exact (below_size (by repeat (first | (with_reducible first | exact HB.out | apply below_alloc | apply pw_below_drewN | apply below_drew1) | exact HB.out))) : w.heap.size ≤ gb313)); clear HB; have HB := n0_; have BK313 := n1_; have GW313 := n2_; have GE313 := n3_; clear n0_ n1_ n2_ n3_; clear hb hbox hg; have hcz5_0 : w4.cell? ⟨gb313, 0, none⟩ = some (.int .i64 a0_0) := bc BK313 0; have hcz5_1 : w4.cell? ⟨gb313, 1, none⟩ = some (.int .i64 a0_1) := bc BK313 1; have hcz5_2 : w4.cell? ⟨gb313, 2, none⟩ = some (.int .i64 a0_2) := bc BK313 2; have hcz5_3 : w4.cell? ⟨gb313, 3, none⟩ = some (.int .i64 a0_3) := bc BK313 3; have hcz5_4 : w4.cell? ⟨gb313, 4, none⟩ = some (.int .i64 a0_4) := bc BK313 4; have hcz5_5 : w4.cell? ⟨gb313, 5, none⟩ = some (.int .i64 a0_5) := bc BK313 5; have hcz5_6 : w4.cell? ⟨gb313, 6, none⟩ = some (.bool a0_6) := bc BK313 6; have hfz5_0 := blk_frozen BK313.out 0; have hfz5_1 := blk_frozen BK313.out 1; have hfz5_2 := blk_frozen BK313.out 2; have hfz5_3 := blk_frozen BK313.out 3; have hfz5_4 := blk_frozen BK313.out 4; have hfz5_5 := blk_frozen BK313.out 5; have hfz5_6 := blk_frozen BK313.out 6) | ((with_reducible refine gate_callee (f := 18) rfl ?_); refine goesL_ (some 5) rfl rfl Try.func18 (by kernel_rfl) rfl #[.agg #[.int .i64 a0_0, .int .i64 a0_1, .int .i64 a0_2, .int .i64 a0_3, .int .i64 a0_4, .int .i64 a0_5, .bool a0_6]] rfl (by (try simp only [List.map_toArray, List.map_cons, List.map_nil]); first | done | rfl | (simp only [List.length_drop, List.length_take]; rfl)) ?_; (with_reducible refine (wireloomref45_Outlook.calls a0_0 a0_1 a0_2 a0_3 a0_4 a0_5 a0_6 t314 t315 _ A2.out).mono ?_); rintro e w6 ⟨rfl, hb⟩; refine ⟨_, rfl, ?_⟩; have n0_ := bxb BK313 hb; have n1_ := Aside0.mk (below_step (bwt HB) hb); clear BK313; clear HB; have BK313 := n0_; have HB := n1_; clear n0_ n1_; (try clear hb); (try clear hb2); (try clear hk); (try clear hi)) | ((with_reducible refine gate_dst (N := 3) rfl ?_); refine box_event ?hg (N := 3) ?hd (cs := #[.int .i64 0, .int .i64 0]) (t := 40) ?hr ?_; (case hd => rfl); (case hg => rfl); (case hr => first | (go_simp; done) | (go_simp; rfl)); intro gb316 hg w7 hbox hb; have n0_ := bxb BK313 hb; have n1_ := Aside0.mk (below_step (bwt HB) hb); have n2_ := Aside0.mk (hbox); have n3_ := Aside0.mk ((by rw [hg]; exact (below_size (bwt HB)) : w.heap.size ≤ gb316)); have n4_ := Aside0.mk ((by rw [hg]; exact (below_size (bwt HB)) : w.heap.size ≤ gb316)); have n5_ := nlt_ BK313 hg; have n6_ := ngt_ BK313 hg; clear BK313; clear HB; have BK313 := n0_; have HB := n1_; have BK316 := n2_; have GW316 := n3_; have GE316 := n4_; have NB313_316 := n5_; have NB316_313 := n6_; clear n0_ n1_ n2_ n3_ n4_ n5_ n6_; clear hb hbox hg; have hnb8 := NB316_313.out; have hnc8 := NB313_316.out; have hcz9_0 : w7.cell? ⟨gb316, 0, none⟩ = some (.int .i64 0) := bc BK316 0; have hcz9_1 : w7.cell? ⟨gb316, 1, none⟩ = some (.int .i64 0) := bc BK316 1; have hfz9_0 := blk_frozen BK316.out 0; have hfz9_1 := blk_frozen BK316.out 1; have hcz10_0 : w7.cell? ⟨gb313, 0, none⟩ = some (.int .i64 a0_0) := bc BK313 0; have hcz10_1 : w7.cell? ⟨gb313, 1, none⟩ = some (.int .i64 a0_1) := bc BK313 1; have hcz10_2 : w7.cell? ⟨gb313, 2, none⟩ = some (.int .i64 a0_2) := bc BK313 2; have hcz10_3 : w7.cell? ⟨gb313, 3, none⟩ = some (.int .i64 a0_3) := bc BK313 3; have hcz10_4 : w7.cell? ⟨gb313, 4, none⟩ = some (.int .i64 a0_4) := bc BK313 4; have hcz10_5 : w7.cell? ⟨gb313, 5, none⟩ = some (.int .i64 a0_5) := bc BK313 5; have hcz10_6 : w7.cell? ⟨gb313, 6, none⟩ = some (.bool a0_6) := bc BK313 6; have hfz10_0 := blk_frozen BK313.out 0; have hfz10_1 := blk_frozen BK313.out 1; have hfz10_2 := blk_frozen BK313.out 2; have hfz10_3 := blk_frozen BK313.out 3; have hfz10_4 := blk_frozen BK313.out 4; have hfz10_5 := blk_frozen BK313.out 5; have hfz10_6 := blk_frozen BK313.out 6))
    go_ret
    exact ⟨by first | rfl | (simp [errW_none, errW_some] <;> rfl) | (simp [*, errW_none, errW_some] <;> rfl), by repeat (first | (with_reducible first | exact HB.out | apply below_alloc | apply pw_below_drewN | apply below_drew1 | refine below_set ?_ GE313.out | refine below_set ?_ GE316.out) | exact HB.out)⟩
  · rw [if_neg c3] at H
    have c3b0 : decide (a0_4 ≤ t314) = false := decide_eq_false c3
    clear c3
    obtain rfl := Option.some.inj H
    go_enter Try.func29, Try.ntmps29
    go_wp2_with (first | ((with_reducible refine gate_dst (N := 1) rfl ?_); refine box_event ?hg (N := 1) ?hd (cs := #[.int .i64 a0_0, .int .i64 a0_1, .int .i64 a0_2, .int .i64 a0_3, .int .i64 a0_4, .int .i64 a0_5, .bool a0_6]) (t := 28) ?hr ?_; (case hd => rfl); (case hg => rfl); (case hr => first | (go_simp; done) | (go_simp; rfl)); intro gb313 hg w11 hbox hb; have n0_ := Aside0.mk (below_step (by repeat (first | (with_reducible first | exact HB.out | apply below_alloc | apply pw_below_drewN | apply below_drew1) | exact HB.out)) hb); have n1_ := Aside0.mk (hbox); have n2_ := Aside0.mk ((by rw [hg]; exact (below_size (by repeat (first | (with_reducible first | exact HB.out | apply below_alloc | apply pw_below_drewN | apply below_drew1) | exact HB.out))) : w.heap.size ≤ gb313)); have n3_ := Aside0.mk ((by rw [hg]; exact (below_size (by repeat (first | (with_reducible first | exact HB.out | apply below_alloc | apply pw_below_drewN | apply below_drew1) | exact HB.out))) : w.heap.size ≤ gb313)); clear HB; have HB := n0_; have BK313 := n1_; have GW313 := n2_; have GE313 := n3_; clear n0_ n1_ n2_ n3_; clear hb hbox hg; have hcz12_0 : w11.cell? ⟨gb313, 0, none⟩ = some (.int .i64 a0_0) := bc BK313 0; have hcz12_1 : w11.cell? ⟨gb313, 1, none⟩ = some (.int .i64 a0_1) := bc BK313 1; have hcz12_2 : w11.cell? ⟨gb313, 2, none⟩ = some (.int .i64 a0_2) := bc BK313 2; have hcz12_3 : w11.cell? ⟨gb313, 3, none⟩ = some (.int .i64 a0_3) := bc BK313 3; have hcz12_4 : w11.cell? ⟨gb313, 4, none⟩ = some (.int .i64 a0_4) := bc BK313 4; have hcz12_5 : w11.cell? ⟨gb313, 5, none⟩ = some (.int .i64 a0_5) := bc BK313 5; have hcz12_6 : w11.cell? ⟨gb313, 6, none⟩ = some (.bool a0_6) := bc BK313 6; have hfz12_0 := blk_frozen BK313.out 0; have hfz12_1 := blk_frozen BK313.out 1; have hfz12_2 := blk_frozen BK313.out 2; have hfz12_3 := blk_frozen BK313.out 3; have hfz12_4 := blk_frozen BK313.out 4; have hfz12_5 := blk_frozen BK313.out 5; have hfz12_6 := blk_frozen BK313.out 6) | ((with_reducible refine gate_callee (f := 18) rfl ?_); refine goesL_ (some 5) rfl rfl Try.func18 (by kernel_rfl) rfl #[.agg #[.int .i64 a0_0, .int .i64 a0_1, .int .i64 a0_2, .int .i64 a0_3, .int .i64 a0_4, .int .i64 a0_5, .bool a0_6]] rfl (by (try simp only [List.map_toArray, List.map_cons, List.map_nil]); first | done | rfl | (simp only [List.length_drop, List.length_take]; rfl)) ?_; (with_reducible refine (wireloomref45_Outlook.calls a0_0 a0_1 a0_2 a0_3 a0_4 a0_5 a0_6 t314 t315 _ A2.out).mono ?_); rintro e w13 ⟨rfl, hb⟩; refine ⟨_, rfl, ?_⟩; have n0_ := bxb BK313 hb; have n1_ := Aside0.mk (below_step (bwt HB) hb); clear BK313; clear HB; have BK313 := n0_; have HB := n1_; clear n0_ n1_; (try clear hb); (try clear hb2); (try clear hk); (try clear hi)) | ((with_reducible refine gate_dst (N := 3) rfl ?_); refine box_event ?hg (N := 3) ?hd (cs := #[.int .i64 0, .int .i64 0]) (t := 40) ?hr ?_; (case hd => rfl); (case hg => rfl); (case hr => first | (go_simp; done) | (go_simp; rfl)); intro gb316 hg w14 hbox hb; have n0_ := bxb BK313 hb; have n1_ := Aside0.mk (below_step (bwt HB) hb); have n2_ := Aside0.mk (hbox); have n3_ := Aside0.mk ((by rw [hg]; exact (below_size (bwt HB)) : w.heap.size ≤ gb316)); have n4_ := Aside0.mk ((by rw [hg]; exact (below_size (bwt HB)) : w.heap.size ≤ gb316)); have n5_ := nlt_ BK313 hg; have n6_ := ngt_ BK313 hg; clear BK313; clear HB; have BK313 := n0_; have HB := n1_; have BK316 := n2_; have GW316 := n3_; have GE316 := n4_; have NB313_316 := n5_; have NB316_313 := n6_; clear n0_ n1_ n2_ n3_ n4_ n5_ n6_; clear hb hbox hg; have hnb15 := NB316_313.out; have hnc15 := NB313_316.out; have hcz16_0 : w14.cell? ⟨gb316, 0, none⟩ = some (.int .i64 0) := bc BK316 0; have hcz16_1 : w14.cell? ⟨gb316, 1, none⟩ = some (.int .i64 0) := bc BK316 1; have hfz16_0 := blk_frozen BK316.out 0; have hfz16_1 := blk_frozen BK316.out 1; have hcz17_0 : w14.cell? ⟨gb313, 0, none⟩ = some (.int .i64 a0_0) := bc BK313 0; have hcz17_1 : w14.cell? ⟨gb313, 1, none⟩ = some (.int .i64 a0_1) := bc BK313 1; have hcz17_2 : w14.cell? ⟨gb313, 2, none⟩ = some (.int .i64 a0_2) := bc BK313 2; have hcz17_3 : w14.cell? ⟨gb313, 3, none⟩ = some (.int .i64 a0_3) := bc BK313 3; have hcz17_4 : w14.cell? ⟨gb313, 4, none⟩ = some (.int .i64 a0_4) := bc BK313 4; have hcz17_5 : w14.cell? ⟨gb313, 5, none⟩ = some (.int .i64 a0_5) := bc BK313 5; have hcz17_6 : w14.cell? ⟨gb313, 6, none⟩ = some (.bool a0_6) := bc BK313 6; have hfz17_0 := blk_frozen BK313.out 0; have hfz17_1 := blk_frozen BK313.out 1; have hfz17_2 := blk_frozen BK313.out 2; have hfz17_3 := blk_frozen BK313.out 3; have hfz17_4 := blk_frozen BK313.out 4; have hfz17_5 := blk_frozen BK313.out 5; have hfz17_6 := blk_frozen BK313.out 6))
    go_ret
    exact ⟨by first | rfl | (simp [errW_none, errW_some] <;> rfl) | (simp [*, errW_none, errW_some] <;> rfl), by repeat (first | (with_reducible first | exact HB.out | apply below_alloc | apply pw_below_drewN | apply below_drew1 | refine below_set ?_ GE313.out | refine below_set ?_ GE316.out) | exact HB.out)⟩

end Go.Proofs.Ytlofmgdjnaajjaa.Q

namespace Go.Proofs.Ytlofmgdjnaajjaa.Q
open Go.RowKit Go.Proofs.YtlofmgdjnaajjaaW.PrintWords Go.Proofs.YtlofmgdjnaajjaaW.PrintLast Go.Proofs.YtlofmgdjnaajjaaW.PrintMore
attribute [local go_sem] run_makeFunc_own max2_int min2_int max_two min_two max_three min_three max_four min_four   -- for this text's walks alone
set_option linter.unusedVariables false
set_option linter.unusedSimpArgs false

/-! ### wireloomref45_Valid: function 12 -/
def wireloomref45_Valid.j0 : Nat → Bool → Int → Int → Int → Int → Int → Int → Bool → Option (Bool)
  | 0, _, _, _, _, _, _, _, _ => none
  | k + 1, x34, x318000, x318001, x318002, x318003, x318004, x318005, x318006 => if x34 = true then (some false) else (if x318002 < 0 then (some false) else (if x318002 > 1000000 then (some false) else (if x318003 < 0 then (some false) else (if x318003 > 1000000 then (some false) else (if x318006 = true then (some true) else ((wireloomref45_InRange.f x318000 x318001 x318002 x318003 x318004 x318005 x318006).bind fun t318 => (some t318)))))))
def wireloomref45_Valid.f (k : Nat) (a0_0 : Int) (a0_1 : Int) (a0_2 : Int) (a0_3 : Int) (a0_4 : Int) (a0_5 : Int) (a0_6 : Bool) : Option (Bool) := if a0_4 < 1 then (wireloomref45_Valid.j0 k true a0_0 a0_1 a0_2 a0_3 a0_4 a0_5 a0_6) else (if a0_5 < a0_4 then (wireloomref45_Valid.j0 k true a0_0 a0_1 a0_2 a0_3 a0_4 a0_5 a0_6) else (if a0_5 > 1000000 then (wireloomref45_Valid.j0 k true a0_0 a0_1 a0_2 a0_3 a0_4 a0_5 a0_6) else (if a0_0 < 1 then (wireloomref45_Valid.j0 k true a0_0 a0_1 a0_2 a0_3 a0_4 a0_5 a0_6) else (if a0_1 < a0_0 then (wireloomref45_Valid.j0 k true a0_0 a0_1 a0_2 a0_3 a0_4 a0_5 a0_6) else (wireloomref45_Valid.j0 k (decide (a0_1 > 1000000)) a0_0 a0_1 a0_2 a0_3 a0_4 a0_5 a0_6)))))
theorem wireloomref45_Valid.mono_l : ∀ k, (∀ y0 y1 y2 y3 y4 y5 y6 y7, LeO (wireloomref45_Valid.j0 k y0 y1 y2 y3 y4 y5 y6 y7) (wireloomref45_Valid.j0 (k + 1) y0 y1 y2 y3 y4 y5 y6 y7))
  | 0 => fun _ _ _ _ _ _ _ _ r h => by simp [wireloomref45_Valid.j0] at h
  | k + 1 => by
    have ih0 := wireloomref45_Valid.mono_l k
    · intro y0 y1 y2 y3 y4 y5 y6 y7
      unfold wireloomref45_Valid.j0
      repeat' first
      | (with_reducible exact ih0 _ _ _ _ _ _ _ _)
      | (with_reducible exact LeO.refl _)
      | (with_reducible exact LeO.none _)
      | (with_reducible refine LeO.ite ?_ ?_)
      | (with_reducible refine LeO.bind ?_ (fun _ => ?_))
      | exact ih0 _ _ _ _ _ _ _ _
      | exact LeO.none _
      | refine LeO.ite ?_ ?_
      | refine LeO.bind ?_ (fun _ => ?_)
theorem wireloomref45_Valid.mono : ∀ a0 a1 a2 a3 a4 a5 a6 k, LeO (wireloomref45_Valid.f k a0 a1 a2 a3 a4 a5 a6) (wireloomref45_Valid.f (k + 1) a0 a1 a2 a3 a4 a5 a6) := by
  intro a0 a1 a2 a3 a4 a5 a6 k
  have ih0 := wireloomref45_Valid.mono_l k
  unfold wireloomref45_Valid.f
  repeat' first
      | (with_reducible exact ih0 _ _ _ _ _ _ _ _)
      | (with_reducible exact LeO.refl _)
      | (with_reducible exact LeO.none _)
      | (with_reducible refine LeO.ite ?_ ?_)
      | (with_reducible refine LeO.bind ?_ (fun _ => ?_))
      | exact ih0 _ _ _ _ _ _ _ _
      | exact LeO.none _
      | refine LeO.ite ?_ ?_
      | refine LeO.bind ?_ (fun _ => ?_)
set_option maxHeartbeats 8000000 in
set_option maxRecDepth 100000 in
theorem wireloomref45_Valid.calls (k : Nat) (a0_0 : Int) (a0_1 : Int) (a0_2 : Int) (a0_3 : Int) (a0_4 : Int) (a0_5 : Int) (a0_6 : Bool) (r : Bool) (w : World) (h : wireloomref45_Valid.f k a0_0 a0_1 a0_2 a0_3 a0_4 a0_5 a0_6 = some r) :
    Calls Try.prog 12 #[.agg #[.int .i64 a0_0, .int .i64 a0_1, .int .i64 a0_2, .int .i64 a0_3, .int .i64 a0_4, .int .i64 a0_5, .bool a0_6]] w fun e w' => e = .returned (.bool r) ∧ Below w.heap.size w w' := by
  have hu28 := Try.underlying28
  have HB := Aside0.mk (Below.refl w.heap.size w)
  have H : (if a0_4 < 1 then (wireloomref45_Valid.j0 k true a0_0 a0_1 a0_2 a0_3 a0_4 a0_5 a0_6) else (if a0_5 < a0_4 then (wireloomref45_Valid.j0 k true a0_0 a0_1 a0_2 a0_3 a0_4 a0_5 a0_6) else (if a0_5 > 1000000 then (wireloomref45_Valid.j0 k true a0_0 a0_1 a0_2 a0_3 a0_4 a0_5 a0_6) else (if a0_0 < 1 then (wireloomref45_Valid.j0 k true a0_0 a0_1 a0_2 a0_3 a0_4 a0_5 a0_6) else (if a0_1 < a0_0 then (wireloomref45_Valid.j0 k true a0_0 a0_1 a0_2 a0_3 a0_4 a0_5 a0_6) else (wireloomref45_Valid.j0 k (decide (a0_1 > 1000000)) a0_0 a0_1 a0_2 a0_3 a0_4 a0_5 a0_6)))))) = some r := h
  clear h
  have HC2 := Aside0.mk H
  clear H
  go_enter Try.func12, Try.ntmps12
  go_upto_region 1 with (first | ((with_reducible refine gate_dst (N := 1) rfl ?_); refine box_event ?hg (N := 1) ?hd (cs := #[.int .i64 a0_0, .int .i64 a0_1, .int .i64 a0_2, .int .i64 a0_3, .int .i64 a0_4, .int .i64 a0_5, .bool a0_6]) (t := 28) ?hr ?_; (case hd => rfl); (case hg => rfl); (case hr => first | (go_simp; done) | (go_simp; rfl)); intro gb317 hg w3 hbox hb; have n0_ := Aside0.mk (below_step (by repeat (first | (with_reducible first | exact HB.out | apply below_alloc | apply pw_below_drewN | apply below_drew1) | exact HB.out)) hb); have n1_ := Aside0.mk (hbox); have n2_ := Aside0.mk ((by rw [hg]; exact (below_size (by repeat (first | (with_reducible first | exact HB.out | apply below_alloc | apply pw_below_drewN | apply below_drew1) | exact HB.out))) : w.heap.size ≤ gb317)); have n3_ := Aside0.mk ((by rw [hg]; exact (below_size (by repeat (first | (with_reducible first | exact HB.out | apply below_alloc | apply pw_below_drewN | apply below_drew1) | exact HB.out))) : w.heap.size ≤ gb317)); clear HB; have HB := n0_; have BK317 := n1_; have GW317 := n2_; have GE317 := n3_; clear n0_ n1_ n2_ n3_; clear hb hbox hg))
  (try simp only [Act.put, List.setIfInBounds_toArray, List.set_cons_zero, List.set_cons_succ])
  go_cut [34] (fun v34 wc => ∃ (kq : Nat) (x34_1 : Bool), v34 = .bool x34_1 ∧ Aside0 (wireloomref45_Valid.j0 kq x34_1 a0_0 a0_1 a0_2 a0_3 a0_4 a0_5 a0_6 = some r) ∧ Aside0 (kq ≤ k) ∧ Aside0 (wc.heap[gb317]? = some (.cells #[.int .i64 a0_0, .int .i64 a0_1, .int .i64 a0_2, .int .i64 a0_3, .int .i64 a0_4, .int .i64 a0_5, .bool a0_6] 28 (0, 0))) ∧ Aside0 (Below w.heap.size w wc))
  case first =>
    have H := HC2.out
    clear HC2
    by_cases c4 : a0_4 < 1
    · rw [if_pos c4] at H
      have c4b0 : decide (a0_4 < 1) = true := decide_eq_true c4
      clear c4
      (first | rw [c4b0] | (simp only [i64_w, i32_w]; rw [c4b0]) | skip)
      have H' := Aside0.mk H
      clear H
      have hcz5_0 : w3.cell? ⟨gb317, 0, none⟩ = some (.int .i64 a0_0) := bc BK317 0
      have hcz5_1 : w3.cell? ⟨gb317, 1, none⟩ = some (.int .i64 a0_1) := bc BK317 1
      have hcz5_2 : w3.cell? ⟨gb317, 2, none⟩ = some (.int .i64 a0_2) := bc BK317 2
      have hcz5_3 : w3.cell? ⟨gb317, 3, none⟩ = some (.int .i64 a0_3) := bc BK317 3
      have hcz5_4 : w3.cell? ⟨gb317, 4, none⟩ = some (.int .i64 a0_4) := bc BK317 4
      have hcz5_5 : w3.cell? ⟨gb317, 5, none⟩ = some (.int .i64 a0_5) := bc BK317 5
      have hcz5_6 : w3.cell? ⟨gb317, 6, none⟩ = some (.bool a0_6) := bc BK317 6
      have hfz5_0 := blk_frozen BK317.out 0
      have hfz5_1 := blk_frozen BK317.out 1
      have hfz5_2 := blk_frozen BK317.out 2
      have hfz5_3 := blk_frozen BK317.out 3
      have hfz5_4 := blk_frozen BK317.out 4
      have hfz5_5 := blk_frozen BK317.out 5
      have hfz5_6 := blk_frozen BK317.out 6
      go_wp2
      go_meet
      case rel => exact ⟨_, (true), (by first | rfl | (simp; done) | (simp [*]; done)), H', ⟨by first | omega | exact Nat.le_refl _⟩, ⟨by (with_reducible repeat refine bp_ ?_); exact BK317.out⟩, ⟨by repeat (first | (with_reducible first | exact HB.out | apply below_alloc | apply pw_below_drewN | apply below_drew1 | refine below_set ?_ GE317.out) | exact HB.out)⟩⟩
    · rw [if_neg c4] at H
      have c4b0 : decide (a0_4 < 1) = false := decide_eq_false c4
      clear c4
      (first | rw [c4b0] | (simp only [i64_w, i32_w]; rw [c4b0]) | skip)
      by_cases c6 : a0_5 < a0_4
      · rw [if_pos c6] at H
        have c6b0 : decide (a0_5 < a0_4) = true := decide_eq_true c6
        clear c6
        have H' := Aside0.mk H
        clear H
        have hcz7_0 : w3.cell? ⟨gb317, 0, none⟩ = some (.int .i64 a0_0) := bc BK317 0
        have hcz7_1 : w3.cell? ⟨gb317, 1, none⟩ = some (.int .i64 a0_1) := bc BK317 1
        have hcz7_2 : w3.cell? ⟨gb317, 2, none⟩ = some (.int .i64 a0_2) := bc BK317 2
        have hcz7_3 : w3.cell? ⟨gb317, 3, none⟩ = some (.int .i64 a0_3) := bc BK317 3
        have hcz7_4 : w3.cell? ⟨gb317, 4, none⟩ = some (.int .i64 a0_4) := bc BK317 4
        have hcz7_5 : w3.cell? ⟨gb317, 5, none⟩ = some (.int .i64 a0_5) := bc BK317 5
        have hcz7_6 : w3.cell? ⟨gb317, 6, none⟩ = some (.bool a0_6) := bc BK317 6
        have hfz7_0 := blk_frozen BK317.out 0
        have hfz7_1 := blk_frozen BK317.out 1
        have hfz7_2 := blk_frozen BK317.out 2
        have hfz7_3 := blk_frozen BK317.out 3
        have hfz7_4 := blk_frozen BK317.out 4
        have hfz7_5 := blk_frozen BK317.out 5
        have hfz7_6 := blk_frozen BK317.out 6
        go_wp2
        go_meet
        case rel => exact ⟨_, (true), (by first | rfl | (simp; done) | (simp [*]; done)), H', ⟨by first | omega | exact Nat.le_refl _⟩, ⟨by (with_reducible repeat refine bp_ ?_); exact BK317.out⟩, ⟨by repeat (first | (with_reducible first | exact HB.out | apply below_alloc | apply pw_below_drewN | apply below_drew1 | refine below_set ?_ GE317.out) | exact HB.out)⟩⟩
      · rw [if_neg c6] at H
        have c6b0 : decide (a0_5 < a0_4) = false := decide_eq_false c6
        clear c6
        by_cases c8 : a0_5 > 1000000
        · rw [if_pos c8] at H
          have c8b0 : decide (1000000 < a0_5) = true := decide_eq_true c8
          clear c8
          have H' := Aside0.mk H
          clear H
          have hcz9_0 : w3.cell? ⟨gb317, 0, none⟩ = some (.int .i64 a0_0) := bc BK317 0
          have hcz9_1 : w3.cell? ⟨gb317, 1, none⟩ = some (.int .i64 a0_1) := bc BK317 1
          have hcz9_2 : w3.cell? ⟨gb317, 2, none⟩ = some (.int .i64 a0_2) := bc BK317 2
          have hcz9_3 : w3.cell? ⟨gb317, 3, none⟩ = some (.int .i64 a0_3) := bc BK317 3
          have hcz9_4 : w3.cell? ⟨gb317, 4, none⟩ = some (.int .i64 a0_4) := bc BK317 4
          have hcz9_5 : w3.cell? ⟨gb317, 5, none⟩ = some (.int .i64 a0_5) := bc BK317 5
          have hcz9_6 : w3.cell? ⟨gb317, 6, none⟩ = some (.bool a0_6) := bc BK317 6
          have hfz9_0 := blk_frozen BK317.out 0
          have hfz9_1 := blk_frozen BK317.out 1
          have hfz9_2 := blk_frozen BK317.out 2
          have hfz9_3 := blk_frozen BK317.out 3
          have hfz9_4 := blk_frozen BK317.out 4
          have hfz9_5 := blk_frozen BK317.out 5
          have hfz9_6 := blk_frozen BK317.out 6
          go_wp2
          go_meet
          case rel => exact ⟨_, (true), (by first | rfl | (simp; done) | (simp [*]; done)), H', ⟨by first | omega | exact Nat.le_refl _⟩, ⟨by (with_reducible repeat refine bp_ ?_); exact BK317.out⟩, ⟨by repeat (first | (with_reducible first | exact HB.out | apply below_alloc | apply pw_below_drewN | apply below_drew1 | refine below_set ?_ GE317.out) | exact HB.out)⟩⟩
        · rw [if_neg c8] at H
          have c8b0 : decide (1000000 < a0_5) = false := decide_eq_false c8
          clear c8
          by_cases c10 : a0_0 < 1
          · rw [if_pos c10] at H
            have c10b0 : decide (a0_0 < 1) = true := decide_eq_true c10
            clear c10
            have H' := Aside0.mk H
            clear H
            have hcz11_0 : w3.cell? ⟨gb317, 0, none⟩ = some (.int .i64 a0_0) := bc BK317 0
            have hcz11_1 : w3.cell? ⟨gb317, 1, none⟩ = some (.int .i64 a0_1) := bc BK317 1
            have hcz11_2 : w3.cell? ⟨gb317, 2, none⟩ = some (.int .i64 a0_2) := bc BK317 2
            have hcz11_3 : w3.cell? ⟨gb317, 3, none⟩ = some (.int .i64 a0_3) := bc BK317 3
            have hcz11_4 : w3.cell? ⟨gb317, 4, none⟩ = some (.int .i64 a0_4) := bc BK317 4
            have hcz11_5 : w3.cell? ⟨gb317, 5, none⟩ = some (.int .i64 a0_5) := bc BK317 5
            have hcz11_6 : w3.cell? ⟨gb317, 6, none⟩ = some (.bool a0_6) := bc BK317 6
            have hfz11_0 := blk_frozen BK317.out 0
            have hfz11_1 := blk_frozen BK317.out 1
            have hfz11_2 := blk_frozen BK317.out 2
            have hfz11_3 := blk_frozen BK317.out 3
            have hfz11_4 := blk_frozen BK317.out 4
            have hfz11_5 := blk_frozen BK317.out 5
            have hfz11_6 := blk_frozen BK317.out 6
            go_wp2
            go_meet
            case rel => exact ⟨_, (true), (by first | rfl | (simp; done) | (simp [*]; done)), H', ⟨by first | omega | exact Nat.le_refl _⟩, ⟨by (with_reducible repeat refine bp_ ?_); exact BK317.out⟩, ⟨by repeat (first | (with_reducible first | exact HB.out | apply below_alloc | apply pw_below_drewN | apply below_drew1 | refine below_set ?_ GE317.out) | exact HB.out)⟩⟩
          · rw [if_neg c10] at H
            have c10b0 : decide (a0_0 < 1) = false := decide_eq_false c10
            clear c10
            by_cases c12 : a0_1 < a0_0
            · rw [if_pos c12] at H
              have c12b0 : decide (a0_1 < a0_0) = true := decide_eq_true c12
              clear c12
              have H' := Aside0.mk H
              clear H
              have hcz13_0 : w3.cell? ⟨gb317, 0, none⟩ = some (.int .i64 a0_0) := bc BK317 0
              have hcz13_1 : w3.cell? ⟨gb317, 1, none⟩ = some (.int .i64 a0_1) := bc BK317 1
              have hcz13_2 : w3.cell? ⟨gb317, 2, none⟩ = some (.int .i64 a0_2) := bc BK317 2
              have hcz13_3 : w3.cell? ⟨gb317, 3, none⟩ = some (.int .i64 a0_3) := bc BK317 3
              have hcz13_4 : w3.cell? ⟨gb317, 4, none⟩ = some (.int .i64 a0_4) := bc BK317 4
              have hcz13_5 : w3.cell? ⟨gb317, 5, none⟩ = some (.int .i64 a0_5) := bc BK317 5
              have hcz13_6 : w3.cell? ⟨gb317, 6, none⟩ = some (.bool a0_6) := bc BK317 6
              have hfz13_0 := blk_frozen BK317.out 0
              have hfz13_1 := blk_frozen BK317.out 1
              have hfz13_2 := blk_frozen BK317.out 2
              have hfz13_3 := blk_frozen BK317.out 3
              have hfz13_4 := blk_frozen BK317.out 4
              have hfz13_5 := blk_frozen BK317.out 5
              have hfz13_6 := blk_frozen BK317.out 6
              go_wp2
              go_meet
              case rel => exact ⟨_, (true), (by first | rfl | (simp; done) | (simp [*]; done)), H', ⟨by first | omega | exact Nat.le_refl _⟩, ⟨by (with_reducible repeat refine bp_ ?_); exact BK317.out⟩, ⟨by repeat (first | (with_reducible first | exact HB.out | apply below_alloc | apply pw_below_drewN | apply below_drew1 | refine below_set ?_ GE317.out) | exact HB.out)⟩⟩
            · rw [if_neg c12] at H
              have c12b0 : decide (a0_1 < a0_0) = false := decide_eq_false c12
              clear c12
              have H' := Aside0.mk H
              clear H
              have hcz14_0 : w3.cell? ⟨gb317, 0, none⟩ = some (.int .i64 a0_0) := bc BK317 0
              have hcz14_1 : w3.cell? ⟨gb317, 1, none⟩ = some (.int .i64 a0_1) := bc BK317 1
              have hcz14_2 : w3.cell? ⟨gb317, 2, none⟩ = some (.int .i64 a0_2) := bc BK317 2
              have hcz14_3 : w3.cell? ⟨gb317, 3, none⟩ = some (.int .i64 a0_3) := bc BK317 3
              have hcz14_4 : w3.cell? ⟨gb317, 4, none⟩ = some (.int .i64 a0_4) := bc BK317 4
              have hcz14_5 : w3.cell? ⟨gb317, 5, none⟩ = some (.int .i64 a0_5) := bc BK317 5
              have hcz14_6 : w3.cell? ⟨gb317, 6, none⟩ = some (.bool a0_6) := bc BK317 6
              have hfz14_0 := blk_frozen BK317.out 0
              have hfz14_1 := blk_frozen BK317.out 1
              have hfz14_2 := blk_frozen BK317.out 2
              have hfz14_3 := blk_frozen BK317.out 3
              have hfz14_4 := blk_frozen BK317.out 4
              have hfz14_5 := blk_frozen BK317.out 5
              have hfz14_6 := blk_frozen BK317.out 6
              go_wp2
              go_meet
              case rel => exact ⟨_, (decide (a0_1 > 1000000)), (by first | rfl | (simp; done) | (simp [*]; done)), H', ⟨by first | omega | exact Nat.le_refl _⟩, ⟨by (with_reducible repeat refine bp_ ?_); exact BK317.out⟩, ⟨by repeat (first | (with_reducible first | exact HB.out | apply below_alloc | apply pw_below_drewN | apply below_drew1 | refine below_set ?_ GE317.out) | exact HB.out)⟩⟩
  case rest =>
    clear HC2
    try clear c1
    try clear p2
    try clear c4
    try clear c4b0
    try clear c6
    try clear c6b0
    try clear c8
    try clear c8b0
    try clear c10
    try clear c10b0
    try clear c12
    try clear c12b0
    try clear hcz11_0
    try clear hcz11_1
    try clear hcz11_2
    try clear hcz11_3
    try clear hcz11_4
    try clear hcz11_5
    try clear hcz11_6
    try clear hcz13_0
    try clear hcz13_1
    try clear hcz13_2
    try clear hcz13_3
    try clear hcz13_4
    try clear hcz13_5
    try clear hcz13_6
    try clear hcz14_0
    try clear hcz14_1
    try clear hcz14_2
    try clear hcz14_3
    try clear hcz14_4
    try clear hcz14_5
    try clear hcz14_6
    try clear hcz5_0
    try clear hcz5_1
    try clear hcz5_2
    try clear hcz5_3
    try clear hcz5_4
    try clear hcz5_5
    try clear hcz5_6
    try clear hcz7_0
    try clear hcz7_1
    try clear hcz7_2
    try clear hcz7_3
    try clear hcz7_4
    try clear hcz7_5
    try clear hcz7_6
    try clear hcz9_0
    try clear hcz9_1
    try clear hcz9_2
    try clear hcz9_3
    try clear hcz9_4
    try clear hcz9_5
    try clear hcz9_6
    try clear hfz11_0
    try clear hfz11_1
    try clear hfz11_2
    try clear hfz11_3
    try clear hfz11_4
    try clear hfz11_5
    try clear hfz11_6
    try clear hfz13_0
    try clear hfz13_1
    try clear hfz13_2
    try clear hfz13_3
    try clear hfz13_4
    try clear hfz13_5
    try clear hfz13_6
    try clear hfz14_0
    try clear hfz14_1
    try clear hfz14_2
    try clear hfz14_3
    try clear hfz14_4
    try clear hfz14_5
    try clear hfz14_6
    try clear hfz5_0
    try clear hfz5_1
    try clear hfz5_2
    try clear hfz5_3
    try clear hfz5_4
    try clear hfz5_5
    try clear hfz5_6
    try clear hfz7_0
    try clear hfz7_1
    try clear hfz7_2
    try clear hfz7_3
    try clear hfz7_4
    try clear hfz7_5
    try clear hfz7_6
    try clear hfz9_0
    try clear hfz9_1
    try clear hfz9_2
    try clear hfz9_3
    try clear hfz9_4
    try clear hfz9_5
    try clear hfz9_6
    obtain ⟨kq, x34_1, rfl, HA, HJ1, BK317, HB⟩ := hcut
    cases kq with
    | zero => exact absurd HA.out (by simp [wireloomref45_Valid.j0])
    | succ kj1 =>
      have H := HA.out
      clear HA
      simp only [wireloomref45_Valid.j0] at H
      by_cases c15 : x34_1 = true
      · subst c15
        have H1 : (some false) = some r := by rw [if_pos rfl] at H; exact H
        clear H
        have H := H1
        clear H1
        obtain rfl := Option.some.inj H
        go_wp2
        go_ret
        exact ⟨by first | rfl | (simp [errW_none, errW_some] <;> rfl) | (simp [*, errW_none, errW_some] <;> rfl), by repeat (first | (with_reducible first | exact HB.out | apply below_alloc | apply pw_below_drewN | apply below_drew1 | refine below_set ?_ GE317.out) | exact HB.out)⟩
      · replace c15 := Bool.eq_false_iff.mpr c15
        subst c15
        have H1 : (if a0_2 < 0 then (some false) else (if a0_2 > 1000000 then (some false) else (if a0_3 < 0 then (some false) else (if a0_3 > 1000000 then (some false) else (if a0_6 = true then (some true) else ((wireloomref45_InRange.f a0_0 a0_1 a0_2 a0_3 a0_4 a0_5 a0_6).bind fun t318 => (some t318))))))) = some r := by rw [if_neg (show ¬ (false = true) by decide)] at H; exact H
        clear H
        have H := H1
        clear H1
        by_cases c16 : a0_2 < 0
        · rw [if_pos c16] at H
          have c16b0 : decide (a0_2 < 0) = true := decide_eq_true c16
          clear c16
          obtain rfl := Option.some.inj H
          have hcz17_0 : wc.cell? ⟨gb317, 0, none⟩ = some (.int .i64 a0_0) := bc BK317 0
          have hcz17_1 : wc.cell? ⟨gb317, 1, none⟩ = some (.int .i64 a0_1) := bc BK317 1
          have hcz17_2 : wc.cell? ⟨gb317, 2, none⟩ = some (.int .i64 a0_2) := bc BK317 2
          have hcz17_3 : wc.cell? ⟨gb317, 3, none⟩ = some (.int .i64 a0_3) := bc BK317 3
          have hcz17_4 : wc.cell? ⟨gb317, 4, none⟩ = some (.int .i64 a0_4) := bc BK317 4
          have hcz17_5 : wc.cell? ⟨gb317, 5, none⟩ = some (.int .i64 a0_5) := bc BK317 5
          have hcz17_6 : wc.cell? ⟨gb317, 6, none⟩ = some (.bool a0_6) := bc BK317 6
          have hfz17_0 := blk_frozen BK317.out 0
          have hfz17_1 := blk_frozen BK317.out 1
          have hfz17_2 := blk_frozen BK317.out 2
          have hfz17_3 := blk_frozen BK317.out 3
          have hfz17_4 := blk_frozen BK317.out 4
          have hfz17_5 := blk_frozen BK317.out 5
          have hfz17_6 := blk_frozen BK317.out 6
          go_wp2
          go_ret
          exact ⟨by first | rfl | (simp [errW_none, errW_some] <;> rfl) | (simp [*, errW_none, errW_some] <;> rfl), by repeat (first | (with_reducible first | exact HB.out | apply below_alloc | apply pw_below_drewN | apply below_drew1 | refine below_set ?_ GE317.out) | exact HB.out)⟩
        · rw [if_neg c16] at H
          have c16b0 : decide (a0_2 < 0) = false := decide_eq_false c16
          clear c16
          by_cases c18 : a0_2 > 1000000
          · rw [if_pos c18] at H
            have c18b0 : decide (1000000 < a0_2) = true := decide_eq_true c18
            clear c18
            obtain rfl := Option.some.inj H
            have hcz19_0 : wc.cell? ⟨gb317, 0, none⟩ = some (.int .i64 a0_0) := bc BK317 0
            have hcz19_1 : wc.cell? ⟨gb317, 1, none⟩ = some (.int .i64 a0_1) := bc BK317 1
            have hcz19_2 : wc.cell? ⟨gb317, 2, none⟩ = some (.int .i64 a0_2) := bc BK317 2
            have hcz19_3 : wc.cell? ⟨gb317, 3, none⟩ = some (.int .i64 a0_3) := bc BK317 3
            have hcz19_4 : wc.cell? ⟨gb317, 4, none⟩ = some (.int .i64 a0_4) := bc BK317 4
            have hcz19_5 : wc.cell? ⟨gb317, 5, none⟩ = some (.int .i64 a0_5) := bc BK317 5
            have hcz19_6 : wc.cell? ⟨gb317, 6, none⟩ = some (.bool a0_6) := bc BK317 6
            have hfz19_0 := blk_frozen BK317.out 0
            have hfz19_1 := blk_frozen BK317.out 1
            have hfz19_2 := blk_frozen BK317.out 2
            have hfz19_3 := blk_frozen BK317.out 3
            have hfz19_4 := blk_frozen BK317.out 4
            have hfz19_5 := blk_frozen BK317.out 5
            have hfz19_6 := blk_frozen BK317.out 6
            go_wp2
            go_ret
            exact ⟨by first | rfl | (simp [errW_none, errW_some] <;> rfl) | (simp [*, errW_none, errW_some] <;> rfl), by repeat (first | (with_reducible first | exact HB.out | apply below_alloc | apply pw_below_drewN | apply below_drew1 | refine below_set ?_ GE317.out) | exact HB.out)⟩
          · rw [if_neg c18] at H
            have c18b0 : decide (1000000 < a0_2) = false := decide_eq_false c18
            clear c18
            by_cases c20 : a0_3 < 0
            · rw [if_pos c20] at H
              have c20b0 : decide (a0_3 < 0) = true := decide_eq_true c20
              clear c20
              obtain rfl := Option.some.inj H
              have hcz21_0 : wc.cell? ⟨gb317, 0, none⟩ = some (.int .i64 a0_0) := bc BK317 0
              have hcz21_1 : wc.cell? ⟨gb317, 1, none⟩ = some (.int .i64 a0_1) := bc BK317 1
              have hcz21_2 : wc.cell? ⟨gb317, 2, none⟩ = some (.int .i64 a0_2) := bc BK317 2
              have hcz21_3 : wc.cell? ⟨gb317, 3, none⟩ = some (.int .i64 a0_3) := bc BK317 3
              have hcz21_4 : wc.cell? ⟨gb317, 4, none⟩ = some (.int .i64 a0_4) := bc BK317 4
              have hcz21_5 : wc.cell? ⟨gb317, 5, none⟩ = some (.int .i64 a0_5) := bc BK317 5
              have hcz21_6 : wc.cell? ⟨gb317, 6, none⟩ = some (.bool a0_6) := bc BK317 6
              have hfz21_0 := blk_frozen BK317.out 0
              have hfz21_1 := blk_frozen BK317.out 1
              have hfz21_2 := blk_frozen BK317.out 2
              have hfz21_3 := blk_frozen BK317.out 3
              have hfz21_4 := blk_frozen BK317.out 4
              have hfz21_5 := blk_frozen BK317.out 5
              have hfz21_6 := blk_frozen BK317.out 6
              go_wp2
              go_ret
              exact ⟨by first | rfl | (simp [errW_none, errW_some] <;> rfl) | (simp [*, errW_none, errW_some] <;> rfl), by repeat (first | (with_reducible first | exact HB.out | apply below_alloc | apply pw_below_drewN | apply below_drew1 | refine below_set ?_ GE317.out) | exact HB.out)⟩
            · rw [if_neg c20] at H
              have c20b0 : decide (a0_3 < 0) = false := decide_eq_false c20
              clear c20
              by_cases c22 : a0_3 > 1000000
              · rw [if_pos c22] at H
                have c22b0 : decide (1000000 < a0_3) = true := decide_eq_true c22
                clear c22
                obtain rfl := Option.some.inj H
                have hcz23_0 : wc.cell? ⟨gb317, 0, none⟩ = some (.int .i64 a0_0) := bc BK317 0
                have hcz23_1 : wc.cell? ⟨gb317, 1, none⟩ = some (.int .i64 a0_1) := bc BK317 1
                have hcz23_2 : wc.cell? ⟨gb317, 2, none⟩ = some (.int .i64 a0_2) := bc BK317 2
                have hcz23_3 : wc.cell? ⟨gb317, 3, none⟩ = some (.int .i64 a0_3) := bc BK317 3
                have hcz23_4 : wc.cell? ⟨gb317, 4, none⟩ = some (.int .i64 a0_4) := bc BK317 4
                have hcz23_5 : wc.cell? ⟨gb317, 5, none⟩ = some (.int .i64 a0_5) := bc BK317 5
                have hcz23_6 : wc.cell? ⟨gb317, 6, none⟩ = some (.bool a0_6) := bc BK317 6
                have hfz23_0 := blk_frozen BK317.out 0
                have hfz23_1 := blk_frozen BK317.out 1
                have hfz23_2 := blk_frozen BK317.out 2
                have hfz23_3 := blk_frozen BK317.out 3
                have hfz23_4 := blk_frozen BK317.out 4
                have hfz23_5 := blk_frozen BK317.out 5
                have hfz23_6 := blk_frozen BK317.out 6
                go_wp2
                go_ret
                exact ⟨by first | rfl | (simp [errW_none, errW_some] <;> rfl) | (simp [*, errW_none, errW_some] <;> rfl), by repeat (first | (with_reducible first | exact HB.out | apply below_alloc | apply pw_below_drewN | apply below_drew1 | refine below_set ?_ GE317.out) | exact HB.out)⟩
              · rw [if_neg c22] at H
                have c22b0 : decide (1000000 < a0_3) = false := decide_eq_false c22
                clear c22
                by_cases c24 : a0_6 = true
                · subst c24
                  have H1 : (some true) = some r := by rw [if_pos rfl] at H; exact H
                  clear H
                  have H := H1
                  clear H1
                  obtain rfl := Option.some.inj H
                  have hcz25_0 : wc.cell? ⟨gb317, 0, none⟩ = some (.int .i64 a0_0) := bc BK317 0
                  have hcz25_1 : wc.cell? ⟨gb317, 1, none⟩ = some (.int .i64 a0_1) := bc BK317 1
                  have hcz25_2 : wc.cell? ⟨gb317, 2, none⟩ = some (.int .i64 a0_2) := bc BK317 2
                  have hcz25_3 : wc.cell? ⟨gb317, 3, none⟩ = some (.int .i64 a0_3) := bc BK317 3
                  have hcz25_4 : wc.cell? ⟨gb317, 4, none⟩ = some (.int .i64 a0_4) := bc BK317 4
                  have hcz25_5 : wc.cell? ⟨gb317, 5, none⟩ = some (.int .i64 a0_5) := bc BK317 5
                  have hcz25_6 : wc.cell? ⟨gb317, 6, none⟩ = some (.bool true) := bc BK317 6
                  have hfz25_0 := blk_frozen BK317.out 0
                  have hfz25_1 := blk_frozen BK317.out 1
                  have hfz25_2 := blk_frozen BK317.out 2
                  have hfz25_3 := blk_frozen BK317.out 3
                  have hfz25_4 := blk_frozen BK317.out 4
                  have hfz25_5 := blk_frozen BK317.out 5
                  have hfz25_6 := blk_frozen BK317.out 6
                  go_wp2
                  go_ret
                  exact ⟨by first | rfl | (simp [errW_none, errW_some] <;> rfl) | (simp [*, errW_none, errW_some] <;> rfl), by repeat (first | (with_reducible first | exact HB.out | apply below_alloc | apply pw_below_drewN | apply below_drew1 | refine below_set ?_ GE317.out) | exact HB.out)⟩
                · replace c24 := Bool.eq_false_iff.mpr c24
                  subst c24
                  have H1 : ((wireloomref45_InRange.f a0_0 a0_1 a0_2 a0_3 a0_4 a0_5 false).bind fun t318 => (some t318)) = some r := by rw [if_neg (show ¬ (false = true) by decide)] at H; exact H
                  clear H
                  have H := H1
                  clear H1
                  replace H := Option.bind_eq_some_iff.mp H
                  obtain ⟨t318, A260, H⟩ := H
                  replace H : (some t318) = some r := H
                  have A26 := Aside0.mk A260
                  clear A260
                  obtain rfl := Option.some.inj H
                  have hcz27_0 : wc.cell? ⟨gb317, 0, none⟩ = some (.int .i64 a0_0) := bc BK317 0
                  have hcz27_1 : wc.cell? ⟨gb317, 1, none⟩ = some (.int .i64 a0_1) := bc BK317 1
                  have hcz27_2 : wc.cell? ⟨gb317, 2, none⟩ = some (.int .i64 a0_2) := bc BK317 2
                  have hcz27_3 : wc.cell? ⟨gb317, 3, none⟩ = some (.int .i64 a0_3) := bc BK317 3
                  have hcz27_4 : wc.cell? ⟨gb317, 4, none⟩ = some (.int .i64 a0_4) := bc BK317 4
                  have hcz27_5 : wc.cell? ⟨gb317, 5, none⟩ = some (.int .i64 a0_5) := bc BK317 5
                  have hcz27_6 : wc.cell? ⟨gb317, 6, none⟩ = some (.bool false) := bc BK317 6
                  have hfz27_0 := blk_frozen BK317.out 0
                  have hfz27_1 := blk_frozen BK317.out 1
                  have hfz27_2 := blk_frozen BK317.out 2
                  have hfz27_3 := blk_frozen BK317.out 3
                  have hfz27_4 := blk_frozen BK317.out 4
                  have hfz27_5 := blk_frozen BK317.out 5
                  have hfz27_6 := blk_frozen BK317.out 6
                  go_wp2_with (first | (go_at_call 29; (with_reducible refine (wireloomref45_InRange.calls a0_0 a0_1 a0_2 a0_3 a0_4 a0_5 false t318 _ A26.out).mono ?_); rintro e w28 ⟨rfl, hb⟩; have n0_ := bxb BK317 hb; have n1_ := Aside0.mk (below_step (bwt HB) hb); clear BK317; clear HB; have BK317 := n0_; have HB := n1_; clear n0_ n1_; (try clear hb); (try clear hb2); (try clear hk); (try clear hi)))
                  go_ret
                  exact ⟨by first | rfl | (simp [errW_none, errW_some] <;> rfl) | (simp [*, errW_none, errW_some] <;> rfl), by repeat (first | (with_reducible first | exact HB.out | apply below_alloc | apply pw_below_drewN | apply below_drew1 | refine below_set ?_ GE317.out) | exact HB.out)⟩

end Go.Proofs.Ytlofmgdjnaajjaa.Q

namespace Go.Proofs.Ytlofmgdjnaajjaa.Q
open Go.RowKit Go.Proofs.YtlofmgdjnaajjaaW.PrintWords Go.Proofs.YtlofmgdjnaajjaaW.PrintLast Go.Proofs.YtlofmgdjnaajjaaW.PrintMore
attribute [local go_sem] run_makeFunc_own max2_int min2_int max_two min_two max_three min_three max_four min_four   -- for this text's walks alone
set_option linter.unusedVariables false
set_option linter.unusedSimpArgs false

/-! ### wireloomref45_NewIn: function 14 -/
def wireloomref45_NewIn.f (k : Nat) (a0_0 : Int) (a0_1 : Int) (a0_2 : Int) (a0_3 : Int) (a0_4 : Int) (a0_5 : Int) (a0_6 : Bool) : Option (Int × Int × Int × Int × Int × Int × Bool × Int) := (wireloomref45_Valid.f k a0_0 a0_1 a0_2 a0_3 a0_4 a0_5 true).bind fun t321 => (if t321 = true then ((wireloomref45_InRange.f a0_0 a0_1 a0_2 a0_3 a0_4 a0_5 true).bind fun t322 => (some (a0_0, a0_1, a0_2, a0_3, a0_4, a0_5, !t322, 0))) else (some (0, 0, 0, 0, 0, 0, false, 1)))
theorem wireloomref45_NewIn.mono : ∀ a0 a1 a2 a3 a4 a5 a6 k, LeO (wireloomref45_NewIn.f k a0 a1 a2 a3 a4 a5 a6) (wireloomref45_NewIn.f (k + 1) a0 a1 a2 a3 a4 a5 a6) := by
  intro a0 a1 a2 a3 a4 a5 a6 k
  unfold wireloomref45_NewIn.f
  repeat' first
      | (with_reducible exact wireloomref45_Valid.mono _ _ _ _ _ _ _ _)
      | (with_reducible exact LeO.refl _)
      | (with_reducible exact LeO.none _)
      | (with_reducible refine LeO.ite ?_ ?_)
      | (with_reducible refine LeO.bind ?_ (fun _ => ?_))
      | exact wireloomref45_Valid.mono _ _ _ _ _ _ _ _
      | exact LeO.none _
      | refine LeO.ite ?_ ?_
      | refine LeO.bind ?_ (fun _ => ?_)
set_option maxHeartbeats 8000000 in
set_option maxRecDepth 100000 in
theorem wireloomref45_NewIn.calls (k : Nat) (a0_0 : Int) (a0_1 : Int) (a0_2 : Int) (a0_3 : Int) (a0_4 : Int) (a0_5 : Int) (a0_6 : Bool) (r1 : Int) (r2 : Int) (r3 : Int) (r4 : Int) (r5 : Int) (r6 : Int) (r7 : Bool) (r8 : Int) (w : World) (h : wireloomref45_NewIn.f k a0_0 a0_1 a0_2 a0_3 a0_4 a0_5 a0_6 = some (r1, r2, r3, r4, r5, r6, r7, r8)) :
    Calls Try.prog 14 #[.agg #[.int .i64 a0_0, .int .i64 a0_1, .int .i64 a0_2, .int .i64 a0_3, .int .i64 a0_4, .int .i64 a0_5, .bool a0_6]] w fun e w' => e = .returned (.agg #[.int .i64 r1, .int .i64 r2, .int .i64 r3, .int .i64 r4, .int .i64 r5, .int .i64 r6, .bool r7, .int .i64 r8]) ∧ Below w.heap.size w w' := by
  have hu28 := Try.underlying28
  have hu34 := Try.underlying34
  have HB := Aside0.mk (Below.refl w.heap.size w)
  have H : ((wireloomref45_Valid.f k a0_0 a0_1 a0_2 a0_3 a0_4 a0_5 true).bind fun t321 => (if t321 = true then ((wireloomref45_InRange.f a0_0 a0_1 a0_2 a0_3 a0_4 a0_5 true).bind fun t322 => (some (a0_0, a0_1, a0_2, a0_3, a0_4, a0_5, !t322, 0))) else (some (0, 0, 0, 0, 0, 0, false, 1)))) = some (r1, r2, r3, r4, r5, r6, r7, r8) := h
  clear h
  replace H := Option.bind_eq_some_iff.mp H
  obtain ⟨t321, A20, H⟩ := H
  replace H : (if t321 = true then ((wireloomref45_InRange.f a0_0 a0_1 a0_2 a0_3 a0_4 a0_5 true).bind fun t322 => (some (a0_0, a0_1, a0_2, a0_3, a0_4, a0_5, !t322, 0))) else (some (0, 0, 0, 0, 0, 0, false, 1))) = some (r1, r2, r3, r4, r5, r6, r7, r8) := H
  have A2 := Aside0.mk A20
  clear A20
  by_cases c3 : t321 = true
  · subst c3
    have H1 : ((wireloomref45_InRange.f a0_0 a0_1 a0_2 a0_3 a0_4 a0_5 true).bind fun t322 => (some (a0_0, a0_1, a0_2, a0_3, a0_4, a0_5, !t322, 0))) = some (r1, r2, r3, r4, r5, r6, r7, r8) := by rw [if_pos rfl] at H; exact H
    clear H
    have H := H1
    clear H1
    replace H := Option.bind_eq_some_iff.mp H
    obtain ⟨t322, A40, H⟩ := H
    replace H : (some (a0_0, a0_1, a0_2, a0_3, a0_4, a0_5, !t322, 0)) = some (r1, r2, r3, r4, r5, r6, r7, r8) := H
    have A4 := Aside0.mk A40
    clear A40
    simp only [Option.some.injEq, Prod.mk.injEq] at H
    obtain ⟨rfl, rfl, rfl, rfl, rfl, rfl, rfl, rfl⟩ := H
    go_enter Try.func14, Try.ntmps14
    go_wp2_with (first | ((with_reducible refine gate_dst (N := 1) rfl ?_); refine box_event ?hg (N := 1) ?hd (cs := #[.int .i64 a0_0, .int .i64 a0_1, .int .i64 a0_2, .int .i64 a0_3, .int .i64 a0_4, .int .i64 a0_5, .bool a0_6]) (t := 28) ?hr ?_; (case hd => rfl); (case hg => rfl); (case hr => first | (go_simp; done) | (go_simp; rfl)); intro gb319 hg w5 hbox hb; have n0_ := Aside0.mk (below_step (by repeat (first | (with_reducible first | exact HB.out | apply below_alloc | apply pw_below_drewN | apply below_drew1) | exact HB.out)) hb); have n1_ := Aside0.mk (hbox); have n2_ := Aside0.mk ((by rw [hg]; exact (below_size (by repeat (first | (with_reducible first | exact HB.out | apply below_alloc | apply pw_below_drewN | apply below_drew1) | exact HB.out))) : w.heap.size ≤ gb319)); have n3_ := Aside0.mk ((by rw [hg]; exact (below_size (by repeat (first | (with_reducible first | exact HB.out | apply below_alloc | apply pw_below_drewN | apply below_drew1) | exact HB.out))) : w.heap.size ≤ gb319)); clear HB; have HB := n0_; have BK319 := n1_; have GW319 := n2_; have GE319 := n3_; clear n0_ n1_ n2_ n3_; clear hb hbox hg) | ((with_reducible refine gate_dst (N := 2) rfl ?_); refine box_event ?hg (N := 2) ?hd (cs := #[.int .i64 0, .int .i64 0, .int .i64 0, .int .i64 0, .int .i64 0, .int .i64 0, .bool false, .int .i64 0]) (t := 34) ?hr ?_; (case hd => rfl); (case hg => rfl); (case hr => first | (go_simp; done) | (go_simp; rfl)); intro gb320 hg w6 hbox hb; have n0_ := bxb BK319 hb; have n1_ := Aside0.mk (below_step (bwt HB) hb); have n2_ := Aside0.mk (hbox); have n3_ := Aside0.mk ((by rw [hg]; exact (below_size (bwt HB)) : w.heap.size ≤ gb320)); have n4_ := Aside0.mk ((by rw [hg]; exact (below_size (bwt HB)) : w.heap.size ≤ gb320)); have n5_ := nlt_ BK319 hg; have n6_ := ngt_ BK319 hg; clear BK319; clear HB; have BK319 := n0_; have HB := n1_; have BK320 := n2_; have GW320 := n3_; have GE320 := n4_; have NB319_320 := n5_; have NB320_319 := n6_; clear n0_ n1_ n2_ n3_ n4_ n5_ n6_; clear hb hbox hg; have hnb7 := NB319_320.out; have hnc7 := NB320_319.out; have hcz8_0 : w6.cell? ⟨gb319, 0, none⟩ = some (.int .i64 a0_0) := bc BK319 0; have hcz8_1 : w6.cell? ⟨gb319, 1, none⟩ = some (.int .i64 a0_1) := bc BK319 1; have hcz8_2 : w6.cell? ⟨gb319, 2, none⟩ = some (.int .i64 a0_2) := bc BK319 2; have hcz8_3 : w6.cell? ⟨gb319, 3, none⟩ = some (.int .i64 a0_3) := bc BK319 3; have hcz8_4 : w6.cell? ⟨gb319, 4, none⟩ = some (.int .i64 a0_4) := bc BK319 4; have hcz8_5 : w6.cell? ⟨gb319, 5, none⟩ = some (.int .i64 a0_5) := bc BK319 5; have hcz8_6 : w6.cell? ⟨gb319, 6, none⟩ = some (.bool a0_6) := bc BK319 6; have hfz8_0 := blk_frozen BK319.out 0; have hfz8_1 := blk_frozen BK319.out 1; have hfz8_2 := blk_frozen BK319.out 2; have hfz8_3 := blk_frozen BK319.out 3; have hfz8_4 := blk_frozen BK319.out 4; have hfz8_5 := blk_frozen BK319.out 5; have hfz8_6 := blk_frozen BK319.out 6) | ((with_reducible refine gate_callee (f := 12) rfl ?_); refine goesL_ (some 5) rfl rfl Try.func12 (by kernel_rfl) rfl #[.agg #[.int .i64 a0_0, .int .i64 a0_1, .int .i64 a0_2, .int .i64 a0_3, .int .i64 a0_4, .int .i64 a0_5, .bool true]] rfl (by (try simp only [List.map_toArray, List.map_cons, List.map_nil]); first | done | rfl | (simp only [List.length_drop, List.length_take]; rfl)) ?_; (with_reducible refine (wireloomref45_Valid.calls k a0_0 a0_1 a0_2 a0_3 a0_4 a0_5 true true _ A2.out).mono ?_); rintro e w9 ⟨rfl, hb⟩; refine ⟨_, rfl, ?_⟩; have n0_ := Aside0.mk (blk_below (g := gb319) (o := .cells #[.int .i64 a0_0, .int .i64 a0_1, .int .i64 a0_2, .int .i64 a0_3, .int .i64 a0_4, .int .i64 a0_5, .bool true] 28 (0, 0)) (by (with_reducible repeat refine bp_ ?_); refine blk_put (cs := #[.int .i64 a0_0, .int .i64 a0_1, .int .i64 a0_2, .int .i64 a0_3, .int .i64 a0_4, .int .i64 a0_5, .bool a0_6]) ?_ 6 _ rfl; (with_reducible repeat refine bp_ ?_); exact BK319.out) hb); have n1_ := Aside0.mk (blk_below (g := gb320) (o := .cells #[.int .i64 0, .int .i64 0, .int .i64 0, .int .i64 0, .int .i64 0, .int .i64 0, .bool false, .int .i64 0] 34 (0, 0)) (by (with_reducible repeat refine bp_ ?_); refine blk_far ?_ NB320_319.out _; (with_reducible repeat refine bp_ ?_); exact BK320.out) hb); have n2_ := Aside0.mk (below_step (by repeat (first | (with_reducible first | exact HB.out | apply below_alloc | apply pw_below_drewN | apply below_drew1 | refine below_set ?_ GE319.out | refine below_set ?_ GE320.out) | exact HB.out)) hb); clear BK319; clear BK320; clear HB; have BK319 := n0_; have BK320 := n1_; have HB := n2_; clear n0_ n1_ n2_; (try clear hb); (try clear hb2); (try clear hk); (try clear hi); have hcz10_0 : w9.cell? ⟨gb319, 0, none⟩ = some (.int .i64 a0_0) := bc BK319 0; have hcz10_1 : w9.cell? ⟨gb319, 1, none⟩ = some (.int .i64 a0_1) := bc BK319 1; have hcz10_2 : w9.cell? ⟨gb319, 2, none⟩ = some (.int .i64 a0_2) := bc BK319 2; have hcz10_3 : w9.cell? ⟨gb319, 3, none⟩ = some (.int .i64 a0_3) := bc BK319 3; have hcz10_4 : w9.cell? ⟨gb319, 4, none⟩ = some (.int .i64 a0_4) := bc BK319 4; have hcz10_5 : w9.cell? ⟨gb319, 5, none⟩ = some (.int .i64 a0_5) := bc BK319 5; have hcz10_6 : w9.cell? ⟨gb319, 6, none⟩ = some (.bool true) := bc BK319 6; have hfz10_0 := blk_frozen BK319.out 0; have hfz10_1 := blk_frozen BK319.out 1; have hfz10_2 := blk_frozen BK319.out 2; have hfz10_3 := blk_frozen BK319.out 3; have hfz10_4 := blk_frozen BK319.out 4; have hfz10_5 := blk_frozen BK319.out 5; have hfz10_6 := blk_frozen BK319.out 6) | ((with_reducible refine gate_callee (f := 29) rfl ?_); refine goesL_ (some 9) rfl rfl Try.func29 (by kernel_rfl) rfl #[.agg #[.int .i64 a0_0, .int .i64 a0_1, .int .i64 a0_2, .int .i64 a0_3, .int .i64 a0_4, .int .i64 a0_5, .bool true]] rfl (by (try simp only [List.map_toArray, List.map_cons, List.map_nil]); first | done | rfl | (simp only [List.length_drop, List.length_take]; rfl)) ?_; (with_reducible refine (wireloomref45_InRange.calls a0_0 a0_1 a0_2 a0_3 a0_4 a0_5 true t322 _ A4.out).mono ?_); rintro e w11 ⟨rfl, hb⟩; refine ⟨_, rfl, ?_⟩; have n0_ := bxb BK319 hb; have n1_ := bxb BK320 hb; have n2_ := Aside0.mk (below_step (bwt HB) hb); clear BK319; clear BK320; clear HB; have BK319 := n0_; have BK320 := n1_; have HB := n2_; clear n0_ n1_ n2_; (try clear hb); (try clear hb2); (try clear hk); (try clear hi); have hcz12_0 : w11.cell? ⟨gb319, 0, none⟩ = some (.int .i64 a0_0) := bc BK319 0; have hcz12_1 : w11.cell? ⟨gb319, 1, none⟩ = some (.int .i64 a0_1) := bc BK319 1; have hcz12_2 : w11.cell? ⟨gb319, 2, none⟩ = some (.int .i64 a0_2) := bc BK319 2; have hcz12_3 : w11.cell? ⟨gb319, 3, none⟩ = some (.int .i64 a0_3) := bc BK319 3; have hcz12_4 : w11.cell? ⟨gb319, 4, none⟩ = some (.int .i64 a0_4) := bc BK319 4; have hcz12_5 : w11.cell? ⟨gb319, 5, none⟩ = some (.int .i64 a0_5) := bc BK319 5; have hcz12_6 : w11.cell? ⟨gb319, 6, none⟩ = some (.bool true) := bc BK319 6; have hfz12_0 := blk_frozen BK319.out 0; have hfz12_1 := blk_frozen BK319.out 1; have hfz12_2 := blk_frozen BK319.out 2; have hfz12_3 := blk_frozen BK319.out 3; have hfz12_4 := blk_frozen BK319.out 4; have hfz12_5 := blk_frozen BK319.out 5; have hfz12_6 := blk_frozen BK319.out 6; have hcz13_0 : w11.cell? ⟨gb320, 0, none⟩ = some (.int .i64 0) := bc BK320 0; have hcz13_1 : w11.cell? ⟨gb320, 1, none⟩ = some (.int .i64 0) := bc BK320 1; have hcz13_2 : w11.cell? ⟨gb320, 2, none⟩ = some (.int .i64 0) := bc BK320 2; have hcz13_3 : w11.cell? ⟨gb320, 3, none⟩ = some (.int .i64 0) := bc BK320 3; have hcz13_4 : w11.cell? ⟨gb320, 4, none⟩ = some (.int .i64 0) := bc BK320 4; have hcz13_5 : w11.cell? ⟨gb320, 5, none⟩ = some (.int .i64 0) := bc BK320 5; have hcz13_6 : w11.cell? ⟨gb320, 6, none⟩ = some (.bool false) := bc BK320 6; have hcz13_7 : w11.cell? ⟨gb320, 7, none⟩ = some (.int .i64 0) := bc BK320 7; have hfz13_0 := blk_frozen BK320.out 0; have hfz13_1 := blk_frozen BK320.out 1; have hfz13_2 := blk_frozen BK320.out 2; have hfz13_3 := blk_frozen BK320.out 3; have hfz13_4 := blk_frozen BK320.out 4; have hfz13_5 := blk_frozen BK320.out 5; have hfz13_6 := blk_frozen BK320.out 6; have hfz13_7 := blk_frozen BK320.out 7))
    refine bodyPost_ret (results_cell_row rfl _ _ gb320 34 #[.int .i64 a0_0, .int .i64 a0_1, .int .i64 a0_2, .int .i64 a0_3, .int .i64 a0_4, .int .i64 a0_5, .bool (!t322), .int .i64 0] (0, 0) _ rfl (by (with_reducible repeat refine bp_ ?_); refine blk_put (cs := #[.int .i64 a0_0, .int .i64 a0_1, .int .i64 a0_2, .int .i64 a0_3, .int .i64 a0_4, .int .i64 a0_5, .bool (!t322), .int .i64 0]) ?_ 7 _ rfl; (with_reducible repeat refine bp_ ?_); refine blk_put (cs := #[.int .i64 a0_0, .int .i64 a0_1, .int .i64 a0_2, .int .i64 a0_3, .int .i64 a0_4, .int .i64 a0_5, .bool false, .int .i64 0]) ?_ 6 _ rfl; (with_reducible repeat refine bp_ ?_); refine blk_put (cs := #[.int .i64 a0_0, .int .i64 a0_1, .int .i64 a0_2, .int .i64 a0_3, .int .i64 a0_4, .int .i64 0, .bool false, .int .i64 0]) ?_ 5 _ rfl; (with_reducible repeat refine bp_ ?_); refine blk_put (cs := #[.int .i64 a0_0, .int .i64 a0_1, .int .i64 a0_2, .int .i64 a0_3, .int .i64 0, .int .i64 0, .bool false, .int .i64 0]) ?_ 4 _ rfl; (with_reducible repeat refine bp_ ?_); refine blk_put (cs := #[.int .i64 a0_0, .int .i64 a0_1, .int .i64 a0_2, .int .i64 0, .int .i64 0, .int .i64 0, .bool false, .int .i64 0]) ?_ 3 _ rfl; (with_reducible repeat refine bp_ ?_); refine blk_put (cs := #[.int .i64 a0_0, .int .i64 a0_1, .int .i64 0, .int .i64 0, .int .i64 0, .int .i64 0, .bool false, .int .i64 0]) ?_ 2 _ rfl; (with_reducible repeat refine bp_ ?_); refine blk_put (cs := #[.int .i64 a0_0, .int .i64 0, .int .i64 0, .int .i64 0, .int .i64 0, .int .i64 0, .bool false, .int .i64 0]) ?_ 1 _ rfl; (with_reducible repeat refine bp_ ?_); refine blk_put (cs := #[.int .i64 0, .int .i64 0, .int .i64 0, .int .i64 0, .int .i64 0, .int .i64 0, .bool false, .int .i64 0]) ?_ 0 _ rfl; (with_reducible repeat refine bp_ ?_); refine blk_far ?_ NB320_319.out _; (with_reducible repeat refine bp_ ?_); exact BK320.out) Try.underlying34 rfl (by kernel_rfl)) rfl ?_
    exact ⟨by first | rfl | (simp [errW_none, errW_some] <;> rfl) | (simp [*, errW_none, errW_some] <;> rfl), by repeat (first | (with_reducible first | exact HB.out | apply below_alloc | apply pw_below_drewN | apply below_drew1 | refine below_set ?_ GE319.out | refine below_set ?_ GE320.out) | exact HB.out)⟩
  · replace c3 := Bool.eq_false_iff.mpr c3
    subst c3
    have H1 : (some (0, 0, 0, 0, 0, 0, false, 1)) = some (r1, r2, r3, r4, r5, r6, r7, r8) := by rw [if_neg (show ¬ (false = true) by decide)] at H; exact H
    clear H
    have H := H1
    clear H1
    simp only [Option.some.injEq, Prod.mk.injEq] at H
    obtain ⟨rfl, rfl, rfl, rfl, rfl, rfl, rfl, rfl⟩ := H
    go_enter Try.func14, Try.ntmps14
    go_wp2_with (first | ((with_reducible refine gate_dst (N := 1) rfl ?_); refine box_event ?hg (N := 1) ?hd (cs := #[.int .i64 a0_0, .int .i64 a0_1, .int .i64 a0_2, .int .i64 a0_3, .int .i64 a0_4, .int .i64 a0_5, .bool a0_6]) (t := 28) ?hr ?_; (case hd => rfl); (case hg => rfl); (case hr => first | (go_simp; done) | (go_simp; rfl)); intro gb319 hg w14 hbox hb; have n0_ := Aside0.mk (below_step (by repeat (first | (with_reducible first | exact HB.out | apply below_alloc | apply pw_below_drewN | apply below_drew1) | exact HB.out)) hb); have n1_ := Aside0.mk (hbox); have n2_ := Aside0.mk ((by rw [hg]; exact (below_size (by repeat (first | (with_reducible first | exact HB.out | apply below_alloc | apply pw_below_drewN | apply below_drew1) | exact HB.out))) : w.heap.size ≤ gb319)); have n3_ := Aside0.mk ((by rw [hg]; exact (below_size (by repeat (first | (with_reducible first | exact HB.out | apply below_alloc | apply pw_below_drewN | apply below_drew1) | exact HB.out))) : w.heap.size ≤ gb319)); clear HB; have HB := n0_; have BK319 := n1_; have GW319 := n2_; have GE319 := n3_; clear n0_ n1_ n2_ n3_; clear hb hbox hg) | ((with_reducible refine gate_dst (N := 2) rfl ?_); refine box_event ?hg (N := 2) ?hd (cs := #[.int .i64 0, .int .i64 0, .int .i64 0, .int .i64 0, .int .i64 0, .int .i64 0, .bool false, .int .i64 0]) (t := 34) ?hr ?_; (case hd => rfl); (case hg => rfl); (case hr => first | (go_simp; done) | (go_simp; rfl)); intro gb320 hg w15 hbox hb; have n0_ := bxb BK319 hb; have n1_ := Aside0.mk (below_step (bwt HB) hb); have n2_ := Aside0.mk (hbox); have n3_ := Aside0.mk ((by rw [hg]; exact (below_size (bwt HB)) : w.heap.size ≤ gb320)); have n4_ := Aside0.mk ((by rw [hg]; exact (below_size (bwt HB)) : w.heap.size ≤ gb320)); have n5_ := nlt_ BK319 hg; have n6_ := ngt_ BK319 hg; clear BK319; clear HB; have BK319 := n0_; have HB := n1_; have BK320 := n2_; have GW320 := n3_; have GE320 := n4_; have NB319_320 := n5_; have NB320_319 := n6_; clear n0_ n1_ n2_ n3_ n4_ n5_ n6_; clear hb hbox hg; have hnb16 := NB319_320.out; have hnc16 := NB320_319.out; have hcz17_0 : w15.cell? ⟨gb319, 0, none⟩ = some (.int .i64 a0_0) := bc BK319 0; have hcz17_1 : w15.cell? ⟨gb319, 1, none⟩ = some (.int .i64 a0_1) := bc BK319 1; have hcz17_2 : w15.cell? ⟨gb319, 2, none⟩ = some (.int .i64 a0_2) := bc BK319 2; have hcz17_3 : w15.cell? ⟨gb319, 3, none⟩ = some (.int .i64 a0_3) := bc BK319 3; have hcz17_4 : w15.cell? ⟨gb319, 4, none⟩ = some (.int .i64 a0_4) := bc BK319 4; have hcz17_5 : w15.cell? ⟨gb319, 5, none⟩ = some (.int .i64 a0_5) := bc BK319 5; have hcz17_6 : w15.cell? ⟨gb319, 6, none⟩ = some (.bool a0_6) := bc BK319 6; have hfz17_0 := blk_frozen BK319.out 0; have hfz17_1 := blk_frozen BK319.out 1; have hfz17_2 := blk_frozen BK319.out 2; have hfz17_3 := blk_frozen BK319.out 3; have hfz17_4 := blk_frozen BK319.out 4; have hfz17_5 := blk_frozen BK319.out 5; have hfz17_6 := blk_frozen BK319.out 6) | ((with_reducible refine gate_callee (f := 12) rfl ?_); refine goesL_ (some 5) rfl rfl Try.func12 (by kernel_rfl) rfl #[.agg #[.int .i64 a0_0, .int .i64 a0_1, .int .i64 a0_2, .int .i64 a0_3, .int .i64 a0_4, .int .i64 a0_5, .bool true]] rfl (by (try simp only [List.map_toArray, List.map_cons, List.map_nil]); first | done | rfl | (simp only [List.length_drop, List.length_take]; rfl)) ?_; (with_reducible refine (wireloomref45_Valid.calls k a0_0 a0_1 a0_2 a0_3 a0_4 a0_5 true false _ A2.out).mono ?_); rintro e w18 ⟨rfl, hb⟩; refine ⟨_, rfl, ?_⟩; have n0_ := Aside0.mk (blk_below (g := gb319) (o := .cells #[.int .i64 a0_0, .int .i64 a0_1, .int .i64 a0_2, .int .i64 a0_3, .int .i64 a0_4, .int .i64 a0_5, .bool true] 28 (0, 0)) (by (with_reducible repeat refine bp_ ?_); refine blk_put (cs := #[.int .i64 a0_0, .int .i64 a0_1, .int .i64 a0_2, .int .i64 a0_3, .int .i64 a0_4, .int .i64 a0_5, .bool a0_6]) ?_ 6 _ rfl; (with_reducible repeat refine bp_ ?_); exact BK319.out) hb); have n1_ := Aside0.mk (blk_below (g := gb320) (o := .cells #[.int .i64 0, .int .i64 0, .int .i64 0, .int .i64 0, .int .i64 0, .int .i64 0, .bool false, .int .i64 0] 34 (0, 0)) (by (with_reducible repeat refine bp_ ?_); refine blk_far ?_ NB320_319.out _; (with_reducible repeat refine bp_ ?_); exact BK320.out) hb); have n2_ := Aside0.mk (below_step (by repeat (first | (with_reducible first | exact HB.out | apply below_alloc | apply pw_below_drewN | apply below_drew1 | refine below_set ?_ GE319.out | refine below_set ?_ GE320.out) | exact HB.out)) hb); clear BK319; clear BK320; clear HB; have BK319 := n0_; have BK320 := n1_; have HB := n2_; clear n0_ n1_ n2_; (try clear hb); (try clear hb2); (try clear hk); (try clear hi); have hcz19_0 : w18.cell? ⟨gb320, 0, none⟩ = some (.int .i64 0) := bc BK320 0; have hcz19_1 : w18.cell? ⟨gb320, 1, none⟩ = some (.int .i64 0) := bc BK320 1; have hcz19_2 : w18.cell? ⟨gb320, 2, none⟩ = some (.int .i64 0) := bc BK320 2; have hcz19_3 : w18.cell? ⟨gb320, 3, none⟩ = some (.int .i64 0) := bc BK320 3; have hcz19_4 : w18.cell? ⟨gb320, 4, none⟩ = some (.int .i64 0) := bc BK320 4; have hcz19_5 : w18.cell? ⟨gb320, 5, none⟩ = some (.int .i64 0) := bc BK320 5; have hcz19_6 : w18.cell? ⟨gb320, 6, none⟩ = some (.bool false) := bc BK320 6; have hcz19_7 : w18.cell? ⟨gb320, 7, none⟩ = some (.int .i64 0) := bc BK320 7; have hfz19_0 := blk_frozen BK320.out 0; have hfz19_1 := blk_frozen BK320.out 1; have hfz19_2 := blk_frozen BK320.out 2; have hfz19_3 := blk_frozen BK320.out 3; have hfz19_4 := blk_frozen BK320.out 4; have hfz19_5 := blk_frozen BK320.out 5; have hfz19_6 := blk_frozen BK320.out 6; have hfz19_7 := blk_frozen BK320.out 7))
    refine bodyPost_ret (results_cell_row rfl _ _ gb320 34 #[.int .i64 0, .int .i64 0, .int .i64 0, .int .i64 0, .int .i64 0, .int .i64 0, .bool false, .int .i64 1] (0, 0) _ rfl (by (with_reducible repeat refine bp_ ?_); refine blk_put (cs := #[.int .i64 0, .int .i64 0, .int .i64 0, .int .i64 0, .int .i64 0, .int .i64 0, .bool false, .int .i64 0]) ?_ 7 _ rfl; (with_reducible repeat refine bp_ ?_); refine blk_put (cs := #[.int .i64 0, .int .i64 0, .int .i64 0, .int .i64 0, .int .i64 0, .int .i64 0, .bool false, .int .i64 0]) ?_ 6 _ rfl; (with_reducible repeat refine bp_ ?_); refine blk_put (cs := #[.int .i64 0, .int .i64 0, .int .i64 0, .int .i64 0, .int .i64 0, .int .i64 0, .bool false, .int .i64 0]) ?_ 5 _ rfl; (with_reducible repeat refine bp_ ?_); refine blk_put (cs := #[.int .i64 0, .int .i64 0, .int .i64 0, .int .i64 0, .int .i64 0, .int .i64 0, .bool false, .int .i64 0]) ?_ 4 _ rfl; (with_reducible repeat refine bp_ ?_); refine blk_put (cs := #[.int .i64 0, .int .i64 0, .int .i64 0, .int .i64 0, .int .i64 0, .int .i64 0, .bool false, .int .i64 0]) ?_ 3 _ rfl; (with_reducible repeat refine bp_ ?_); refine blk_put (cs := #[.int .i64 0, .int .i64 0, .int .i64 0, .int .i64 0, .int .i64 0, .int .i64 0, .bool false, .int .i64 0]) ?_ 2 _ rfl; (with_reducible repeat refine bp_ ?_); refine blk_put (cs := #[.int .i64 0, .int .i64 0, .int .i64 0, .int .i64 0, .int .i64 0, .int .i64 0, .bool false, .int .i64 0]) ?_ 1 _ rfl; (with_reducible repeat refine bp_ ?_); refine blk_put (cs := #[.int .i64 0, .int .i64 0, .int .i64 0, .int .i64 0, .int .i64 0, .int .i64 0, .bool false, .int .i64 0]) ?_ 0 _ rfl; (with_reducible repeat refine bp_ ?_); exact BK320.out) Try.underlying34 rfl (by kernel_rfl)) rfl ?_
    exact ⟨by first | rfl | (simp [errW_none, errW_some] <;> rfl) | (simp [*, errW_none, errW_some] <;> rfl), by repeat (first | (with_reducible first | exact HB.out | apply below_alloc | apply pw_below_drewN | apply below_drew1 | refine below_set ?_ GE319.out | refine below_set ?_ GE320.out) | exact HB.out)⟩

end Go.Proofs.Ytlofmgdjnaajjaa.Q

namespace Go.Proofs.Ytlofmgdjnaajjaa.Q
open Go.RowKit Go.Proofs.YtlofmgdjnaajjaaW.PrintWords Go.Proofs.YtlofmgdjnaajjaaW.PrintLast Go.Proofs.YtlofmgdjnaajjaaW.PrintMore
attribute [local go_sem] run_makeFunc_own max2_int min2_int max_two min_two max_three min_three max_four min_four   -- for this text's walks alone
set_option linter.unusedVariables false
set_option linter.unusedSimpArgs false

/-! ### wireloomref45_Made: function 10 -/
def wireloomref45_Made.f (k : Nat) (a0_0 : Int) (a0_1 : Int) (a0_2 : Int) (a0_3 : Int) (l0_4 : List Int) (a0_5 : Int) (a0_6 : Int) : Option (Int × Int × Int × Int × Int × Int × Bool) := (wireloomref44_Made.f k a0_0 a0_1 a0_2 a0_3 l0_4).bind fun bt339 => ((wireloomref45_NewIn.f k bt339.1 bt339.2.1 bt339.2.2.1 bt339.2.2.2.1 (mx 1 (wrap64 (bt339.1 - (wrap64 (Int.tmod a0_5 30))))) (wrap64 (bt339.2.1 + (wrap64 (Int.tmod a0_6 30)))) false).bind fun bt350 => (some (bt350.1, bt350.2.1, bt350.2.2.1, bt350.2.2.2.1, bt350.2.2.2.2.1, bt350.2.2.2.2.2.1, bt350.2.2.2.2.2.2.1)))
theorem wireloomref45_Made.mono : ∀ a0 a1 a2 a3 a4 a5 a6 k, LeO (wireloomref45_Made.f k a0 a1 a2 a3 a4 a5 a6) (wireloomref45_Made.f (k + 1) a0 a1 a2 a3 a4 a5 a6) := by
  intro a0 a1 a2 a3 a4 a5 a6 k
  unfold wireloomref45_Made.f
  repeat' first
      | (with_reducible exact wireloomref44_Made.mono _ _ _ _ _ _)
      | (with_reducible exact wireloomref45_NewIn.mono _ _ _ _ _ _ _ _)
      | (with_reducible exact LeO.refl _)
      | (with_reducible exact LeO.none _)
      | (with_reducible refine LeO.ite ?_ ?_)
      | (with_reducible refine LeO.bind ?_ (fun _ => ?_))
      | exact wireloomref44_Made.mono _ _ _ _ _ _
      | exact wireloomref45_NewIn.mono _ _ _ _ _ _ _ _
      | exact LeO.none _
      | refine LeO.ite ?_ ?_
      | refine LeO.bind ?_ (fun _ => ?_)
set_option maxHeartbeats 8000000 in
set_option maxRecDepth 100000 in
theorem wireloomref45_Made.calls (k : Nat) (a0_0 : Int) (a0_1 : Int) (a0_2 : Int) (a0_3 : Int) (A0_4 : Option Addr) (c0_4 : Nat) (l0_4 : List Int) (a0_5 : Int) (a0_6 : Int) (r1 : Int) (r2 : Int) (r3 : Int) (r4 : Int) (r5 : Int) (r6 : Int) (r7 : Bool) (w : World) (hr0_4 : Kd.C (Kd.int .u8) w A0_4 l0_4.length l0_4) (hc0_4 : l0_4.length ≤ c0_4) (h : wireloomref45_Made.f k a0_0 a0_1 a0_2 a0_3 l0_4 a0_5 a0_6 = some (r1, r2, r3, r4, r5, r6, r7)) :
    Calls Try.prog 10 #[.agg #[.int .u8 a0_0, .int .u8 a0_1, .int .u8 a0_2, .int .u8 a0_3, .slice A0_4 l0_4.length c0_4, .int .u8 a0_5, .int .u8 a0_6]] w fun e w' => e = .returned (.agg #[.int .i64 r1, .int .i64 r2, .int .i64 r3, .int .i64 r4, .int .i64 r5, .int .i64 r6, .bool r7]) ∧ Below w.heap.size w w' := by
  have hu26 := Try.underlying26
  have hu28 := Try.underlying28
  have hu24 := Try.underlying24
  have hu49 := Try.underlying49
  have hu46 := Try.underlying46
  have hu34 := Try.underlying34
  have hfd49_0 : ∀ (x0_ x1_ x2_ x3_ x4_ x5_ : Value) (W_ : World), (Instr.field 49 (.agg #[x0_, x1_, x2_, x3_, x4_, x5_]) 0).run Try.prog W_ = .ok (.agg #[x0_, x1_, x2_, x3_]) W_ := fun _ _ _ _ _ _ _ => by kernel_rfl
  have hfd34_0 : ∀ (x0_ x1_ x2_ x3_ x4_ x5_ x6_ x7_ : Value) (W_ : World), (Instr.field 34 (.agg #[x0_, x1_, x2_, x3_, x4_, x5_, x6_, x7_]) 0).run Try.prog W_ = .ok (.agg #[x0_, x1_, x2_, x3_, x4_, x5_, x6_]) W_ := fun _ _ _ _ _ _ _ _ _ => by kernel_rfl
  have HR0_4 := Aside0.mk hr0_4
  have HC0_4 := Aside0.mk hc0_4
  clear hr0_4 hc0_4
  have HB := Aside0.mk (Below.refl w.heap.size w)
  have H : ((wireloomref44_Made.f k a0_0 a0_1 a0_2 a0_3 l0_4).bind fun bt339 => ((wireloomref45_NewIn.f k bt339.1 bt339.2.1 bt339.2.2.1 bt339.2.2.2.1 (mx 1 (wrap64 (bt339.1 - (wrap64 (Int.tmod a0_5 30))))) (wrap64 (bt339.2.1 + (wrap64 (Int.tmod a0_6 30)))) false).bind fun bt350 => (some (bt350.1, bt350.2.1, bt350.2.2.1, bt350.2.2.2.1, bt350.2.2.2.2.1, bt350.2.2.2.2.2.1, bt350.2.2.2.2.2.2.1)))) = some (r1, r2, r3, r4, r5, r6, r7) := h
  clear h
  replace H := Option.bind_eq_some_iff.mp H
  obtain ⟨⟨t339, t340, t341, t342, t343, t346⟩, A20, H⟩ := H
  replace H : ((wireloomref45_NewIn.f k t339 t340 t341 t342 (mx 1 (wrap64 (t339 - (wrap64 (Int.tmod a0_5 30))))) (wrap64 (t340 + (wrap64 (Int.tmod a0_6 30)))) false).bind fun bt350 => (some (bt350.1, bt350.2.1, bt350.2.2.1, bt350.2.2.2.1, bt350.2.2.2.2.1, bt350.2.2.2.2.2.1, bt350.2.2.2.2.2.2.1))) = some (r1, r2, r3, r4, r5, r6, r7) := H
  have A2 := Aside0.mk A20
  clear A20
  obtain ⟨ji3, hji3⟩ : ∃ j_ : Int, (mx 1 (wrap64 (t339 - (wrap64 (Int.tmod a0_5 30))))) = j_ := ⟨_, rfl⟩
  replace H : ((wireloomref45_NewIn.f k t339 t340 t341 t342 (ji3) (wrap64 (t340 + (wrap64 (Int.tmod a0_6 30)))) false).bind fun bt350 => (some (bt350.1, bt350.2.1, bt350.2.2.1, bt350.2.2.2.1, bt350.2.2.2.2.1, bt350.2.2.2.2.2.1, bt350.2.2.2.2.2.2.1))) = some (r1, r2, r3, r4, r5, r6, r7) := by first | (rw [hji3] at H; exact H) | (simp only [hji3] at H ⊢; exact H)
  (try rw [hji3] at A2)
  (try (have hji3l : 1 ≤ ji3 := by (rw [← hji3]; unfold mx; (repeat' split) <;> omega)))
  (try (have hji3m : 0 ≤ ji3 := by omega))
  have hji3_ : (if 1 < (wrap64 (t339 - (wrap64 (Int.tmod a0_5 30)))) then (wrap64 (t339 - (wrap64 (Int.tmod a0_5 30)))) else 1) = ji3 := hji3
  replace H := Option.bind_eq_some_iff.mp H
  obtain ⟨⟨t350, t351, t352, t353, t354, t355, t356, t357⟩, A40, H⟩ := H
  replace H : (some (t350, t351, t352, t353, t354, t355, t356)) = some (r1, r2, r3, r4, r5, r6, r7) := H
  have A4 := Aside0.mk A40
  clear A40
  simp only [Option.some.injEq, Prod.mk.injEq] at H
  obtain ⟨rfl, rfl, rfl, rfl, rfl, rfl, rfl⟩ := H
  go_enter Try.func10, Try.ntmps10
  go_wp2_with (first | ((with_reducible refine gate_dst (N := 1) rfl ?_); refine box_event ?hg (N := 1) ?hd (cs := #[.int .u8 a0_0, .int .u8 a0_1, .int .u8 a0_2, .int .u8 a0_3, .slice A0_4 l0_4.length c0_4, .int .u8 a0_5, .int .u8 a0_6]) (t := 26) ?hr ?_; (case hd => rfl); (case hg => rfl); (case hr => first | (go_simp; done) | (go_simp; rfl)); intro gb337 hg w5 hbox hb; have n0_ := Aside0.mk (below_step (by repeat (first | (with_reducible first | exact HB.out | apply below_alloc | apply pw_below_drewN | apply below_drew1) | exact HB.out)) hb); have n1_ := Aside0.mk (hbox); have n2_ := Aside0.mk ((by rw [hg]; exact (below_size (by repeat (first | (with_reducible first | exact HB.out | apply below_alloc | apply pw_below_drewN | apply below_drew1) | exact HB.out))) : w.heap.size ≤ gb337)); have n3_ := Aside0.mk ((by rw [hg]; exact (below_size (by repeat (first | (with_reducible first | exact HB.out | apply below_alloc | apply pw_below_drewN | apply below_drew1) | exact HB.out))) : w.heap.size ≤ gb337)); clear HB; have HB := n0_; have BK337 := n1_; have GW337 := n2_; have GE337 := n3_; clear n0_ n1_ n2_ n3_; clear hb hbox hg) | ((with_reducible refine gate_dst (N := 2) rfl ?_); refine box_event ?hg (N := 2) ?hd (cs := #[.int .i64 0, .int .i64 0, .int .i64 0, .int .i64 0, .int .i64 0, .int .i64 0, .bool false]) (t := 28) ?hr ?_; (case hd => rfl); (case hg => rfl); (case hr => first | (go_simp; done) | (go_simp; rfl)); intro gb338 hg w6 hbox hb; have n0_ := bxb BK337 hb; have n1_ := Aside0.mk (below_step (bwt HB) hb); have n2_ := Aside0.mk (hbox); have n3_ := Aside0.mk ((by rw [hg]; exact (below_size (bwt HB)) : w.heap.size ≤ gb338)); have n4_ := Aside0.mk ((by rw [hg]; exact (below_size (bwt HB)) : w.heap.size ≤ gb338)); have n5_ := nlt_ BK337 hg; have n6_ := ngt_ BK337 hg; clear BK337; clear HB; have BK337 := n0_; have HB := n1_; have BK338 := n2_; have GW338 := n3_; have GE338 := n4_; have NB337_338 := n5_; have NB338_337 := n6_; clear n0_ n1_ n2_ n3_ n4_ n5_ n6_; clear hb hbox hg; have hnb7 := NB337_338.out; have hnc7 := NB338_337.out; have hcz8_0 : w6.cell? ⟨gb337, 0, none⟩ = some (.int .u8 a0_0) := bc BK337 0; have hcz8_1 : w6.cell? ⟨gb337, 1, none⟩ = some (.int .u8 a0_1) := bc BK337 1; have hcz8_2 : w6.cell? ⟨gb337, 2, none⟩ = some (.int .u8 a0_2) := bc BK337 2; have hcz8_3 : w6.cell? ⟨gb337, 3, none⟩ = some (.int .u8 a0_3) := bc BK337 3; have hcz8_4 : w6.cell? ⟨gb337, 4, none⟩ = some (.slice A0_4 l0_4.length c0_4) := bc BK337 4; have hcz8_5 : w6.cell? ⟨gb337, 5, none⟩ = some (.int .u8 a0_5) := bc BK337 5; have hcz8_6 : w6.cell? ⟨gb337, 6, none⟩ = some (.int .u8 a0_6) := bc BK337 6; have hfz8_0 := blk_frozen BK337.out 0; have hfz8_1 := blk_frozen BK337.out 1; have hfz8_2 := blk_frozen BK337.out 2; have hfz8_3 := blk_frozen BK337.out 3; have hfz8_4 := blk_frozen BK337.out 4; have hfz8_5 := blk_frozen BK337.out 5; have hfz8_6 := blk_frozen BK337.out 6) | ((with_reducible refine gate_callee (f := 23) rfl ?_); refine goesL_ (some 6) rfl rfl Try.func23 (by kernel_rfl) rfl #[.agg #[.int .u8 a0_0, .int .u8 a0_1, .int .u8 a0_2, .int .u8 a0_3, .slice A0_4 l0_4.length c0_4]] rfl (by (try simp only [List.map_toArray, List.map_cons, List.map_nil]); first | done | rfl | (simp only [List.length_drop, List.length_take]; rfl)) ?_; (with_reducible refine (wireloomref44_Made.calls k a0_0 a0_1 a0_2 a0_3 _ _ l0_4 t339 t340 t341 t342 t343 t346 _ ?side1 ?side2 A2.out).mono ?_); (case side1 => repeat (first | exact (Kd.C_below HR0_4.out HB.out) | (with_reducible refine Kd.C_alloc ?_ _) | (with_reducible refine Kd.C_drewN ?_ _) | (with_reducible refine Kd.C_drew ?_))); (case side2 => exact HC0_4.out); rintro e w9 ⟨v344, v347, rfl, ho0, ho1, hb⟩; refine ⟨_, rfl, ?_⟩; have n0_ := Aside0.mk (Kd.R_lower ho0 (below_size (bwt HB))); have n1_ := Aside0.mk (Kd.R_lower ho1 (below_size (bwt HB))); have n2_ := bxb BK337 hb; have n3_ := bxb BK338 hb; have n4_ := Aside0.mk (below_step (bwt HB) hb); clear BK337; clear BK338; clear HB; have HO345 := n0_; have HO348 := n1_; have BK337 := n2_; have BK338 := n3_; have HB := n4_; clear n0_ n1_ n2_ n3_ n4_; (try clear hb); (try clear hb2); (try clear hk); (try clear hi); (try clear ho0); (try clear ho1)) | ((with_reducible refine gate_dst (N := 3) rfl ?_); refine box_event ?hg (N := 3) ?hd (cs := #[.int .i64 0, .int .i64 0, .int .i64 0, .int .i64 0]) (t := 46) ?hr ?_; (case hd => rfl); (case hg => rfl); (case hr => first | (go_simp; done) | (go_simp; rfl)); intro gb349 hg w10 hbox hb; have n0_ := Aside0.mk (Kd.R_below (by (with_reducible repeat (first | apply Kd.R_alloc | apply Kd.R_drewN | apply Kd.R_drew)); exact HO345.out) hb); have n1_ := Aside0.mk (Kd.R_below (by (with_reducible repeat (first | apply Kd.R_alloc | apply Kd.R_drewN | apply Kd.R_drew)); exact HO348.out) hb); have n2_ := bxb BK337 hb; have n3_ := bxb BK338 hb; have n4_ := Aside0.mk (below_step (bwt HB) hb); have n5_ := Aside0.mk (hbox); have n6_ := Aside0.mk ((by rw [hg]; exact (below_size (bwt HB)) : w.heap.size ≤ gb349)); have n7_ := Aside0.mk ((by rw [hg]; exact (below_size (bwt HB)) : w.heap.size ≤ gb349)); have n8_ := nlt_ BK337 hg; have n9_ := ngt_ BK337 hg; have n10_ := nlt_ BK338 hg; have n11_ := ngt_ BK338 hg; clear HO345; clear HO348; clear BK337; clear BK338; clear HB; have HO345 := n0_; have HO348 := n1_; have BK337 := n2_; have BK338 := n3_; have HB := n4_; have BK349 := n5_; have GW349 := n6_; have GE349 := n7_; have NB337_349 := n8_; have NB349_337 := n9_; have NB338_349 := n10_; have NB349_338 := n11_; clear n0_ n1_ n2_ n3_ n4_ n5_ n6_ n7_ n8_ n9_ n10_ n11_; clear hb hbox hg; have hnb11 := NB349_337.out; have hnc11 := NB337_349.out; have hnb12 := NB349_338.out; have hnc12 := NB338_349.out; have hcz13_0 : w10.cell? ⟨gb349, 0, none⟩ = some (.int .i64 0) := bc BK349 0; have hcz13_1 : w10.cell? ⟨gb349, 1, none⟩ = some (.int .i64 0) := bc BK349 1; have hcz13_2 : w10.cell? ⟨gb349, 2, none⟩ = some (.int .i64 0) := bc BK349 2; have hcz13_3 : w10.cell? ⟨gb349, 3, none⟩ = some (.int .i64 0) := bc BK349 3; have hfz13_0 := blk_frozen BK349.out 0; have hfz13_1 := blk_frozen BK349.out 1; have hfz13_2 := blk_frozen BK349.out 2; have hfz13_3 := blk_frozen BK349.out 3; have hcz14_0 : w10.cell? ⟨gb337, 0, none⟩ = some (.int .u8 a0_0) := bc BK337 0; have hcz14_1 : w10.cell? ⟨gb337, 1, none⟩ = some (.int .u8 a0_1) := bc BK337 1; have hcz14_2 : w10.cell? ⟨gb337, 2, none⟩ = some (.int .u8 a0_2) := bc BK337 2; have hcz14_3 : w10.cell? ⟨gb337, 3, none⟩ = some (.int .u8 a0_3) := bc BK337 3; have hcz14_4 : w10.cell? ⟨gb337, 4, none⟩ = some (.slice A0_4 l0_4.length c0_4) := bc BK337 4; have hcz14_5 : w10.cell? ⟨gb337, 5, none⟩ = some (.int .u8 a0_5) := bc BK337 5; have hcz14_6 : w10.cell? ⟨gb337, 6, none⟩ = some (.int .u8 a0_6) := bc BK337 6; have hfz14_0 := blk_frozen BK337.out 0; have hfz14_1 := blk_frozen BK337.out 1; have hfz14_2 := blk_frozen BK337.out 2; have hfz14_3 := blk_frozen BK337.out 3; have hfz14_4 := blk_frozen BK337.out 4; have hfz14_5 := blk_frozen BK337.out 5; have hfz14_6 := blk_frozen BK337.out 6) | ((with_reducible refine gate_callee (f := 14) rfl ?_); refine goesL_ (some 32) rfl rfl Try.func14 (by kernel_rfl) rfl #[.agg #[.int .i64 t339, .int .i64 t340, .int .i64 t341, .int .i64 t342, .int .i64 ji3, .int .i64 (wrap64 (t340 + (wrap64 (Int.tmod a0_6 30)))), .bool false]] rfl (by (try simp only [List.map_toArray, List.map_cons, List.map_nil]); first | done | (simp only [hji3]; rfl) | rfl | (simp only [List.length_drop, List.length_take]; rfl)) ?_; (with_reducible refine (wireloomref45_NewIn.calls k t339 t340 t341 t342 ji3 (wrap64 (t340 + (wrap64 (Int.tmod a0_6 30)))) false t350 t351 t352 t353 t354 t355 t356 t357 _ A4.out).mono ?_); rintro e w15 ⟨rfl, hb⟩; refine ⟨_, rfl, ?_⟩; have n0_ := Aside0.mk (Kd.R_below (by (with_reducible repeat (first | apply Kd.R_alloc | apply Kd.R_drewN | apply Kd.R_drew)); exact (Kd.R_mono (Kd.R_far (p := ⟨gb349, 3, none⟩) (Kd.R_far (p := ⟨gb349, 2, none⟩) (Kd.R_far (p := ⟨gb349, 1, none⟩) (Kd.R_far (p := ⟨gb349, 0, none⟩) (Kd.R_types HO345.out BK349.out (by decide)) (fun _ hk => hk.2) (.int .i64 t339)) (fun _ hk => hk.2) (.int .i64 t340)) (fun _ hk => hk.2) (.int .i64 t341)) (fun _ hk => hk.2) (.int .i64 t342)) (fun _ h_ => h_.1))) hb); have n1_ := Aside0.mk (Kd.R_below (by (with_reducible repeat (first | apply Kd.R_alloc | apply Kd.R_drewN | apply Kd.R_drew)); exact (Kd.R_mono (Kd.R_far (p := ⟨gb349, 3, none⟩) (Kd.R_far (p := ⟨gb349, 2, none⟩) (Kd.R_far (p := ⟨gb349, 1, none⟩) (Kd.R_far (p := ⟨gb349, 0, none⟩) (Kd.R_types HO348.out BK349.out (by decide)) (fun _ hk => hk.2) (.int .i64 t339)) (fun _ hk => hk.2) (.int .i64 t340)) (fun _ hk => hk.2) (.int .i64 t341)) (fun _ hk => hk.2) (.int .i64 t342)) (fun _ h_ => h_.1))) hb); have n2_ := Aside0.mk (blk_below (g := gb337) (o := .cells #[.int .u8 a0_0, .int .u8 a0_1, .int .u8 a0_2, .int .u8 a0_3, .slice A0_4 l0_4.length c0_4, .int .u8 a0_5, .int .u8 a0_6] 26 (0, 0)) (by (with_reducible repeat refine bp_ ?_); refine blk_far ?_ NB337_349.out _; (with_reducible repeat refine bp_ ?_); refine blk_far ?_ NB337_349.out _; (with_reducible repeat refine bp_ ?_); refine blk_far ?_ NB337_349.out _; (with_reducible repeat refine bp_ ?_); refine blk_far ?_ NB337_349.out _; (with_reducible repeat refine bp_ ?_); exact BK337.out) hb); have n3_ := Aside0.mk (blk_below (g := gb338) (o := .cells #[.int .i64 0, .int .i64 0, .int .i64 0, .int .i64 0, .int .i64 0, .int .i64 0, .bool false] 28 (0, 0)) (by (with_reducible repeat refine bp_ ?_); refine blk_far ?_ NB338_349.out _; (with_reducible repeat refine bp_ ?_); refine blk_far ?_ NB338_349.out _; (with_reducible repeat refine bp_ ?_); refine blk_far ?_ NB338_349.out _; (with_reducible repeat refine bp_ ?_); refine blk_far ?_ NB338_349.out _; (with_reducible repeat refine bp_ ?_); exact BK338.out) hb); have n4_ := Aside0.mk (blk_below (g := gb349) (o := .cells #[.int .i64 t339, .int .i64 t340, .int .i64 t341, .int .i64 t342] 46 (0, 0)) (by (with_reducible repeat refine bp_ ?_); refine blk_put (cs := #[.int .i64 t339, .int .i64 t340, .int .i64 t341, .int .i64 0]) ?_ 3 _ rfl; (with_reducible repeat refine bp_ ?_); refine blk_put (cs := #[.int .i64 t339, .int .i64 t340, .int .i64 0, .int .i64 0]) ?_ 2 _ rfl; (with_reducible repeat refine bp_ ?_); refine blk_put (cs := #[.int .i64 t339, .int .i64 0, .int .i64 0, .int .i64 0]) ?_ 1 _ rfl; (with_reducible repeat refine bp_ ?_); refine blk_put (cs := #[.int .i64 0, .int .i64 0, .int .i64 0, .int .i64 0]) ?_ 0 _ rfl; (with_reducible repeat refine bp_ ?_); exact BK349.out) hb); have n5_ := Aside0.mk (below_step (by repeat (first | (with_reducible first | exact HB.out | apply below_alloc | apply pw_below_drewN | apply below_drew1 | refine below_set ?_ GE337.out | refine below_set ?_ GE338.out | refine below_set ?_ GE349.out) | exact HB.out)) hb); clear HO345; clear HO348; clear BK337; clear BK338; clear BK349; clear HB; have HO345 := n0_; have HO348 := n1_; have BK337 := n2_; have BK338 := n3_; have BK349 := n4_; have HB := n5_; clear n0_ n1_ n2_ n3_ n4_ n5_; (try clear hb); (try clear hb2); (try clear hk); (try clear hi); have hcz16_0 : w15.cell? ⟨gb338, 0, none⟩ = some (.int .i64 0) := bc BK338 0; have hcz16_1 : w15.cell? ⟨gb338, 1, none⟩ = some (.int .i64 0) := bc BK338 1; have hcz16_2 : w15.cell? ⟨gb338, 2, none⟩ = some (.int .i64 0) := bc BK338 2; have hcz16_3 : w15.cell? ⟨gb338, 3, none⟩ = some (.int .i64 0) := bc BK338 3; have hcz16_4 : w15.cell? ⟨gb338, 4, none⟩ = some (.int .i64 0) := bc BK338 4; have hcz16_5 : w15.cell? ⟨gb338, 5, none⟩ = some (.int .i64 0) := bc BK338 5; have hcz16_6 : w15.cell? ⟨gb338, 6, none⟩ = some (.bool false) := bc BK338 6; have hfz16_0 := blk_frozen BK338.out 0; have hfz16_1 := blk_frozen BK338.out 1; have hfz16_2 := blk_frozen BK338.out 2; have hfz16_3 := blk_frozen BK338.out 3; have hfz16_4 := blk_frozen BK338.out 4; have hfz16_5 := blk_frozen BK338.out 5; have hfz16_6 := blk_frozen BK338.out 6))
  refine bodyPost_ret (results_cell_row rfl _ _ gb338 28 #[.int .i64 t350, .int .i64 t351, .int .i64 t352, .int .i64 t353, .int .i64 t354, .int .i64 t355, .bool t356] (0, 0) _ rfl (by (with_reducible repeat refine bp_ ?_); refine blk_put (cs := #[.int .i64 t350, .int .i64 t351, .int .i64 t352, .int .i64 t353, .int .i64 t354, .int .i64 t355, .bool false]) ?_ 6 _ rfl; (with_reducible repeat refine bp_ ?_); refine blk_put (cs := #[.int .i64 t350, .int .i64 t351, .int .i64 t352, .int .i64 t353, .int .i64 t354, .int .i64 0, .bool false]) ?_ 5 _ rfl; (with_reducible repeat refine bp_ ?_); refine blk_put (cs := #[.int .i64 t350, .int .i64 t351, .int .i64 t352, .int .i64 t353, .int .i64 0, .int .i64 0, .bool false]) ?_ 4 _ rfl; (with_reducible repeat refine bp_ ?_); refine blk_put (cs := #[.int .i64 t350, .int .i64 t351, .int .i64 t352, .int .i64 0, .int .i64 0, .int .i64 0, .bool false]) ?_ 3 _ rfl; (with_reducible repeat refine bp_ ?_); refine blk_put (cs := #[.int .i64 t350, .int .i64 t351, .int .i64 0, .int .i64 0, .int .i64 0, .int .i64 0, .bool false]) ?_ 2 _ rfl; (with_reducible repeat refine bp_ ?_); refine blk_put (cs := #[.int .i64 t350, .int .i64 0, .int .i64 0, .int .i64 0, .int .i64 0, .int .i64 0, .bool false]) ?_ 1 _ rfl; (with_reducible repeat refine bp_ ?_); refine blk_put (cs := #[.int .i64 0, .int .i64 0, .int .i64 0, .int .i64 0, .int .i64 0, .int .i64 0, .bool false]) ?_ 0 _ rfl; (with_reducible repeat refine bp_ ?_); exact BK338.out) Try.underlying28 rfl (by kernel_rfl)) rfl ?_
  exact ⟨by first | rfl | (simp [errW_none, errW_some] <;> rfl) | (simp only [← hji3]; first | rfl | (simp [errW_none, errW_some] <;> rfl)) | (simp [*, errW_none, errW_some] <;> rfl), by repeat (first | (with_reducible first | exact HB.out | apply below_alloc | apply pw_below_drewN | apply below_drew1 | refine below_set ?_ GE337.out | refine below_set ?_ GE338.out | refine below_set ?_ GE349.out) | exact HB.out)⟩

end Go.Proofs.Ytlofmgdjnaajjaa.Q

namespace Go.Proofs.Ytlofmgdjnaajjaa.Q
open Go.RowKit Go.Proofs.YtlofmgdjnaajjaaW.PrintWords Go.Proofs.YtlofmgdjnaajjaaW.PrintLast Go.Proofs.YtlofmgdjnaajjaaW.PrintMore
attribute [local go_sem] run_makeFunc_own max2_int min2_int max_two min_two max_three min_three max_four min_four   -- for this text's walks alone
set_option linter.unusedVariables false
set_option linter.unusedSimpArgs false

/-! ### wireloomref45_Miss: function 16 -/
def wireloomref45_Miss.f (a0_0 : Int) (a0_1 : Int) (a0_2 : Int) (a0_3 : Int) (a0_4 : Int) (a0_5 : Int) (a0_6 : Bool) : Option (Int × Int × Int × Int × Int × Int × Bool) := if a0_6 = true then (some (a0_0, a0_1, a0_2, a0_3, a0_4, a0_5, a0_6)) else ((wireloomref45_Outlook.f a0_0 a0_1 a0_2 a0_3 a0_4 a0_5 a0_6).bind fun bt373 => ((wireloomref45_InRange.f bt373.1 bt373.2 a0_2 a0_3 a0_4 a0_5 a0_6).bind fun t376 => (some (bt373.1, bt373.2, a0_2, a0_3, a0_4, a0_5, !t376))))
set_option maxHeartbeats 8000000 in
set_option maxRecDepth 100000 in
theorem wireloomref45_Miss.calls (a0_0 : Int) (a0_1 : Int) (a0_2 : Int) (a0_3 : Int) (a0_4 : Int) (a0_5 : Int) (a0_6 : Bool) (r1 : Int) (r2 : Int) (r3 : Int) (r4 : Int) (r5 : Int) (r6 : Int) (r7 : Bool) (w : World) (h : wireloomref45_Miss.f a0_0 a0_1 a0_2 a0_3 a0_4 a0_5 a0_6 = some (r1, r2, r3, r4, r5, r6, r7)) :
    Calls Try.prog 16 #[.agg #[.int .i64 a0_0, .int .i64 a0_1, .int .i64 a0_2, .int .i64 a0_3, .int .i64 a0_4, .int .i64 a0_5, .bool a0_6]] w fun e w' => e = .returned (.agg #[.int .i64 r1, .int .i64 r2, .int .i64 r3, .int .i64 r4, .int .i64 r5, .int .i64 r6, .bool r7]) ∧ Below w.heap.size w w' := by
  have hu28 := Try.underlying28
  have hu40 := Try.underlying40
  have HB := Aside0.mk (Below.refl w.heap.size w)
  have H : (if a0_6 = true then (some (a0_0, a0_1, a0_2, a0_3, a0_4, a0_5, a0_6)) else ((wireloomref45_Outlook.f a0_0 a0_1 a0_2 a0_3 a0_4 a0_5 a0_6).bind fun bt373 => ((wireloomref45_InRange.f bt373.1 bt373.2 a0_2 a0_3 a0_4 a0_5 a0_6).bind fun t376 => (some (bt373.1, bt373.2, a0_2, a0_3, a0_4, a0_5, !t376))))) = some (r1, r2, r3, r4, r5, r6, r7) := h
  clear h
  by_cases c2 : a0_6 = true
  · subst c2
    have H1 : (some (a0_0, a0_1, a0_2, a0_3, a0_4, a0_5, true)) = some (r1, r2, r3, r4, r5, r6, r7) := by rw [if_pos rfl] at H; exact H
    clear H
    have H := H1
    clear H1
    simp only [Option.some.injEq, Prod.mk.injEq] at H
    obtain ⟨rfl, rfl, rfl, rfl, rfl, rfl, rfl⟩ := H
    go_enter Try.func16, Try.ntmps16
    go_wp2_with (first | ((with_reducible refine gate_dst (N := 1) rfl ?_); refine box_event ?hg (N := 1) ?hd (cs := #[.int .i64 a0_0, .int .i64 a0_1, .int .i64 a0_2, .int .i64 a0_3, .int .i64 a0_4, .int .i64 a0_5, .bool true]) (t := 28) ?hr ?_; (case hd => rfl); (case hg => rfl); (case hr => first | (go_simp; done) | (go_simp; rfl)); intro gb371 hg w3 hbox hb; have n0_ := Aside0.mk (below_step (by repeat (first | (with_reducible first | exact HB.out | apply below_alloc | apply pw_below_drewN | apply below_drew1) | exact HB.out)) hb); have n1_ := Aside0.mk (hbox); have n2_ := Aside0.mk ((by rw [hg]; exact (below_size (by repeat (first | (with_reducible first | exact HB.out | apply below_alloc | apply pw_below_drewN | apply below_drew1) | exact HB.out))) : w.heap.size ≤ gb371)); have n3_ := Aside0.mk ((by rw [hg]; exact (below_size (by repeat (first | (with_reducible first | exact HB.out | apply below_alloc | apply pw_below_drewN | apply below_drew1) | exact HB.out))) : w.heap.size ≤ gb371)); clear HB; have HB := n0_; have BK371 := n1_; have GW371 := n2_; have GE371 := n3_; clear n0_ n1_ n2_ n3_; clear hb hbox hg) | ((with_reducible refine gate_dst (N := 2) rfl ?_); refine box_event ?hg (N := 2) ?hd (cs := #[.int .i64 0, .int .i64 0, .int .i64 0, .int .i64 0, .int .i64 0, .int .i64 0, .bool false]) (t := 28) ?hr ?_; (case hd => rfl); (case hg => rfl); (case hr => first | (go_simp; done) | (go_simp; rfl)); intro gb372 hg w4 hbox hb; have n0_ := bxb BK371 hb; have n1_ := Aside0.mk (below_step (bwt HB) hb); have n2_ := Aside0.mk (hbox); have n3_ := Aside0.mk ((by rw [hg]; exact (below_size (bwt HB)) : w.heap.size ≤ gb372)); have n4_ := Aside0.mk ((by rw [hg]; exact (below_size (bwt HB)) : w.heap.size ≤ gb372)); have n5_ := nlt_ BK371 hg; have n6_ := ngt_ BK371 hg; clear BK371; clear HB; have BK371 := n0_; have HB := n1_; have BK372 := n2_; have GW372 := n3_; have GE372 := n4_; have NB371_372 := n5_; have NB372_371 := n6_; clear n0_ n1_ n2_ n3_ n4_ n5_ n6_; clear hb hbox hg; have hnb5 := NB371_372.out; have hnc5 := NB372_371.out; have hcz6_0 : w4.cell? ⟨gb371, 0, none⟩ = some (.int .i64 a0_0) := bc BK371 0; have hcz6_1 : w4.cell? ⟨gb371, 1, none⟩ = some (.int .i64 a0_1) := bc BK371 1; have hcz6_2 : w4.cell? ⟨gb371, 2, none⟩ = some (.int .i64 a0_2) := bc BK371 2; have hcz6_3 : w4.cell? ⟨gb371, 3, none⟩ = some (.int .i64 a0_3) := bc BK371 3; have hcz6_4 : w4.cell? ⟨gb371, 4, none⟩ = some (.int .i64 a0_4) := bc BK371 4; have hcz6_5 : w4.cell? ⟨gb371, 5, none⟩ = some (.int .i64 a0_5) := bc BK371 5; have hcz6_6 : w4.cell? ⟨gb371, 6, none⟩ = some (.bool true) := bc BK371 6; have hfz6_0 := blk_frozen BK371.out 0; have hfz6_1 := blk_frozen BK371.out 1; have hfz6_2 := blk_frozen BK371.out 2; have hfz6_3 := blk_frozen BK371.out 3; have hfz6_4 := blk_frozen BK371.out 4; have hfz6_5 := blk_frozen BK371.out 5; have hfz6_6 := blk_frozen BK371.out 6; have hcz7_0 : w4.cell? ⟨gb372, 0, none⟩ = some (.int .i64 0) := bc BK372 0; have hcz7_1 : w4.cell? ⟨gb372, 1, none⟩ = some (.int .i64 0) := bc BK372 1; have hcz7_2 : w4.cell? ⟨gb372, 2, none⟩ = some (.int .i64 0) := bc BK372 2; have hcz7_3 : w4.cell? ⟨gb372, 3, none⟩ = some (.int .i64 0) := bc BK372 3; have hcz7_4 : w4.cell? ⟨gb372, 4, none⟩ = some (.int .i64 0) := bc BK372 4; have hcz7_5 : w4.cell? ⟨gb372, 5, none⟩ = some (.int .i64 0) := bc BK372 5; have hcz7_6 : w4.cell? ⟨gb372, 6, none⟩ = some (.bool false) := bc BK372 6; have hfz7_0 := blk_frozen BK372.out 0; have hfz7_1 := blk_frozen BK372.out 1; have hfz7_2 := blk_frozen BK372.out 2; have hfz7_3 := blk_frozen BK372.out 3; have hfz7_4 := blk_frozen BK372.out 4; have hfz7_5 := blk_frozen BK372.out 5; have hfz7_6 := blk_frozen BK372.out 6))
    refine bodyPost_ret (results_cell_row rfl _ _ gb372 28 #[.int .i64 a0_0, .int .i64 a0_1, .int .i64 a0_2, .int .i64 a0_3, .int .i64 a0_4, .int .i64 a0_5, .bool true] (0, 0) _ rfl (by (with_reducible repeat refine bp_ ?_); refine blk_put (cs := #[.int .i64 a0_0, .int .i64 a0_1, .int .i64 a0_2, .int .i64 a0_3, .int .i64 a0_4, .int .i64 a0_5, .bool false]) ?_ 6 _ rfl; (with_reducible repeat refine bp_ ?_); refine blk_put (cs := #[.int .i64 a0_0, .int .i64 a0_1, .int .i64 a0_2, .int .i64 a0_3, .int .i64 a0_4, .int .i64 0, .bool false]) ?_ 5 _ rfl; (with_reducible repeat refine bp_ ?_); refine blk_put (cs := #[.int .i64 a0_0, .int .i64 a0_1, .int .i64 a0_2, .int .i64 a0_3, .int .i64 0, .int .i64 0, .bool false]) ?_ 4 _ rfl; (with_reducible repeat refine bp_ ?_); refine blk_put (cs := #[.int .i64 a0_0, .int .i64 a0_1, .int .i64 a0_2, .int .i64 0, .int .i64 0, .int .i64 0, .bool false]) ?_ 3 _ rfl; (with_reducible repeat refine bp_ ?_); refine blk_put (cs := #[.int .i64 a0_0, .int .i64 a0_1, .int .i64 0, .int .i64 0, .int .i64 0, .int .i64 0, .bool false]) ?_ 2 _ rfl; (with_reducible repeat refine bp_ ?_); refine blk_put (cs := #[.int .i64 a0_0, .int .i64 0, .int .i64 0, .int .i64 0, .int .i64 0, .int .i64 0, .bool false]) ?_ 1 _ rfl; (with_reducible repeat refine bp_ ?_); refine blk_put (cs := #[.int .i64 0, .int .i64 0, .int .i64 0, .int .i64 0, .int .i64 0, .int .i64 0, .bool false]) ?_ 0 _ rfl; (with_reducible repeat refine bp_ ?_); exact BK372.out) Try.underlying28 rfl (by kernel_rfl)) rfl ?_
    exact ⟨by first | rfl | (simp [errW_none, errW_some] <;> rfl) | (simp [*, errW_none, errW_some] <;> rfl), by repeat (first | (with_reducible first | exact HB.out | apply below_alloc | apply pw_below_drewN | apply below_drew1 | refine below_set ?_ GE371.out | refine below_set ?_ GE372.out) | exact HB.out)⟩
  · replace c2 := Bool.eq_false_iff.mpr c2
    subst c2
    have H1 : ((wireloomref45_Outlook.f a0_0 a0_1 a0_2 a0_3 a0_4 a0_5 false).bind fun bt373 => ((wireloomref45_InRange.f bt373.1 bt373.2 a0_2 a0_3 a0_4 a0_5 false).bind fun t376 => (some (bt373.1, bt373.2, a0_2, a0_3, a0_4, a0_5, !t376)))) = some (r1, r2, r3, r4, r5, r6, r7) := by rw [if_neg (show ¬ (false = true) by decide)] at H; exact H
    clear H
    have H := H1
    clear H1
    replace H := Option.bind_eq_some_iff.mp H
    obtain ⟨⟨t373, t374⟩, A80, H⟩ := H
    replace H : ((wireloomref45_InRange.f t373 t374 a0_2 a0_3 a0_4 a0_5 false).bind fun t376 => (some (t373, t374, a0_2, a0_3, a0_4, a0_5, !t376))) = some (r1, r2, r3, r4, r5, r6, r7) := H
    have A8 := Aside0.mk A80
    clear A80
    replace H := Option.bind_eq_some_iff.mp H
    obtain ⟨t376, A90, H⟩ := H
    replace H : (some (t373, t374, a0_2, a0_3, a0_4, a0_5, !t376)) = some (r1, r2, r3, r4, r5, r6, r7) := H
    have A9 := Aside0.mk A90
    clear A90
    simp only [Option.some.injEq, Prod.mk.injEq] at H
    obtain ⟨rfl, rfl, rfl, rfl, rfl, rfl, rfl⟩ := H
    go_enter Try.func16, Try.ntmps16
    go_wp2_with (first | ((with_reducible refine gate_dst (N := 1) rfl ?_); refine box_event ?hg (N := 1) ?hd (cs := #[.int .i64 a0_0, .int .i64 a0_1, .int .i64 a0_2, .int .i64 a0_3, .int .i64 a0_4, .int .i64 a0_5, .bool false]) (t := 28) ?hr ?_; (case hd => rfl); (case hg => rfl); (case hr => first | (go_simp; done) | (go_simp; rfl)); intro gb371 hg w10 hbox hb; have n0_ := Aside0.mk (below_step (by repeat (first | (with_reducible first | exact HB.out | apply below_alloc | apply pw_below_drewN | apply below_drew1) | exact HB.out)) hb); have n1_ := Aside0.mk (hbox); have n2_ := Aside0.mk ((by rw [hg]; exact (below_size (by repeat (first | (with_reducible first | exact HB.out | apply below_alloc | apply pw_below_drewN | apply below_drew1) | exact HB.out))) : w.heap.size ≤ gb371)); have n3_ := Aside0.mk ((by rw [hg]; exact (below_size (by repeat (first | (with_reducible first | exact HB.out | apply below_alloc | apply pw_below_drewN | apply below_drew1) | exact HB.out))) : w.heap.size ≤ gb371)); clear HB; have HB := n0_; have BK371 := n1_; have GW371 := n2_; have GE371 := n3_; clear n0_ n1_ n2_ n3_; clear hb hbox hg) | ((with_reducible refine gate_dst (N := 2) rfl ?_); refine box_event ?hg (N := 2) ?hd (cs := #[.int .i64 0, .int .i64 0, .int .i64 0, .int .i64 0, .int .i64 0, .int .i64 0, .bool false]) (t := 28) ?hr ?_; (case hd => rfl); (case hg => rfl); (case hr => first | (go_simp; done) | (go_simp; rfl)); intro gb372 hg w11 hbox hb; have n0_ := bxb BK371 hb; have n1_ := Aside0.mk (below_step (bwt HB) hb); have n2_ := Aside0.mk (hbox); have n3_ := Aside0.mk ((by rw [hg]; exact (below_size (bwt HB)) : w.heap.size ≤ gb372)); have n4_ := Aside0.mk ((by rw [hg]; exact (below_size (bwt HB)) : w.heap.size ≤ gb372)); have n5_ := nlt_ BK371 hg; have n6_ := ngt_ BK371 hg; clear BK371; clear HB; have BK371 := n0_; have HB := n1_; have BK372 := n2_; have GW372 := n3_; have GE372 := n4_; have NB371_372 := n5_; have NB372_371 := n6_; clear n0_ n1_ n2_ n3_ n4_ n5_ n6_; clear hb hbox hg; have hnb12 := NB371_372.out; have hnc12 := NB372_371.out; have hcz13_0 : w11.cell? ⟨gb371, 0, none⟩ = some (.int .i64 a0_0) := bc BK371 0; have hcz13_1 : w11.cell? ⟨gb371, 1, none⟩ = some (.int .i64 a0_1) := bc BK371 1; have hcz13_2 : w11.cell? ⟨gb371, 2, none⟩ = some (.int .i64 a0_2) := bc BK371 2; have hcz13_3 : w11.cell? ⟨gb371, 3, none⟩ = some (.int .i64 a0_3) := bc BK371 3; have hcz13_4 : w11.cell? ⟨gb371, 4, none⟩ = some (.int .i64 a0_4) := bc BK371 4; have hcz13_5 : w11.cell? ⟨gb371, 5, none⟩ = some (.int .i64 a0_5) := bc BK371 5; have hcz13_6 : w11.cell? ⟨gb371, 6, none⟩ = some (.bool false) := bc BK371 6; have hfz13_0 := blk_frozen BK371.out 0; have hfz13_1 := blk_frozen BK371.out 1; have hfz13_2 := blk_frozen BK371.out 2; have hfz13_3 := blk_frozen BK371.out 3; have hfz13_4 := blk_frozen BK371.out 4; have hfz13_5 := blk_frozen BK371.out 5; have hfz13_6 := blk_frozen BK371.out 6) | ((with_reducible refine gate_callee (f := 18) rfl ?_); refine goesL_ (some 8) rfl rfl Try.func18 (by kernel_rfl) rfl #[.agg #[.int .i64 a0_0, .int .i64 a0_1, .int .i64 a0_2, .int .i64 a0_3, .int .i64 a0_4, .int .i64 a0_5, .bool false]] rfl (by (try simp only [List.map_toArray, List.map_cons, List.map_nil]); first | done | rfl | (simp only [List.length_drop, List.length_take]; rfl)) ?_; (with_reducible refine (wireloomref45_Outlook.calls a0_0 a0_1 a0_2 a0_3 a0_4 a0_5 false t373 t374 _ A8.out).mono ?_); rintro e w14 ⟨rfl, hb⟩; refine ⟨_, rfl, ?_⟩; have n0_ := bxb BK371 hb; have n1_ := bxb BK372 hb; have n2_ := Aside0.mk (below_step (bwt HB) hb); clear BK371; clear BK372; clear HB; have BK371 := n0_; have BK372 := n1_; have HB := n2_; clear n0_ n1_ n2_; (try clear hb); (try clear hb2); (try clear hk); (try clear hi)) | ((with_reducible refine gate_dst (N := 3) rfl ?_); refine box_event ?hg (N := 3) ?hd (cs := #[.int .i64 0, .int .i64 0]) (t := 40) ?hr ?_; (case hd => rfl); (case hg => rfl); (case hr => first | (go_simp; done) | (go_simp; rfl)); intro gb375 hg w15 hbox hb; have n0_ := bxb BK371 hb; have n1_ := bxb BK372 hb; have n2_ := Aside0.mk (below_step (bwt HB) hb); have n3_ := Aside0.mk (hbox); have n4_ := Aside0.mk ((by rw [hg]; exact (below_size (bwt HB)) : w.heap.size ≤ gb375)); have n5_ := Aside0.mk ((by rw [hg]; exact (below_size (bwt HB)) : w.heap.size ≤ gb375)); have n6_ := nlt_ BK371 hg; have n7_ := ngt_ BK371 hg; have n8_ := nlt_ BK372 hg; have n9_ := ngt_ BK372 hg; clear BK371; clear BK372; clear HB; have BK371 := n0_; have BK372 := n1_; have HB := n2_; have BK375 := n3_; have GW375 := n4_; have GE375 := n5_; have NB371_375 := n6_; have NB375_371 := n7_; have NB372_375 := n8_; have NB375_372 := n9_; clear n0_ n1_ n2_ n3_ n4_ n5_ n6_ n7_ n8_ n9_; clear hb hbox hg; have hnb16 := NB375_371.out; have hnc16 := NB371_375.out; have hnb17 := NB375_372.out; have hnc17 := NB372_375.out; have hcz18_0 : w15.cell? ⟨gb375, 0, none⟩ = some (.int .i64 0) := bc BK375 0; have hcz18_1 : w15.cell? ⟨gb375, 1, none⟩ = some (.int .i64 0) := bc BK375 1; have hfz18_0 := blk_frozen BK375.out 0; have hfz18_1 := blk_frozen BK375.out 1; have hcz19_0 : w15.cell? ⟨gb371, 0, none⟩ = some (.int .i64 a0_0) := bc BK371 0; have hcz19_1 : w15.cell? ⟨gb371, 1, none⟩ = some (.int .i64 a0_1) := bc BK371 1; have hcz19_2 : w15.cell? ⟨gb371, 2, none⟩ = some (.int .i64 a0_2) := bc BK371 2; have hcz19_3 : w15.cell? ⟨gb371, 3, none⟩ = some (.int .i64 a0_3) := bc BK371 3; have hcz19_4 : w15.cell? ⟨gb371, 4, none⟩ = some (.int .i64 a0_4) := bc BK371 4; have hcz19_5 : w15.cell? ⟨gb371, 5, none⟩ = some (.int .i64 a0_5) := bc BK371 5; have hcz19_6 : w15.cell? ⟨gb371, 6, none⟩ = some (.bool false) := bc BK371 6; have hfz19_0 := blk_frozen BK371.out 0; have hfz19_1 := blk_frozen BK371.out 1; have hfz19_2 := blk_frozen BK371.out 2; have hfz19_3 := blk_frozen BK371.out 3; have hfz19_4 := blk_frozen BK371.out 4; have hfz19_5 := blk_frozen BK371.out 5; have hfz19_6 := blk_frozen BK371.out 6) | ((with_reducible refine gate_callee (f := 29) rfl ?_); refine goesL_ (some 16) rfl rfl Try.func29 (by kernel_rfl) rfl #[.agg #[.int .i64 t373, .int .i64 t374, .int .i64 a0_2, .int .i64 a0_3, .int .i64 a0_4, .int .i64 a0_5, .bool false]] rfl (by (try simp only [List.map_toArray, List.map_cons, List.map_nil]); first | done | rfl | (simp only [List.length_drop, List.length_take]; rfl)) ?_; (with_reducible refine (wireloomref45_InRange.calls t373 t374 a0_2 a0_3 a0_4 a0_5 false t376 _ A9.out).mono ?_); rintro e w20 ⟨rfl, hb⟩; refine ⟨_, rfl, ?_⟩; have n0_ := Aside0.mk (blk_below (g := gb371) (o := .cells #[.int .i64 t373, .int .i64 t374, .int .i64 a0_2, .int .i64 a0_3, .int .i64 a0_4, .int .i64 a0_5, .bool false] 28 (0, 0)) (by (with_reducible repeat refine bp_ ?_); refine blk_put (cs := #[.int .i64 t373, .int .i64 a0_1, .int .i64 a0_2, .int .i64 a0_3, .int .i64 a0_4, .int .i64 a0_5, .bool false]) ?_ 1 _ rfl; (with_reducible repeat refine bp_ ?_); refine blk_put (cs := #[.int .i64 a0_0, .int .i64 a0_1, .int .i64 a0_2, .int .i64 a0_3, .int .i64 a0_4, .int .i64 a0_5, .bool false]) ?_ 0 _ rfl; (with_reducible repeat refine bp_ ?_); refine blk_far ?_ NB371_375.out _; (with_reducible repeat refine bp_ ?_); refine blk_far ?_ NB371_375.out _; (with_reducible repeat refine bp_ ?_); exact BK371.out) hb); have n1_ := Aside0.mk (blk_below (g := gb372) (o := .cells #[.int .i64 0, .int .i64 0, .int .i64 0, .int .i64 0, .int .i64 0, .int .i64 0, .bool false] 28 (0, 0)) (by (with_reducible repeat refine bp_ ?_); refine blk_far ?_ NB372_371.out _; (with_reducible repeat refine bp_ ?_); refine blk_far ?_ NB372_371.out _; (with_reducible repeat refine bp_ ?_); refine blk_far ?_ NB372_375.out _; (with_reducible repeat refine bp_ ?_); refine blk_far ?_ NB372_375.out _; (with_reducible repeat refine bp_ ?_); exact BK372.out) hb); have n2_ := Aside0.mk (blk_below (g := gb375) (o := .cells #[.int .i64 t373, .int .i64 t374] 40 (0, 0)) (by (with_reducible repeat refine bp_ ?_); refine blk_far ?_ NB375_371.out _; (with_reducible repeat refine bp_ ?_); refine blk_far ?_ NB375_371.out _; (with_reducible repeat refine bp_ ?_); refine blk_put (cs := #[.int .i64 t373, .int .i64 0]) ?_ 1 _ rfl; (with_reducible repeat refine bp_ ?_); refine blk_put (cs := #[.int .i64 0, .int .i64 0]) ?_ 0 _ rfl; (with_reducible repeat refine bp_ ?_); exact BK375.out) hb); have n3_ := Aside0.mk (below_step (by repeat (first | (with_reducible first | exact HB.out | apply below_alloc | apply pw_below_drewN | apply below_drew1 | refine below_set ?_ GE371.out | refine below_set ?_ GE372.out | refine below_set ?_ GE375.out) | exact HB.out)) hb); clear BK371; clear BK372; clear BK375; clear HB; have BK371 := n0_; have BK372 := n1_; have BK375 := n2_; have HB := n3_; clear n0_ n1_ n2_ n3_; (try clear hb); (try clear hb2); (try clear hk); (try clear hi); have hcz21_0 : w20.cell? ⟨gb371, 0, none⟩ = some (.int .i64 t373) := bc BK371 0; have hcz21_1 : w20.cell? ⟨gb371, 1, none⟩ = some (.int .i64 t374) := bc BK371 1; have hcz21_2 : w20.cell? ⟨gb371, 2, none⟩ = some (.int .i64 a0_2) := bc BK371 2; have hcz21_3 : w20.cell? ⟨gb371, 3, none⟩ = some (.int .i64 a0_3) := bc BK371 3; have hcz21_4 : w20.cell? ⟨gb371, 4, none⟩ = some (.int .i64 a0_4) := bc BK371 4; have hcz21_5 : w20.cell? ⟨gb371, 5, none⟩ = some (.int .i64 a0_5) := bc BK371 5; have hcz21_6 : w20.cell? ⟨gb371, 6, none⟩ = some (.bool false) := bc BK371 6; have hfz21_0 := blk_frozen BK371.out 0; have hfz21_1 := blk_frozen BK371.out 1; have hfz21_2 := blk_frozen BK371.out 2; have hfz21_3 := blk_frozen BK371.out 3; have hfz21_4 := blk_frozen BK371.out 4; have hfz21_5 := blk_frozen BK371.out 5; have hfz21_6 := blk_frozen BK371.out 6; have hcz22_0 : w20.cell? ⟨gb372, 0, none⟩ = some (.int .i64 0) := bc BK372 0; have hcz22_1 : w20.cell? ⟨gb372, 1, none⟩ = some (.int .i64 0) := bc BK372 1; have hcz22_2 : w20.cell? ⟨gb372, 2, none⟩ = some (.int .i64 0) := bc BK372 2; have hcz22_3 : w20.cell? ⟨gb372, 3, none⟩ = some (.int .i64 0) := bc BK372 3; have hcz22_4 : w20.cell? ⟨gb372, 4, none⟩ = some (.int .i64 0) := bc BK372 4; have hcz22_5 : w20.cell? ⟨gb372, 5, none⟩ = some (.int .i64 0) := bc BK372 5; have hcz22_6 : w20.cell? ⟨gb372, 6, none⟩ = some (.bool false) := bc BK372 6; have hfz22_0 := blk_frozen BK372.out 0; have hfz22_1 := blk_frozen BK372.out 1; have hfz22_2 := blk_frozen BK372.out 2; have hfz22_3 := blk_frozen BK372.out 3; have hfz22_4 := blk_frozen BK372.out 4; have hfz22_5 := blk_frozen BK372.out 5; have hfz22_6 := blk_frozen BK372.out 6))
    refine bodyPost_ret (results_cell_row rfl _ _ gb372 28 #[.int .i64 t373, .int .i64 t374, .int .i64 a0_2, .int .i64 a0_3, .int .i64 a0_4, .int .i64 a0_5, .bool (!t376)] (0, 0) _ rfl (by (with_reducible repeat refine bp_ ?_); refine blk_put (cs := #[.int .i64 t373, .int .i64 t374, .int .i64 a0_2, .int .i64 a0_3, .int .i64 a0_4, .int .i64 a0_5, .bool false]) ?_ 6 _ rfl; (with_reducible repeat refine bp_ ?_); refine blk_put (cs := #[.int .i64 t373, .int .i64 t374, .int .i64 a0_2, .int .i64 a0_3, .int .i64 a0_4, .int .i64 0, .bool false]) ?_ 5 _ rfl; (with_reducible repeat refine bp_ ?_); refine blk_put (cs := #[.int .i64 t373, .int .i64 t374, .int .i64 a0_2, .int .i64 a0_3, .int .i64 0, .int .i64 0, .bool false]) ?_ 4 _ rfl; (with_reducible repeat refine bp_ ?_); refine blk_put (cs := #[.int .i64 t373, .int .i64 t374, .int .i64 a0_2, .int .i64 0, .int .i64 0, .int .i64 0, .bool false]) ?_ 3 _ rfl; (with_reducible repeat refine bp_ ?_); refine blk_put (cs := #[.int .i64 t373, .int .i64 t374, .int .i64 0, .int .i64 0, .int .i64 0, .int .i64 0, .bool false]) ?_ 2 _ rfl; (with_reducible repeat refine bp_ ?_); refine blk_put (cs := #[.int .i64 t373, .int .i64 0, .int .i64 0, .int .i64 0, .int .i64 0, .int .i64 0, .bool false]) ?_ 1 _ rfl; (with_reducible repeat refine bp_ ?_); refine blk_put (cs := #[.int .i64 0, .int .i64 0, .int .i64 0, .int .i64 0, .int .i64 0, .int .i64 0, .bool false]) ?_ 0 _ rfl; (with_reducible repeat refine bp_ ?_); refine blk_far ?_ NB372_371.out _; (with_reducible repeat refine bp_ ?_); exact BK372.out) Try.underlying28 rfl (by kernel_rfl)) rfl ?_
    exact ⟨by first | rfl | (simp [errW_none, errW_some] <;> rfl) | (simp [*, errW_none, errW_some] <;> rfl), by repeat (first | (with_reducible first | exact HB.out | apply below_alloc | apply pw_below_drewN | apply below_drew1 | refine below_set ?_ GE371.out | refine below_set ?_ GE372.out | refine below_set ?_ GE375.out) | exact HB.out)⟩

end Go.Proofs.Ytlofmgdjnaajjaa.Q

namespace Go.Proofs.Ytlofmgdjnaajjaa.Q
open Go.RowKit Go.Proofs.YtlofmgdjnaajjaaW.PrintWords Go.Proofs.YtlofmgdjnaajjaaW.PrintLast Go.Proofs.YtlofmgdjnaajjaaW.PrintMore
attribute [local go_sem] run_makeFunc_own max2_int min2_int max_two min_two max_three min_three max_four min_four   -- for this text's walks alone
set_option linter.unusedVariables false
set_option linter.unusedSimpArgs false

/-! ### wireloomref45_See: function 15 -/
def wireloomref45_See.f (a0_0 : Int) (a0_1 : Int) (a0_2 : Int) (a0_3 : Int) (a0_4 : Int) (a0_5 : Int) (a0_6 : Bool) (a1 : Int) : Option (Int × Int × Int × Int × Int × Int × Bool) := if a0_6 = true then (some (a0_0, a0_1, a0_2, a0_3, a0_4, a0_5, a0_6)) else ((wireloomref45_seen.f a0_0 a0_1 a0_2 a0_3 a0_4 a0_5 a0_6 a1).bind fun bt366 => (if bt366.2.2 = true then ((wireloomref45_InRange.f bt366.1 bt366.2.1 a0_2 a0_3 a0_4 a0_5 a0_6).bind fun t370 => (some (bt366.1, bt366.2.1, a0_2, a0_3, a0_4, a0_5, !t370))) else (some (a0_0, a0_1, a0_2, a0_3, a0_4, a0_5, true))))
set_option maxHeartbeats 8000000 in
set_option maxRecDepth 100000 in
theorem wireloomref45_See.calls (a0_0 : Int) (a0_1 : Int) (a0_2 : Int) (a0_3 : Int) (a0_4 : Int) (a0_5 : Int) (a0_6 : Bool) (a1 : Int) (r1 : Int) (r2 : Int) (r3 : Int) (r4 : Int) (r5 : Int) (r6 : Int) (r7 : Bool) (w : World) (h : wireloomref45_See.f a0_0 a0_1 a0_2 a0_3 a0_4 a0_5 a0_6 a1 = some (r1, r2, r3, r4, r5, r6, r7)) :
    Calls Try.prog 15 #[.agg #[.int .i64 a0_0, .int .i64 a0_1, .int .i64 a0_2, .int .i64 a0_3, .int .i64 a0_4, .int .i64 a0_5, .bool a0_6], .int .i64 a1] w fun e w' => e = .returned (.agg #[.int .i64 r1, .int .i64 r2, .int .i64 r3, .int .i64 r4, .int .i64 r5, .int .i64 r6, .bool r7]) ∧ Below w.heap.size w w' := by
  have hu28 := Try.underlying28
  have hu40 := Try.underlying40
  have HB := Aside0.mk (Below.refl w.heap.size w)
  have H : (if a0_6 = true then (some (a0_0, a0_1, a0_2, a0_3, a0_4, a0_5, a0_6)) else ((wireloomref45_seen.f a0_0 a0_1 a0_2 a0_3 a0_4 a0_5 a0_6 a1).bind fun bt366 => (if bt366.2.2 = true then ((wireloomref45_InRange.f bt366.1 bt366.2.1 a0_2 a0_3 a0_4 a0_5 a0_6).bind fun t370 => (some (bt366.1, bt366.2.1, a0_2, a0_3, a0_4, a0_5, !t370))) else (some (a0_0, a0_1, a0_2, a0_3, a0_4, a0_5, true))))) = some (r1, r2, r3, r4, r5, r6, r7) := h
  clear h
  by_cases c3 : a0_6 = true
  · subst c3
    have H1 : (some (a0_0, a0_1, a0_2, a0_3, a0_4, a0_5, true)) = some (r1, r2, r3, r4, r5, r6, r7) := by rw [if_pos rfl] at H; exact H
    clear H
    have H := H1
    clear H1
    simp only [Option.some.injEq, Prod.mk.injEq] at H
    obtain ⟨rfl, rfl, rfl, rfl, rfl, rfl, rfl⟩ := H
    go_enter Try.func15, Try.ntmps15
    go_wp2_with (first | ((with_reducible refine gate_dst (N := 2) rfl ?_); refine box_event ?hg (N := 2) ?hd (cs := #[.int .i64 a0_0, .int .i64 a0_1, .int .i64 a0_2, .int .i64 a0_3, .int .i64 a0_4, .int .i64 a0_5, .bool true]) (t := 28) ?hr ?_; (case hd => rfl); (case hg => rfl); (case hr => first | (go_simp; done) | (go_simp; rfl)); intro gb364 hg w4 hbox hb; have n0_ := Aside0.mk (below_step (by repeat (first | (with_reducible first | exact HB.out | apply below_alloc | apply pw_below_drewN | apply below_drew1) | exact HB.out)) hb); have n1_ := Aside0.mk (hbox); have n2_ := Aside0.mk ((by rw [hg]; exact (below_size (by repeat (first | (with_reducible first | exact HB.out | apply below_alloc | apply pw_below_drewN | apply below_drew1) | exact HB.out))) : w.heap.size ≤ gb364)); have n3_ := Aside0.mk ((by rw [hg]; exact (below_size (by repeat (first | (with_reducible first | exact HB.out | apply below_alloc | apply pw_below_drewN | apply below_drew1) | exact HB.out))) : w.heap.size ≤ gb364)); clear HB; have HB := n0_; have BK364 := n1_; have GW364 := n2_; have GE364 := n3_; clear n0_ n1_ n2_ n3_; clear hb hbox hg) | ((with_reducible refine gate_dst (N := 4) rfl ?_); refine box_event ?hg (N := 4) ?hd (cs := #[.int .i64 0, .int .i64 0, .int .i64 0, .int .i64 0, .int .i64 0, .int .i64 0, .bool false]) (t := 28) ?hr ?_; (case hd => rfl); (case hg => rfl); (case hr => first | (go_simp; done) | (go_simp; rfl)); intro gb365 hg w5 hbox hb; have n0_ := bxb BK364 hb; have n1_ := Aside0.mk (below_step (bwt HB) hb); have n2_ := Aside0.mk (hbox); have n3_ := Aside0.mk ((by rw [hg]; exact (below_size (bwt HB)) : w.heap.size ≤ gb365)); have n4_ := Aside0.mk ((by rw [hg]; exact (below_size (bwt HB)) : w.heap.size ≤ gb365)); have n5_ := nlt_ BK364 hg; have n6_ := ngt_ BK364 hg; clear BK364; clear HB; have BK364 := n0_; have HB := n1_; have BK365 := n2_; have GW365 := n3_; have GE365 := n4_; have NB364_365 := n5_; have NB365_364 := n6_; clear n0_ n1_ n2_ n3_ n4_ n5_ n6_; clear hb hbox hg; have hnb6 := NB364_365.out; have hnc6 := NB365_364.out; have hcz7_0 : w5.cell? ⟨gb364, 0, none⟩ = some (.int .i64 a0_0) := bc BK364 0; have hcz7_1 : w5.cell? ⟨gb364, 1, none⟩ = some (.int .i64 a0_1) := bc BK364 1; have hcz7_2 : w5.cell? ⟨gb364, 2, none⟩ = some (.int .i64 a0_2) := bc BK364 2; have hcz7_3 : w5.cell? ⟨gb364, 3, none⟩ = some (.int .i64 a0_3) := bc BK364 3; have hcz7_4 : w5.cell? ⟨gb364, 4, none⟩ = some (.int .i64 a0_4) := bc BK364 4; have hcz7_5 : w5.cell? ⟨gb364, 5, none⟩ = some (.int .i64 a0_5) := bc BK364 5; have hcz7_6 : w5.cell? ⟨gb364, 6, none⟩ = some (.bool true) := bc BK364 6; have hfz7_0 := blk_frozen BK364.out 0; have hfz7_1 := blk_frozen BK364.out 1; have hfz7_2 := blk_frozen BK364.out 2; have hfz7_3 := blk_frozen BK364.out 3; have hfz7_4 := blk_frozen BK364.out 4; have hfz7_5 := blk_frozen BK364.out 5; have hfz7_6 := blk_frozen BK364.out 6; have hcz8_0 : w5.cell? ⟨gb365, 0, none⟩ = some (.int .i64 0) := bc BK365 0; have hcz8_1 : w5.cell? ⟨gb365, 1, none⟩ = some (.int .i64 0) := bc BK365 1; have hcz8_2 : w5.cell? ⟨gb365, 2, none⟩ = some (.int .i64 0) := bc BK365 2; have hcz8_3 : w5.cell? ⟨gb365, 3, none⟩ = some (.int .i64 0) := bc BK365 3; have hcz8_4 : w5.cell? ⟨gb365, 4, none⟩ = some (.int .i64 0) := bc BK365 4; have hcz8_5 : w5.cell? ⟨gb365, 5, none⟩ = some (.int .i64 0) := bc BK365 5; have hcz8_6 : w5.cell? ⟨gb365, 6, none⟩ = some (.bool false) := bc BK365 6; have hfz8_0 := blk_frozen BK365.out 0; have hfz8_1 := blk_frozen BK365.out 1; have hfz8_2 := blk_frozen BK365.out 2; have hfz8_3 := blk_frozen BK365.out 3; have hfz8_4 := blk_frozen BK365.out 4; have hfz8_5 := blk_frozen BK365.out 5; have hfz8_6 := blk_frozen BK365.out 6))
    refine bodyPost_ret (results_cell_row rfl _ _ gb365 28 #[.int .i64 a0_0, .int .i64 a0_1, .int .i64 a0_2, .int .i64 a0_3, .int .i64 a0_4, .int .i64 a0_5, .bool true] (0, 0) _ rfl (by (with_reducible repeat refine bp_ ?_); refine blk_put (cs := #[.int .i64 a0_0, .int .i64 a0_1, .int .i64 a0_2, .int .i64 a0_3, .int .i64 a0_4, .int .i64 a0_5, .bool false]) ?_ 6 _ rfl; (with_reducible repeat refine bp_ ?_); refine blk_put (cs := #[.int .i64 a0_0, .int .i64 a0_1, .int .i64 a0_2, .int .i64 a0_3, .int .i64 a0_4, .int .i64 0, .bool false]) ?_ 5 _ rfl; (with_reducible repeat refine bp_ ?_); refine blk_put (cs := #[.int .i64 a0_0, .int .i64 a0_1, .int .i64 a0_2, .int .i64 a0_3, .int .i64 0, .int .i64 0, .bool false]) ?_ 4 _ rfl; (with_reducible repeat refine bp_ ?_); refine blk_put (cs := #[.int .i64 a0_0, .int .i64 a0_1, .int .i64 a0_2, .int .i64 0, .int .i64 0, .int .i64 0, .bool false]) ?_ 3 _ rfl; (with_reducible repeat refine bp_ ?_); refine blk_put (cs := #[.int .i64 a0_0, .int .i64 a0_1, .int .i64 0, .int .i64 0, .int .i64 0, .int .i64 0, .bool false]) ?_ 2 _ rfl; (with_reducible repeat refine bp_ ?_); refine blk_put (cs := #[.int .i64 a0_0, .int .i64 0, .int .i64 0, .int .i64 0, .int .i64 0, .int .i64 0, .bool false]) ?_ 1 _ rfl; (with_reducible repeat refine bp_ ?_); refine blk_put (cs := #[.int .i64 0, .int .i64 0, .int .i64 0, .int .i64 0, .int .i64 0, .int .i64 0, .bool false]) ?_ 0 _ rfl; (with_reducible repeat refine bp_ ?_); exact BK365.out) Try.underlying28 rfl (by kernel_rfl)) rfl ?_
    exact ⟨by first | rfl | (simp [errW_none, errW_some] <;> rfl) | (simp [*, errW_none, errW_some] <;> rfl), by repeat (first | (with_reducible first | exact HB.out | apply below_alloc | apply pw_below_drewN | apply below_drew1 | refine below_set ?_ GE364.out | refine below_set ?_ GE365.out) | exact HB.out)⟩
  · replace c3 := Bool.eq_false_iff.mpr c3
    subst c3
    have H1 : ((wireloomref45_seen.f a0_0 a0_1 a0_2 a0_3 a0_4 a0_5 false a1).bind fun bt366 => (if bt366.2.2 = true then ((wireloomref45_InRange.f bt366.1 bt366.2.1 a0_2 a0_3 a0_4 a0_5 false).bind fun t370 => (some (bt366.1, bt366.2.1, a0_2, a0_3, a0_4, a0_5, !t370))) else (some (a0_0, a0_1, a0_2, a0_3, a0_4, a0_5, true)))) = some (r1, r2, r3, r4, r5, r6, r7) := by rw [if_neg (show ¬ (false = true) by decide)] at H; exact H
    clear H
    have H := H1
    clear H1
    replace H := Option.bind_eq_some_iff.mp H
    obtain ⟨⟨t366, t367, t368⟩, A90, H⟩ := H
    replace H : (if t368 = true then ((wireloomref45_InRange.f t366 t367 a0_2 a0_3 a0_4 a0_5 false).bind fun t370 => (some (t366, t367, a0_2, a0_3, a0_4, a0_5, !t370))) else (some (a0_0, a0_1, a0_2, a0_3, a0_4, a0_5, true))) = some (r1, r2, r3, r4, r5, r6, r7) := H
    have A9 := Aside0.mk A90
    clear A90
    by_cases c10 : t368 = true
    · subst c10
      have H1 : ((wireloomref45_InRange.f t366 t367 a0_2 a0_3 a0_4 a0_5 false).bind fun t370 => (some (t366, t367, a0_2, a0_3, a0_4, a0_5, !t370))) = some (r1, r2, r3, r4, r5, r6, r7) := by rw [if_pos rfl] at H; exact H
      clear H
      have H := H1
      clear H1
      replace H := Option.bind_eq_some_iff.mp H
      obtain ⟨t370, A110, H⟩ := H
      replace H : (some (t366, t367, a0_2, a0_3, a0_4, a0_5, !t370)) = some (r1, r2, r3, r4, r5, r6, r7) := H
      have A11 := Aside0.mk A110
      clear A110
      simp only [Option.some.injEq, Prod.mk.injEq] at H
      obtain ⟨rfl, rfl, rfl, rfl, rfl, rfl, rfl⟩ := H
      go_enter Try.func15, Try.ntmps15
      go_wp2_with (first | ((with_reducible refine gate_dst (N := 2) rfl ?_); refine box_event ?hg (N := 2) ?hd (cs := #[.int .i64 a0_0, .int .i64 a0_1, .int .i64 a0_2, .int .i64 a0_3, .int .i64 a0_4, .int .i64 a0_5, .bool false]) (t := 28) ?hr ?_; (case hd => rfl); (case hg => rfl); (case hr => first | (go_simp; done) | (go_simp; rfl)); intro gb364 hg w12 hbox hb; have n0_ := Aside0.mk (below_step (by repeat (first | (with_reducible first | exact HB.out | apply below_alloc | apply pw_below_drewN | apply below_drew1) | exact HB.out)) hb); have n1_ := Aside0.mk (hbox); have n2_ := Aside0.mk ((by rw [hg]; exact (below_size (by repeat (first | (with_reducible first | exact HB.out | apply below_alloc | apply pw_below_drewN | apply below_drew1) | exact HB.out))) : w.heap.size ≤ gb364)); have n3_ := Aside0.mk ((by rw [hg]; exact (below_size (by repeat (first | (with_reducible first | exact HB.out | apply below_alloc | apply pw_below_drewN | apply below_drew1) | exact HB.out))) : w.heap.size ≤ gb364)); clear HB; have HB := n0_; have BK364 := n1_; have GW364 := n2_; have GE364 := n3_; clear n0_ n1_ n2_ n3_; clear hb hbox hg) | ((with_reducible refine gate_dst (N := 4) rfl ?_); refine box_event ?hg (N := 4) ?hd (cs := #[.int .i64 0, .int .i64 0, .int .i64 0, .int .i64 0, .int .i64 0, .int .i64 0, .bool false]) (t := 28) ?hr ?_; (case hd => rfl); (case hg => rfl); (case hr => first | (go_simp; done) | (go_simp; rfl)); intro gb365 hg w13 hbox hb; have n0_ := bxb BK364 hb; have n1_ := Aside0.mk (below_step (bwt HB) hb); have n2_ := Aside0.mk (hbox); have n3_ := Aside0.mk ((by rw [hg]; exact (below_size (bwt HB)) : w.heap.size ≤ gb365)); have n4_ := Aside0.mk ((by rw [hg]; exact (below_size (bwt HB)) : w.heap.size ≤ gb365)); have n5_ := nlt_ BK364 hg; have n6_ := ngt_ BK364 hg; clear BK364; clear HB; have BK364 := n0_; have HB := n1_; have BK365 := n2_; have GW365 := n3_; have GE365 := n4_; have NB364_365 := n5_; have NB365_364 := n6_; clear n0_ n1_ n2_ n3_ n4_ n5_ n6_; clear hb hbox hg; have hnb14 := NB364_365.out; have hnc14 := NB365_364.out; have hcz15_0 : w13.cell? ⟨gb364, 0, none⟩ = some (.int .i64 a0_0) := bc BK364 0; have hcz15_1 : w13.cell? ⟨gb364, 1, none⟩ = some (.int .i64 a0_1) := bc BK364 1; have hcz15_2 : w13.cell? ⟨gb364, 2, none⟩ = some (.int .i64 a0_2) := bc BK364 2; have hcz15_3 : w13.cell? ⟨gb364, 3, none⟩ = some (.int .i64 a0_3) := bc BK364 3; have hcz15_4 : w13.cell? ⟨gb364, 4, none⟩ = some (.int .i64 a0_4) := bc BK364 4; have hcz15_5 : w13.cell? ⟨gb364, 5, none⟩ = some (.int .i64 a0_5) := bc BK364 5; have hcz15_6 : w13.cell? ⟨gb364, 6, none⟩ = some (.bool false) := bc BK364 6; have hfz15_0 := blk_frozen BK364.out 0; have hfz15_1 := blk_frozen BK364.out 1; have hfz15_2 := blk_frozen BK364.out 2; have hfz15_3 := blk_frozen BK364.out 3; have hfz15_4 := blk_frozen BK364.out 4; have hfz15_5 := blk_frozen BK364.out 5; have hfz15_6 := blk_frozen BK364.out 6) | ((with_reducible refine gate_callee (f := 31) rfl ?_); refine goesL_ (some 13) rfl rfl Try.func31 (by kernel_rfl) rfl #[.agg #[.int .i64 a0_0, .int .i64 a0_1, .int .i64 a0_2, .int .i64 a0_3, .int .i64 a0_4, .int .i64 a0_5, .bool false], .int .i64 a1] rfl (by (try simp only [List.map_toArray, List.map_cons, List.map_nil]); first | done | rfl | (simp only [List.length_drop, List.length_take]; rfl)) ?_; (with_reducible refine (wireloomref45_seen.calls a0_0 a0_1 a0_2 a0_3 a0_4 a0_5 false a1 t366 t367 true _ A9.out).mono ?_); rintro e w16 ⟨rfl, hb⟩; refine ⟨_, rfl, ?_⟩; have n0_ := bxb BK364 hb; have n1_ := bxb BK365 hb; have n2_ := Aside0.mk (below_step (bwt HB) hb); clear BK364; clear BK365; clear HB; have BK364 := n0_; have BK365 := n1_; have HB := n2_; clear n0_ n1_ n2_; (try clear hb); (try clear hb2); (try clear hk); (try clear hi)) | ((with_reducible refine gate_dst (N := 5) rfl ?_); refine box_event ?hg (N := 5) ?hd (cs := #[.int .i64 0, .int .i64 0]) (t := 40) ?hr ?_; (case hd => rfl); (case hg => rfl); (case hr => first | (go_simp; done) | (go_simp; rfl)); intro gb369 hg w17 hbox hb; have n0_ := bxb BK364 hb; have n1_ := bxb BK365 hb; have n2_ := Aside0.mk (below_step (bwt HB) hb); have n3_ := Aside0.mk (hbox); have n4_ := Aside0.mk ((by rw [hg]; exact (below_size (bwt HB)) : w.heap.size ≤ gb369)); have n5_ := Aside0.mk ((by rw [hg]; exact (below_size (bwt HB)) : w.heap.size ≤ gb369)); have n6_ := nlt_ BK364 hg; have n7_ := ngt_ BK364 hg; have n8_ := nlt_ BK365 hg; have n9_ := ngt_ BK365 hg; clear BK364; clear BK365; clear HB; have BK364 := n0_; have BK365 := n1_; have HB := n2_; have BK369 := n3_; have GW369 := n4_; have GE369 := n5_; have NB364_369 := n6_; have NB369_364 := n7_; have NB365_369 := n8_; have NB369_365 := n9_; clear n0_ n1_ n2_ n3_ n4_ n5_ n6_ n7_ n8_ n9_; clear hb hbox hg; have hnb18 := NB369_364.out; have hnc18 := NB364_369.out; have hnb19 := NB369_365.out; have hnc19 := NB365_369.out; have hcz20_0 : w17.cell? ⟨gb369, 0, none⟩ = some (.int .i64 0) := bc BK369 0; have hcz20_1 : w17.cell? ⟨gb369, 1, none⟩ = some (.int .i64 0) := bc BK369 1; have hfz20_0 := blk_frozen BK369.out 0; have hfz20_1 := blk_frozen BK369.out 1; have hcz21_0 : w17.cell? ⟨gb364, 0, none⟩ = some (.int .i64 a0_0) := bc BK364 0; have hcz21_1 : w17.cell? ⟨gb364, 1, none⟩ = some (.int .i64 a0_1) := bc BK364 1; have hcz21_2 : w17.cell? ⟨gb364, 2, none⟩ = some (.int .i64 a0_2) := bc BK364 2; have hcz21_3 : w17.cell? ⟨gb364, 3, none⟩ = some (.int .i64 a0_3) := bc BK364 3; have hcz21_4 : w17.cell? ⟨gb364, 4, none⟩ = some (.int .i64 a0_4) := bc BK364 4; have hcz21_5 : w17.cell? ⟨gb364, 5, none⟩ = some (.int .i64 a0_5) := bc BK364 5; have hcz21_6 : w17.cell? ⟨gb364, 6, none⟩ = some (.bool false) := bc BK364 6; have hfz21_0 := blk_frozen BK364.out 0; have hfz21_1 := blk_frozen BK364.out 1; have hfz21_2 := blk_frozen BK364.out 2; have hfz21_3 := blk_frozen BK364.out 3; have hfz21_4 := blk_frozen BK364.out 4; have hfz21_5 := blk_frozen BK364.out 5; have hfz21_6 := blk_frozen BK364.out 6) | ((with_reducible refine gate_callee (f := 29) rfl ?_); refine goesL_ (some 27) rfl rfl Try.func29 (by kernel_rfl) rfl #[.agg #[.int .i64 t366, .int .i64 t367, .int .i64 a0_2, .int .i64 a0_3, .int .i64 a0_4, .int .i64 a0_5, .bool false]] rfl (by (try simp only [List.map_toArray, List.map_cons, List.map_nil]); first | done | rfl | (simp only [List.length_drop, List.length_take]; rfl)) ?_; (with_reducible refine (wireloomref45_InRange.calls t366 t367 a0_2 a0_3 a0_4 a0_5 false t370 _ A11.out).mono ?_); rintro e w22 ⟨rfl, hb⟩; refine ⟨_, rfl, ?_⟩; have n0_ := Aside0.mk (blk_below (g := gb364) (o := .cells #[.int .i64 t366, .int .i64 t367, .int .i64 a0_2, .int .i64 a0_3, .int .i64 a0_4, .int .i64 a0_5, .bool false] 28 (0, 0)) (by (with_reducible repeat refine bp_ ?_); refine blk_put (cs := #[.int .i64 t366, .int .i64 a0_1, .int .i64 a0_2, .int .i64 a0_3, .int .i64 a0_4, .int .i64 a0_5, .bool false]) ?_ 1 _ rfl; (with_reducible repeat refine bp_ ?_); refine blk_put (cs := #[.int .i64 a0_0, .int .i64 a0_1, .int .i64 a0_2, .int .i64 a0_3, .int .i64 a0_4, .int .i64 a0_5, .bool false]) ?_ 0 _ rfl; (with_reducible repeat refine bp_ ?_); refine blk_far ?_ NB364_369.out _; (with_reducible repeat refine bp_ ?_); refine blk_far ?_ NB364_369.out _; (with_reducible repeat refine bp_ ?_); exact BK364.out) hb); have n1_ := Aside0.mk (blk_below (g := gb365) (o := .cells #[.int .i64 0, .int .i64 0, .int .i64 0, .int .i64 0, .int .i64 0, .int .i64 0, .bool false] 28 (0, 0)) (by (with_reducible repeat refine bp_ ?_); refine blk_far ?_ NB365_364.out _; (with_reducible repeat refine bp_ ?_); refine blk_far ?_ NB365_364.out _; (with_reducible repeat refine bp_ ?_); refine blk_far ?_ NB365_369.out _; (with_reducible repeat refine bp_ ?_); refine blk_far ?_ NB365_369.out _; (with_reducible repeat refine bp_ ?_); exact BK365.out) hb); have n2_ := Aside0.mk (blk_below (g := gb369) (o := .cells #[.int .i64 t366, .int .i64 t367] 40 (0, 0)) (by (with_reducible repeat refine bp_ ?_); refine blk_far ?_ NB369_364.out _; (with_reducible repeat refine bp_ ?_); refine blk_far ?_ NB369_364.out _; (with_reducible repeat refine bp_ ?_); refine blk_put (cs := #[.int .i64 t366, .int .i64 0]) ?_ 1 _ rfl; (with_reducible repeat refine bp_ ?_); refine blk_put (cs := #[.int .i64 0, .int .i64 0]) ?_ 0 _ rfl; (with_reducible repeat refine bp_ ?_); exact BK369.out) hb); have n3_ := Aside0.mk (below_step (by repeat (first | (with_reducible first | exact HB.out | apply below_alloc | apply pw_below_drewN | apply below_drew1 | refine below_set ?_ GE364.out | refine below_set ?_ GE365.out | refine below_set ?_ GE369.out) | exact HB.out)) hb); clear BK364; clear BK365; clear BK369; clear HB; have BK364 := n0_; have BK365 := n1_; have BK369 := n2_; have HB := n3_; clear n0_ n1_ n2_ n3_; (try clear hb); (try clear hb2); (try clear hk); (try clear hi); have hcz23_0 : w22.cell? ⟨gb364, 0, none⟩ = some (.int .i64 t366) := bc BK364 0; have hcz23_1 : w22.cell? ⟨gb364, 1, none⟩ = some (.int .i64 t367) := bc BK364 1; have hcz23_2 : w22.cell? ⟨gb364, 2, none⟩ = some (.int .i64 a0_2) := bc BK364 2; have hcz23_3 : w22.cell? ⟨gb364, 3, none⟩ = some (.int .i64 a0_3) := bc BK364 3; have hcz23_4 : w22.cell? ⟨gb364, 4, none⟩ = some (.int .i64 a0_4) := bc BK364 4; have hcz23_5 : w22.cell? ⟨gb364, 5, none⟩ = some (.int .i64 a0_5) := bc BK364 5; have hcz23_6 : w22.cell? ⟨gb364, 6, none⟩ = some (.bool false) := bc BK364 6; have hfz23_0 := blk_frozen BK364.out 0; have hfz23_1 := blk_frozen BK364.out 1; have hfz23_2 := blk_frozen BK364.out 2; have hfz23_3 := blk_frozen BK364.out 3; have hfz23_4 := blk_frozen BK364.out 4; have hfz23_5 := blk_frozen BK364.out 5; have hfz23_6 := blk_frozen BK364.out 6; have hcz24_0 : w22.cell? ⟨gb365, 0, none⟩ = some (.int .i64 0) := bc BK365 0; have hcz24_1 : w22.cell? ⟨gb365, 1, none⟩ = some (.int .i64 0) := bc BK365 1; have hcz24_2 : w22.cell? ⟨gb365, 2, none⟩ = some (.int .i64 0) := bc BK365 2; have hcz24_3 : w22.cell? ⟨gb365, 3, none⟩ = some (.int .i64 0) := bc BK365 3; have hcz24_4 : w22.cell? ⟨gb365, 4, none⟩ = some (.int .i64 0) := bc BK365 4; have hcz24_5 : w22.cell? ⟨gb365, 5, none⟩ = some (.int .i64 0) := bc BK365 5; have hcz24_6 : w22.cell? ⟨gb365, 6, none⟩ = some (.bool false) := bc BK365 6; have hfz24_0 := blk_frozen BK365.out 0; have hfz24_1 := blk_frozen BK365.out 1; have hfz24_2 := blk_frozen BK365.out 2; have hfz24_3 := blk_frozen BK365.out 3; have hfz24_4 := blk_frozen BK365.out 4; have hfz24_5 := blk_frozen BK365.out 5; have hfz24_6 := blk_frozen BK365.out 6))
      refine bodyPost_ret (results_cell_row rfl _ _ gb365 28 #[.int .i64 t366, .int .i64 t367, .int .i64 a0_2, .int .i64 a0_3, .int .i64 a0_4, .int .i64 a0_5, .bool (!t370)] (0, 0) _ rfl (by (with_reducible repeat refine bp_ ?_); refine blk_put (cs := #[.int .i64 t366, .int .i64 t367, .int .i64 a0_2, .int .i64 a0_3, .int .i64 a0_4, .int .i64 a0_5, .bool false]) ?_ 6 _ rfl; (with_reducible repeat refine bp_ ?_); refine blk_put (cs := #[.int .i64 t366, .int .i64 t367, .int .i64 a0_2, .int .i64 a0_3, .int .i64 a0_4, .int .i64 0, .bool false]) ?_ 5 _ rfl; (with_reducible repeat refine bp_ ?_); refine blk_put (cs := #[.int .i64 t366, .int .i64 t367, .int .i64 a0_2, .int .i64 a0_3, .int .i64 0, .int .i64 0, .bool false]) ?_ 4 _ rfl; (with_reducible repeat refine bp_ ?_); refine blk_put (cs := #[.int .i64 t366, .int .i64 t367, .int .i64 a0_2, .int .i64 0, .int .i64 0, .int .i64 0, .bool false]) ?_ 3 _ rfl; (with_reducible repeat refine bp_ ?_); refine blk_put (cs := #[.int .i64 t366, .int .i64 t367, .int .i64 0, .int .i64 0, .int .i64 0, .int .i64 0, .bool false]) ?_ 2 _ rfl; (with_reducible repeat refine bp_ ?_); refine blk_put (cs := #[.int .i64 t366, .int .i64 0, .int .i64 0, .int .i64 0, .int .i64 0, .int .i64 0, .bool false]) ?_ 1 _ rfl; (with_reducible repeat refine bp_ ?_); refine blk_put (cs := #[.int .i64 0, .int .i64 0, .int .i64 0, .int .i64 0, .int .i64 0, .int .i64 0, .bool false]) ?_ 0 _ rfl; (with_reducible repeat refine bp_ ?_); refine blk_far ?_ NB365_364.out _; (with_reducible repeat refine bp_ ?_); exact BK365.out) Try.underlying28 rfl (by kernel_rfl)) rfl ?_
      exact ⟨by first | rfl | (simp [errW_none, errW_some] <;> rfl) | (simp [*, errW_none, errW_some] <;> rfl), by repeat (first | (with_reducible first | exact HB.out | apply below_alloc | apply pw_below_drewN | apply below_drew1 | refine below_set ?_ GE364.out | refine below_set ?_ GE365.out | refine below_set ?_ GE369.out) | exact HB.out)⟩
    · replace c10 := Bool.eq_false_iff.mpr c10
      subst c10
      have H1 : (some (a0_0, a0_1, a0_2, a0_3, a0_4, a0_5, true)) = some (r1, r2, r3, r4, r5, r6, r7) := by rw [if_neg (show ¬ (false = true) by decide)] at H; exact H
      clear H
      have H := H1
      clear H1
      simp only [Option.some.injEq, Prod.mk.injEq] at H
      obtain ⟨rfl, rfl, rfl, rfl, rfl, rfl, rfl⟩ := H
      go_enter Try.func15, Try.ntmps15
      go_wp2_with (first | ((with_reducible refine gate_dst (N := 2) rfl ?_); refine box_event ?hg (N := 2) ?hd (cs := #[.int .i64 a0_0, .int .i64 a0_1, .int .i64 a0_2, .int .i64 a0_3, .int .i64 a0_4, .int .i64 a0_5, .bool false]) (t := 28) ?hr ?_; (case hd => rfl); (case hg => rfl); (case hr => first | (go_simp; done) | (go_simp; rfl)); intro gb364 hg w25 hbox hb; have n0_ := Aside0.mk (below_step (by repeat (first | (with_reducible first | exact HB.out | apply below_alloc | apply pw_below_drewN | apply below_drew1) | exact HB.out)) hb); have n1_ := Aside0.mk (hbox); have n2_ := Aside0.mk ((by rw [hg]; exact (below_size (by repeat (first | (with_reducible first | exact HB.out | apply below_alloc | apply pw_below_drewN | apply below_drew1) | exact HB.out))) : w.heap.size ≤ gb364)); have n3_ := Aside0.mk ((by rw [hg]; exact (below_size (by repeat (first | (with_reducible first | exact HB.out | apply below_alloc | apply pw_below_drewN | apply below_drew1) | exact HB.out))) : w.heap.size ≤ gb364)); clear HB; have HB := n0_; have BK364 := n1_; have GW364 := n2_; have GE364 := n3_; clear n0_ n1_ n2_ n3_; clear hb hbox hg) | ((with_reducible refine gate_dst (N := 4) rfl ?_); refine box_event ?hg (N := 4) ?hd (cs := #[.int .i64 0, .int .i64 0, .int .i64 0, .int .i64 0, .int .i64 0, .int .i64 0, .bool false]) (t := 28) ?hr ?_; (case hd => rfl); (case hg => rfl); (case hr => first | (go_simp; done) | (go_simp; rfl)); intro gb365 hg w26 hbox hb; have n0_ := bxb BK364 hb; have n1_ := Aside0.mk (below_step (bwt HB) hb); have n2_ := Aside0.mk (hbox); have n3_ := Aside0.mk ((by rw [hg]; exact (below_size (bwt HB)) : w.heap.size ≤ gb365)); have n4_ := Aside0.mk ((by rw [hg]; exact (below_size (bwt HB)) : w.heap.size ≤ gb365)); have n5_ := nlt_ BK364 hg; have n6_ := ngt_ BK364 hg; clear BK364; clear HB; have BK364 := n0_; have HB := n1_; have BK365 := n2_; have GW365 := n3_; have GE365 := n4_; have NB364_365 := n5_; have NB365_364 := n6_; clear n0_ n1_ n2_ n3_ n4_ n5_ n6_; clear hb hbox hg; have hnb27 := NB364_365.out; have hnc27 := NB365_364.out; have hcz28_0 : w26.cell? ⟨gb364, 0, none⟩ = some (.int .i64 a0_0) := bc BK364 0; have hcz28_1 : w26.cell? ⟨gb364, 1, none⟩ = some (.int .i64 a0_1) := bc BK364 1; have hcz28_2 : w26.cell? ⟨gb364, 2, none⟩ = some (.int .i64 a0_2) := bc BK364 2; have hcz28_3 : w26.cell? ⟨gb364, 3, none⟩ = some (.int .i64 a0_3) := bc BK364 3; have hcz28_4 : w26.cell? ⟨gb364, 4, none⟩ = some (.int .i64 a0_4) := bc BK364 4; have hcz28_5 : w26.cell? ⟨gb364, 5, none⟩ = some (.int .i64 a0_5) := bc BK364 5; have hcz28_6 : w26.cell? ⟨gb364, 6, none⟩ = some (.bool false) := bc BK364 6; have hfz28_0 := blk_frozen BK364.out 0; have hfz28_1 := blk_frozen BK364.out 1; have hfz28_2 := blk_frozen BK364.out 2; have hfz28_3 := blk_frozen BK364.out 3; have hfz28_4 := blk_frozen BK364.out 4; have hfz28_5 := blk_frozen BK364.out 5; have hfz28_6 := blk_frozen BK364.out 6) | ((with_reducible refine gate_callee (f := 31) rfl ?_); refine goesL_ (some 13) rfl rfl Try.func31 (by kernel_rfl) rfl #[.agg #[.int .i64 a0_0, .int .i64 a0_1, .int .i64 a0_2, .int .i64 a0_3, .int .i64 a0_4, .int .i64 a0_5, .bool false], .int .i64 a1] rfl (by (try simp only [List.map_toArray, List.map_cons, List.map_nil]); first | done | rfl | (simp only [List.length_drop, List.length_take]; rfl)) ?_; (with_reducible refine (wireloomref45_seen.calls a0_0 a0_1 a0_2 a0_3 a0_4 a0_5 false a1 t366 t367 false _ A9.out).mono ?_); rintro e w29 ⟨rfl, hb⟩; refine ⟨_, rfl, ?_⟩; have n0_ := bxb BK364 hb; have n1_ := bxb BK365 hb; have n2_ := Aside0.mk (below_step (bwt HB) hb); clear BK364; clear BK365; clear HB; have BK364 := n0_; have BK365 := n1_; have HB := n2_; clear n0_ n1_ n2_; (try clear hb); (try clear hb2); (try clear hk); (try clear hi)) | ((with_reducible refine gate_dst (N := 5) rfl ?_); refine box_event ?hg (N := 5) ?hd (cs := #[.int .i64 0, .int .i64 0]) (t := 40) ?hr ?_; (case hd => rfl); (case hg => rfl); (case hr => first | (go_simp; done) | (go_simp; rfl)); intro gb369 hg w30 hbox hb; have n0_ := bxb BK364 hb; have n1_ := bxb BK365 hb; have n2_ := Aside0.mk (below_step (bwt HB) hb); have n3_ := Aside0.mk (hbox); have n4_ := Aside0.mk ((by rw [hg]; exact (below_size (bwt HB)) : w.heap.size ≤ gb369)); have n5_ := Aside0.mk ((by rw [hg]; exact (below_size (bwt HB)) : w.heap.size ≤ gb369)); have n6_ := nlt_ BK364 hg; have n7_ := ngt_ BK364 hg; have n8_ := nlt_ BK365 hg; have n9_ := ngt_ BK365 hg; clear BK364; clear BK365; clear HB; have BK364 := n0_; have BK365 := n1_; have HB := n2_; have BK369 := n3_; have GW369 := n4_; have GE369 := n5_; have NB364_369 := n6_; have NB369_364 := n7_; have NB365_369 := n8_; have NB369_365 := n9_; clear n0_ n1_ n2_ n3_ n4_ n5_ n6_ n7_ n8_ n9_; clear hb hbox hg; have hnb31 := NB369_364.out; have hnc31 := NB364_369.out; have hnb32 := NB369_365.out; have hnc32 := NB365_369.out; have hcz33_0 : w30.cell? ⟨gb369, 0, none⟩ = some (.int .i64 0) := bc BK369 0; have hcz33_1 : w30.cell? ⟨gb369, 1, none⟩ = some (.int .i64 0) := bc BK369 1; have hfz33_0 := blk_frozen BK369.out 0; have hfz33_1 := blk_frozen BK369.out 1; have hcz34_0 : w30.cell? ⟨gb364, 0, none⟩ = some (.int .i64 a0_0) := bc BK364 0; have hcz34_1 : w30.cell? ⟨gb364, 1, none⟩ = some (.int .i64 a0_1) := bc BK364 1; have hcz34_2 : w30.cell? ⟨gb364, 2, none⟩ = some (.int .i64 a0_2) := bc BK364 2; have hcz34_3 : w30.cell? ⟨gb364, 3, none⟩ = some (.int .i64 a0_3) := bc BK364 3; have hcz34_4 : w30.cell? ⟨gb364, 4, none⟩ = some (.int .i64 a0_4) := bc BK364 4; have hcz34_5 : w30.cell? ⟨gb364, 5, none⟩ = some (.int .i64 a0_5) := bc BK364 5; have hcz34_6 : w30.cell? ⟨gb364, 6, none⟩ = some (.bool false) := bc BK364 6; have hfz34_0 := blk_frozen BK364.out 0; have hfz34_1 := blk_frozen BK364.out 1; have hfz34_2 := blk_frozen BK364.out 2; have hfz34_3 := blk_frozen BK364.out 3; have hfz34_4 := blk_frozen BK364.out 4; have hfz34_5 := blk_frozen BK364.out 5; have hfz34_6 := blk_frozen BK364.out 6; have hcz35_0 : w30.cell? ⟨gb365, 0, none⟩ = some (.int .i64 0) := bc BK365 0; have hcz35_1 : w30.cell? ⟨gb365, 1, none⟩ = some (.int .i64 0) := bc BK365 1; have hcz35_2 : w30.cell? ⟨gb365, 2, none⟩ = some (.int .i64 0) := bc BK365 2; have hcz35_3 : w30.cell? ⟨gb365, 3, none⟩ = some (.int .i64 0) := bc BK365 3; have hcz35_4 : w30.cell? ⟨gb365, 4, none⟩ = some (.int .i64 0) := bc BK365 4; have hcz35_5 : w30.cell? ⟨gb365, 5, none⟩ = some (.int .i64 0) := bc BK365 5; have hcz35_6 : w30.cell? ⟨gb365, 6, none⟩ = some (.bool false) := bc BK365 6; have hfz35_0 := blk_frozen BK365.out 0; have hfz35_1 := blk_frozen BK365.out 1; have hfz35_2 := blk_frozen BK365.out 2; have hfz35_3 := blk_frozen BK365.out 3; have hfz35_4 := blk_frozen BK365.out 4; have hfz35_5 := blk_frozen BK365.out 5; have hfz35_6 := blk_frozen BK365.out 6))
      refine bodyPost_ret (results_cell_row rfl _ _ gb365 28 #[.int .i64 a0_0, .int .i64 a0_1, .int .i64 a0_2, .int .i64 a0_3, .int .i64 a0_4, .int .i64 a0_5, .bool true] (0, 0) _ rfl (by (with_reducible repeat refine bp_ ?_); refine blk_put (cs := #[.int .i64 a0_0, .int .i64 a0_1, .int .i64 a0_2, .int .i64 a0_3, .int .i64 a0_4, .int .i64 a0_5, .bool false]) ?_ 6 _ rfl; (with_reducible repeat refine bp_ ?_); refine blk_put (cs := #[.int .i64 a0_0, .int .i64 a0_1, .int .i64 a0_2, .int .i64 a0_3, .int .i64 a0_4, .int .i64 0, .bool false]) ?_ 5 _ rfl; (with_reducible repeat refine bp_ ?_); refine blk_put (cs := #[.int .i64 a0_0, .int .i64 a0_1, .int .i64 a0_2, .int .i64 a0_3, .int .i64 0, .int .i64 0, .bool false]) ?_ 4 _ rfl; (with_reducible repeat refine bp_ ?_); refine blk_put (cs := #[.int .i64 a0_0, .int .i64 a0_1, .int .i64 a0_2, .int .i64 0, .int .i64 0, .int .i64 0, .bool false]) ?_ 3 _ rfl; (with_reducible repeat refine bp_ ?_); refine blk_put (cs := #[.int .i64 a0_0, .int .i64 a0_1, .int .i64 0, .int .i64 0, .int .i64 0, .int .i64 0, .bool false]) ?_ 2 _ rfl; (with_reducible repeat refine bp_ ?_); refine blk_put (cs := #[.int .i64 a0_0, .int .i64 0, .int .i64 0, .int .i64 0, .int .i64 0, .int .i64 0, .bool false]) ?_ 1 _ rfl; (with_reducible repeat refine bp_ ?_); refine blk_put (cs := #[.int .i64 0, .int .i64 0, .int .i64 0, .int .i64 0, .int .i64 0, .int .i64 0, .bool false]) ?_ 0 _ rfl; (with_reducible repeat refine bp_ ?_); refine blk_far ?_ NB365_364.out _; (with_reducible repeat refine bp_ ?_); refine blk_far ?_ NB365_369.out _; (with_reducible repeat refine bp_ ?_); refine blk_far ?_ NB365_369.out _; (with_reducible repeat refine bp_ ?_); exact BK365.out) Try.underlying28 rfl (by kernel_rfl)) rfl ?_
      exact ⟨by first | rfl | (simp [errW_none, errW_some] <;> rfl) | (simp [*, errW_none, errW_some] <;> rfl), by repeat (first | (with_reducible first | exact HB.out | apply below_alloc | apply pw_below_drewN | apply below_drew1 | refine below_set ?_ GE364.out | refine below_set ?_ GE365.out | refine below_set ?_ GE369.out) | exact HB.out)⟩

end Go.Proofs.Ytlofmgdjnaajjaa.Q

