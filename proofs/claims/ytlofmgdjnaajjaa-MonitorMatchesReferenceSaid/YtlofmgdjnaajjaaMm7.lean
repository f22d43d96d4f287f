/- Own text, packed by pack.py, part 7: words, functions with their walks, plain lemmas. -/
import Derived.Deep.Slices
import Derived.OpenShut
import Derived.WideShapes
import Derived.KernelRfl
import Derived.Test.YtlofmgdjnaajjaaMm6
namespace Go.Proofs.Ytlofmgdjnaajjaa.Q
open Go.RowKit Go.Proofs.YtlofmgdjnaajjaaW.PrintWords Go.Proofs.YtlofmgdjnaajjaaW.PrintLast Go.Proofs.YtlofmgdjnaajjaaW.PrintMore
attribute [local go_sem] run_makeFunc_own max2_int min2_int max_two min_two max_three min_three max_four min_four   -- for this text's walks alone
set_option linter.unusedVariables false
set_option linter.unusedSimpArgs false

attribute [local go_sem high] eqA28 eqA34 eqA40
/-! ### wireloomlaw45_MonitorMatchesReference: function 3 -/
mutual
def wireloomlaw45_MonitorMatchesReference.j0 : Nat → Int → Bool → Bool → Int → Int → Int → Int → Int → Int → Bool → Int → Int → Int → Int → Int → Int → Bool → Option (Bool)
  | 0, _, _, _, _, _, _, _, _, _, _, _, _, _, _, _, _, _ => none
  | k + 1, x2, x7, x33, x384000, x384001, x384002, x384003, x384004, x384005, x384006, x393000, x393001, x393002, x393003, x393004, x393005, x393006 => if x33 = true then (some false) else ((wireloomref45_See.f x393000 x393001 x393002 x393003 x393004 x393005 x393006 x2).bind fun bt412 => ((wireloomref45_Miss.f x393000 x393001 x393002 x393003 x393004 x393005 x393006).bind fun bt419 => ((some (([(⟨x393000, x393001, x393002, x393003, x393004, x393005, x393006⟩ : S28), (⟨bt412.1, bt412.2.1, bt412.2.2.1, bt412.2.2.2.1, bt412.2.2.2.2.1, bt412.2.2.2.2.2.1, bt412.2.2.2.2.2.2⟩ : S28), (⟨bt419.1, bt419.2.1, bt419.2.2.1, bt419.2.2.2.1, bt419.2.2.2.2.1, bt419.2.2.2.2.2.1, bt419.2.2.2.2.2.2⟩ : S28)] : List (S28)) : List (S28))).bind fun y426 => ((wireloomref45_Valid.f k x384000 x384001 x384002 x384003 x384004 x384005 x384006).bind fun t429 => (if t429 = true then (if y426.length < 2513169434916 then (wireloomlaw45_MonitorMatchesReference.j1 k x2 x7 (y426 ++ [(⟨x384000, x384001, x384002, x384003, x384004, x384005, x384006⟩ : S28)])) else (none)) else (wireloomlaw45_MonitorMatchesReference.j1 k x2 x7 y426))))))
def wireloomlaw45_MonitorMatchesReference.j1 : Nat → Int → Bool → List (S28) → Option (Bool)
  | 0, _, _, _ => none
  | k + 1, x2, x7, x9 => wireloomlaw45_MonitorMatchesReference.l0 k x2 x7 x9 0
def wireloomlaw45_MonitorMatchesReference.l0 : Nat → Int → Bool → List (S28) → Int → Option (Bool)
  | 0, _, _, _, _ => none
  | k + 1, x2, x7, x9, x10 => if x10 < (x9.length : Int) then (if 0 ≤ x10 then ((wireloomlaw45_outlook.f ((rd_T28 x9 x10).f0) ((rd_T28 x9 x10).f1) ((rd_T28 x9 x10).f2) ((rd_T28 x9 x10).f3) ((rd_T28 x9 x10).f4) ((rd_T28 x9 x10).f5) ((rd_T28 x9 x10).f6)).bind fun bt435 => ((wireloomref45_Outlook.f ((rd_T28 x9 x10).f0) ((rd_T28 x9 x10).f1) ((rd_T28 x9 x10).f2) ((rd_T28 x9 x10).f3) ((rd_T28 x9 x10).f4) ((rd_T28 x9 x10).f5) ((rd_T28 x9 x10).f6)).bind fun bt437 => (if (!(bt435.1 == bt437.1) || (!(bt435.2 == bt437.2))) = true then (some false) else ((monitor_Agrees.f ((rd_T28 x9 x10).f0) ((rd_T28 x9 x10).f1) ((rd_T28 x9 x10).f2) ((rd_T28 x9 x10).f3) ((rd_T28 x9 x10).f4) ((rd_T28 x9 x10).f5) ((rd_T28 x9 x10).f6) x2).bind fun t439 => ((wireloomref45_Agrees.f ((rd_T28 x9 x10).f0) ((rd_T28 x9 x10).f1) ((rd_T28 x9 x10).f2) ((rd_T28 x9 x10).f3) ((rd_T28 x9 x10).f4) ((rd_T28 x9 x10).f5) ((rd_T28 x9 x10).f6) x2).bind fun t440 => (if (t439 != t440) = true then (some false) else ((monitor_See.f ((rd_T28 x9 x10).f0) ((rd_T28 x9 x10).f1) ((rd_T28 x9 x10).f2) ((rd_T28 x9 x10).f3) ((rd_T28 x9 x10).f4) ((rd_T28 x9 x10).f5) ((rd_T28 x9 x10).f6) x2).bind fun bt441 => ((wireloomref45_See.f ((rd_T28 x9 x10).f0) ((rd_T28 x9 x10).f1) ((rd_T28 x9 x10).f2) ((rd_T28 x9 x10).f3) ((rd_T28 x9 x10).f4) ((rd_T28 x9 x10).f5) ((rd_T28 x9 x10).f6) x2).bind fun bt448 => (if (!(bt441.1 == bt448.1) || (!(bt441.2.1 == bt448.2.1) || (!(bt441.2.2.1 == bt448.2.2.1) || (!(bt441.2.2.2.1 == bt448.2.2.2.1) || (!(bt441.2.2.2.2.1 == bt448.2.2.2.2.1) || (!(bt441.2.2.2.2.2.1 == bt448.2.2.2.2.2.1) || (!(bt441.2.2.2.2.2.2 == bt448.2.2.2.2.2.2)))))))) = true then (some false) else ((monitor_Miss.f ((rd_T28 x9 x10).f0) ((rd_T28 x9 x10).f1) ((rd_T28 x9 x10).f2) ((rd_T28 x9 x10).f3) ((rd_T28 x9 x10).f4) ((rd_T28 x9 x10).f5) ((rd_T28 x9 x10).f6)).bind fun bt455 => ((wireloomref45_Miss.f ((rd_T28 x9 x10).f0) ((rd_T28 x9 x10).f1) ((rd_T28 x9 x10).f2) ((rd_T28 x9 x10).f3) ((rd_T28 x9 x10).f4) ((rd_T28 x9 x10).f5) ((rd_T28 x9 x10).f6)).bind fun bt462 => (if (!(bt455.1 == bt462.1) || (!(bt455.2.1 == bt462.2.1) || (!(bt455.2.2.1 == bt462.2.2.1) || (!(bt455.2.2.2.1 == bt462.2.2.2.1) || (!(bt455.2.2.2.2.1 == bt462.2.2.2.2.1) || (!(bt455.2.2.2.2.2.1 == bt462.2.2.2.2.2.1) || (!(bt455.2.2.2.2.2.2 == bt462.2.2.2.2.2.2)))))))) = true then (some false) else ((monitor_See.f ((rd_T28 x9 x10).f0) ((rd_T28 x9 x10).f1) ((rd_T28 x9 x10).f2) ((rd_T28 x9 x10).f3) ((rd_T28 x9 x10).f4) ((rd_T28 x9 x10).f5) ((rd_T28 x9 x10).f6) x2).bind fun bt469 => ((monitor_Valid.f bt469.1 bt469.2.1 bt469.2.2.1 bt469.2.2.2.1 bt469.2.2.2.2.1 bt469.2.2.2.2.2.1 bt469.2.2.2.2.2.2).bind fun t476 => (if t476 = true then ((monitor_Miss.f ((rd_T28 x9 x10).f0) ((rd_T28 x9 x10).f1) ((rd_T28 x9 x10).f2) ((rd_T28 x9 x10).f3) ((rd_T28 x9 x10).f4) ((rd_T28 x9 x10).f5) ((rd_T28 x9 x10).f6)).bind fun bt477 => ((monitor_Valid.f bt477.1 bt477.2.1 bt477.2.2.1 bt477.2.2.2.1 bt477.2.2.2.2.1 bt477.2.2.2.2.2.1 bt477.2.2.2.2.2.2).bind fun t484 => (if t484 = true then (wireloomlaw45_MonitorMatchesReference.l0 k x2 x7 x9 (wrap64 (x10 + 1))) else (some false)))) else (some false)))))))))))))))) else (none)) else (some x7)
end
def wireloomlaw45_MonitorMatchesReference.f (k : Nat) (a0_0 : Int) (a0_1 : Int) (a0_2 : Int) (a0_3 : Int) (l0_4 : List Int) (a0_5 : Int) (a0_6 : Int) (a1_0 : Int) (a1_1 : Int) (a1_2 : Int) (a1_3 : Int) (a1_4 : Int) (a1_5 : Int) (a1_6 : Bool) (a2 : Int) : Option (Bool) := (wireloomlaw45_examples.f).bind fun t384 => (if t384 = true then ((wireloomref45_Made.f k a0_0 a0_1 a0_2 a0_3 l0_4 a0_5 a0_6).bind fun bt385 => ((monitor_Valid.f a1_0 a1_1 a1_2 a1_3 a1_4 a1_5 a1_6).bind fun t393 => ((wireloomref45_Valid.f k a1_0 a1_1 a1_2 a1_3 a1_4 a1_5 a1_6).bind fun t394 => (if (t393 != t394) = true then (wireloomlaw45_MonitorMatchesReference.j0 k a2 t384 true a1_0 a1_1 a1_2 a1_3 a1_4 a1_5 a1_6 bt385.1 bt385.2.1 bt385.2.2.1 bt385.2.2.2.1 bt385.2.2.2.2.1 bt385.2.2.2.2.2.1 bt385.2.2.2.2.2.2) else ((wireloomlaw45_made.f a1_0 a1_1 a1_2 a1_3 a1_4 a1_5 a1_6).bind fun bt395 => ((wireloomref45_NewIn.f k a1_0 a1_1 a1_2 a1_3 a1_4 a1_5 a1_6).bind fun bt403 => (if ((!(bt395.1 == bt403.1) || (!(bt395.2.1 == bt403.2.1) || (!(bt395.2.2.1 == bt403.2.2.1) || (!(bt395.2.2.2.1 == bt403.2.2.2.1) || (!(bt395.2.2.2.2.1 == bt403.2.2.2.2.1) || (!(bt395.2.2.2.2.2.1 == bt403.2.2.2.2.2.1) || (!(bt395.2.2.2.2.2.2.1 == bt403.2.2.2.2.2.2.1)))))))) || (!(bt395.2.2.2.2.2.2.2 == bt403.2.2.2.2.2.2.2))) = true then (wireloomlaw45_MonitorMatchesReference.j0 k a2 t384 true a1_0 a1_1 a1_2 a1_3 a1_4 a1_5 a1_6 bt385.1 bt385.2.1 bt385.2.2.1 bt385.2.2.2.1 bt385.2.2.2.2.1 bt385.2.2.2.2.2.1 bt385.2.2.2.2.2.2) else ((monitor_Valid.f bt385.1 bt385.2.1 bt385.2.2.1 bt385.2.2.2.1 bt385.2.2.2.2.1 bt385.2.2.2.2.2.1 bt385.2.2.2.2.2.2).bind fun t411 => (wireloomlaw45_MonitorMatchesReference.j0 k a2 t384 (!t411) a1_0 a1_1 a1_2 a1_3 a1_4 a1_5 a1_6 bt385.1 bt385.2.1 bt385.2.2.1 bt385.2.2.2.1 bt385.2.2.2.2.1 bt385.2.2.2.2.2.1 bt385.2.2.2.2.2.2))))))))) else (some false))
theorem wireloomlaw45_MonitorMatchesReference.mono_l : ∀ k, (∀ y0 y1 y2 y3 y4 y5 y6 y7 y8 y9 y10 y11 y12 y13 y14 y15 y16, LeO (wireloomlaw45_MonitorMatchesReference.j0 k y0 y1 y2 y3 y4 y5 y6 y7 y8 y9 y10 y11 y12 y13 y14 y15 y16) (wireloomlaw45_MonitorMatchesReference.j0 (k + 1) y0 y1 y2 y3 y4 y5 y6 y7 y8 y9 y10 y11 y12 y13 y14 y15 y16)) ∧ (∀ y0 y1 y2, LeO (wireloomlaw45_MonitorMatchesReference.j1 k y0 y1 y2) (wireloomlaw45_MonitorMatchesReference.j1 (k + 1) y0 y1 y2)) ∧ (∀ y0 y1 y2 y3, LeO (wireloomlaw45_MonitorMatchesReference.l0 k y0 y1 y2 y3) (wireloomlaw45_MonitorMatchesReference.l0 (k + 1) y0 y1 y2 y3))
  | 0 => ⟨fun _ _ _ _ _ _ _ _ _ _ _ _ _ _ _ _ _ r h => by simp [wireloomlaw45_MonitorMatchesReference.j0] at h, fun _ _ _ r h => by simp [wireloomlaw45_MonitorMatchesReference.j1] at h, fun _ _ _ _ r h => by simp [wireloomlaw45_MonitorMatchesReference.l0] at h⟩
  | k + 1 => by
    obtain ⟨ih0, ih1, ih2⟩ := wireloomlaw45_MonitorMatchesReference.mono_l k
    refine ⟨?_, ?_, ?_⟩
    · intro y0 y1 y2 y3 y4 y5 y6 y7 y8 y9 y10 y11 y12 y13 y14 y15 y16
      unfold wireloomlaw45_MonitorMatchesReference.j0
      repeat' first
      | (with_reducible exact ih0 _ _ _ _ _ _ _ _ _ _ _ _ _ _ _ _ _)
      | (with_reducible exact ih1 _ _ _)
      | (with_reducible exact ih2 _ _ _ _)
      | (with_reducible exact wireloomref45_Made.mono _ _ _ _ _ _ _ _)
      | (with_reducible exact wireloomref45_NewIn.mono _ _ _ _ _ _ _ _)
      | (with_reducible exact wireloomref45_Valid.mono _ _ _ _ _ _ _ _)
      | (with_reducible exact LeO.refl _)
      | (with_reducible exact LeO.none _)
      | (with_reducible refine LeO.ite ?_ ?_)
      | (with_reducible refine LeO.bind ?_ (fun _ => ?_))
      | exact ih0 _ _ _ _ _ _ _ _ _ _ _ _ _ _ _ _ _
      | exact ih1 _ _ _
      | exact ih2 _ _ _ _
      | exact wireloomref45_Made.mono _ _ _ _ _ _ _ _
      | exact wireloomref45_NewIn.mono _ _ _ _ _ _ _ _
      | exact wireloomref45_Valid.mono _ _ _ _ _ _ _ _
      | exact LeO.none _
      | refine LeO.ite ?_ ?_
      | refine LeO.bind ?_ (fun _ => ?_)
    · intro y0 y1 y2
      unfold wireloomlaw45_MonitorMatchesReference.j1
      repeat' first
      | (with_reducible exact ih0 _ _ _ _ _ _ _ _ _ _ _ _ _ _ _ _ _)
      | (with_reducible exact ih1 _ _ _)
      | (with_reducible exact ih2 _ _ _ _)
      | (with_reducible exact wireloomref45_Made.mono _ _ _ _ _ _ _ _)
      | (with_reducible exact wireloomref45_NewIn.mono _ _ _ _ _ _ _ _)
      | (with_reducible exact wireloomref45_Valid.mono _ _ _ _ _ _ _ _)
      | (with_reducible exact LeO.refl _)
      | (with_reducible exact LeO.none _)
      | (with_reducible refine LeO.ite ?_ ?_)
      | (with_reducible refine LeO.bind ?_ (fun _ => ?_))
      | exact ih0 _ _ _ _ _ _ _ _ _ _ _ _ _ _ _ _ _
      | exact ih1 _ _ _
      | exact ih2 _ _ _ _
      | exact wireloomref45_Made.mono _ _ _ _ _ _ _ _
      | exact wireloomref45_NewIn.mono _ _ _ _ _ _ _ _
      | exact wireloomref45_Valid.mono _ _ _ _ _ _ _ _
      | exact LeO.none _
      | refine LeO.ite ?_ ?_
      | refine LeO.bind ?_ (fun _ => ?_)
    · intro y0 y1 y2 y3
      unfold wireloomlaw45_MonitorMatchesReference.l0
      repeat' first
      | (with_reducible exact ih0 _ _ _ _ _ _ _ _ _ _ _ _ _ _ _ _ _)
      | (with_reducible exact ih1 _ _ _)
      | (with_reducible exact ih2 _ _ _ _)
      | (with_reducible exact wireloomref45_Made.mono _ _ _ _ _ _ _ _)
      | (with_reducible exact wireloomref45_NewIn.mono _ _ _ _ _ _ _ _)
      | (with_reducible exact wireloomref45_Valid.mono _ _ _ _ _ _ _ _)
      | (with_reducible exact LeO.refl _)
      | (with_reducible exact LeO.none _)
      | (with_reducible refine LeO.ite ?_ ?_)
      | (with_reducible refine LeO.bind ?_ (fun _ => ?_))
      | exact ih0 _ _ _ _ _ _ _ _ _ _ _ _ _ _ _ _ _
      | exact ih1 _ _ _
      | exact ih2 _ _ _ _
      | exact wireloomref45_Made.mono _ _ _ _ _ _ _ _
      | exact wireloomref45_NewIn.mono _ _ _ _ _ _ _ _
      | exact wireloomref45_Valid.mono _ _ _ _ _ _ _ _
      | exact LeO.none _
      | refine LeO.ite ?_ ?_
      | refine LeO.bind ?_ (fun _ => ?_)
theorem wireloomlaw45_MonitorMatchesReference.mono : ∀ a0 a1 a2 a3 a4 a5 a6 a7 a8 a9 a10 a11 a12 a13 a14 k, LeO (wireloomlaw45_MonitorMatchesReference.f k a0 a1 a2 a3 a4 a5 a6 a7 a8 a9 a10 a11 a12 a13 a14) (wireloomlaw45_MonitorMatchesReference.f (k + 1) a0 a1 a2 a3 a4 a5 a6 a7 a8 a9 a10 a11 a12 a13 a14) := by
  intro a0 a1 a2 a3 a4 a5 a6 a7 a8 a9 a10 a11 a12 a13 a14 k
  obtain ⟨ih0, ih1, ih2⟩ := wireloomlaw45_MonitorMatchesReference.mono_l k
  unfold wireloomlaw45_MonitorMatchesReference.f
  repeat' first
      | (with_reducible exact ih0 _ _ _ _ _ _ _ _ _ _ _ _ _ _ _ _ _)
      | (with_reducible exact ih1 _ _ _)
      | (with_reducible exact ih2 _ _ _ _)
      | (with_reducible exact wireloomref45_Made.mono _ _ _ _ _ _ _ _)
      | (with_reducible exact wireloomref45_NewIn.mono _ _ _ _ _ _ _ _)
      | (with_reducible exact wireloomref45_Valid.mono _ _ _ _ _ _ _ _)
      | (with_reducible exact LeO.refl _)
      | (with_reducible exact LeO.none _)
      | (with_reducible refine LeO.ite ?_ ?_)
      | (with_reducible refine LeO.bind ?_ (fun _ => ?_))
      | exact ih0 _ _ _ _ _ _ _ _ _ _ _ _ _ _ _ _ _
      | exact ih1 _ _ _
      | exact ih2 _ _ _ _
      | exact wireloomref45_Made.mono _ _ _ _ _ _ _ _
      | exact wireloomref45_NewIn.mono _ _ _ _ _ _ _ _
      | exact wireloomref45_Valid.mono _ _ _ _ _ _ _ _
      | exact LeO.none _
      | refine LeO.ite ?_ ?_
      | refine LeO.bind ?_ (fun _ => ?_)
def wireloomlaw45_MonitorMatchesReference.T5 : Bool × List (List Nat × List Nat) := (true, [([], []), ([0], [0]), ([], []), ([2, 1], [2]), ([1, 3], [1, 3]), ([4, 3], [4]), ([5], [5]), ([6, 5, 5], [5, 6]), ([5], [5]), ([8, 7, 5], [5, 8]), ([7, 9, 5], [5, 7, 9]), ([5, 10], [5, 10]), ([11, 9], [11]), ([12], [12]), ([13, 12, 12], [12, 13]), ([14, 12], [12, 14]), ([12, 15], [12, 15])])
def wireloomlaw45_MonitorMatchesReference.B5 : List Nat := [0, 1, 0, 7, 15, 31, 63, 127, 63, 511, 1023, 2047, 4095, 8191, 16383, 32767, 65535]
theorem wireloomlaw45_MonitorMatchesReference.tab5 : rtab .any (opsOf Try.f3 5) = wireloomlaw45_MonitorMatchesReference.T5 := by kernel_rfl
theorem wireloomlaw45_MonitorMatchesReference.bits5 : waitsOk wireloomlaw45_MonitorMatchesReference.T5.2 wireloomlaw45_MonitorMatchesReference.B5 = true := by kernel_rfl
def wireloomlaw45_MonitorMatchesReference.T7 : Bool × List (List Nat × List Nat) := (true, [([], []), ([], []), ([], []), ([1, 2], [1, 2]), ([], []), ([4, 3], [4]), ([0, 3, 5], [0, 3, 5]), ([6, 5, 0, 1, 2, 3, 4, 5, 6], [6])])
def wireloomlaw45_MonitorMatchesReference.B7 : List Nat := [0, 0, 0, 6, 0, 30, 63, 127]
theorem wireloomlaw45_MonitorMatchesReference.tab7 : rtab .any (opsOf Try.f3 7) = wireloomlaw45_MonitorMatchesReference.T7 := by kernel_rfl
theorem wireloomlaw45_MonitorMatchesReference.bits7 : waitsOk wireloomlaw45_MonitorMatchesReference.T7.2 wireloomlaw45_MonitorMatchesReference.B7 = true := by kernel_rfl
def wireloomlaw45_MonitorMatchesReference.T14 : Bool × List (List Nat × List Nat) := (true, [([], []), ([0], [0]), ([], []), ([2, 1], [2]), ([1, 3], [1, 3]), ([4, 3], [4]), ([5], [5]), ([5], [5]), ([6, 7, 5, 5], [5, 6, 7]), ([5], [5]), ([5], [5]), ([9, 10, 8, 5], [5, 9, 10]), ([8, 11, 5], [5, 8, 11]), ([5, 12], [5, 12]), ([13, 11], [13]), ([14], [14]), ([14], [14]), ([15, 16, 14, 14], [14, 15, 16]), ([14], [14]), ([14], [14]), ([18, 19, 17, 14], [14, 18, 19]), ([17, 20, 14], [14, 17, 20]), ([14, 21], [14, 21]), ([22, 20], [22]), ([23], [23]), ([24, 23, 23], [23, 24]), ([23], [23]), ([26, 25, 23], [23, 26]), ([25, 27, 23], [23, 25, 27]), ([23, 28], [23, 28]), ([29, 27], [29]), ([30], [30]), ([30], [30]), ([31, 32, 30, 30], [30, 31, 32]), ([33, 33, 30], [30, 33]), ([34, 30], [30, 34]), ([30, 35], [30, 35]), ([36, 34], [36]), ([37], [37]), ([38, 37, 37], [37, 38]), ([39, 39, 37], [37, 39]), ([40, 37], [37, 40]), ([37, 41], [37, 41])])
def wireloomlaw45_MonitorMatchesReference.B14 : List Nat := [0, 1, 0, 7, 15, 31, 63, 63, 255, 63, 63, 2047, 4095, 8191, 16383, 32767, 32767, 131071, 32767, 32767, 1048575, 2097151, 4194303, 8388607, 16777215, 33554431, 16777215, 134217727, 268435455, 536870911, 1073741823, 2147483647, 2147483647, 8589934591, 17179869183, 34359738367, 68719476735, 137438953471, 274877906943, 549755813887, 1099511627775, 2199023255551, 4398046511103]
theorem wireloomlaw45_MonitorMatchesReference.tab14 : rtab .any (opsOf Try.f3 14) = wireloomlaw45_MonitorMatchesReference.T14 := by kernel_rfl
theorem wireloomlaw45_MonitorMatchesReference.bits14 : waitsOk wireloomlaw45_MonitorMatchesReference.T14.2 wireloomlaw45_MonitorMatchesReference.B14 = true := by kernel_rfl
set_option maxHeartbeats 8000000 in
set_option maxRecDepth 100000 in
theorem wireloomlaw45_MonitorMatchesReference.calls (k : Nat) (a0_0 : Int) (a0_1 : Int) (a0_2 : Int) (a0_3 : Int) (A0_4 : Option Addr) (c0_4 : Nat) (l0_4 : List Int) (a0_5 : Int) (a0_6 : Int) (a1_0 : Int) (a1_1 : Int) (a1_2 : Int) (a1_3 : Int) (a1_4 : Int) (a1_5 : Int) (a1_6 : Bool) (a2 : Int) (r : Bool) (w : World) (hr0_4 : Kd.C (Kd.int .u8) w A0_4 l0_4.length l0_4) (hc0_4 : l0_4.length ≤ c0_4) (h : wireloomlaw45_MonitorMatchesReference.f k a0_0 a0_1 a0_2 a0_3 l0_4 a0_5 a0_6 a1_0 a1_1 a1_2 a1_3 a1_4 a1_5 a1_6 a2 = some r) (hrt : r = true) :
    Calls Try.prog 3 #[.agg #[.int .u8 a0_0, .int .u8 a0_1, .int .u8 a0_2, .int .u8 a0_3, .slice A0_4 l0_4.length c0_4, .int .u8 a0_5, .int .u8 a0_6], .agg #[.int .i64 a1_0, .int .i64 a1_1, .int .i64 a1_2, .int .i64 a1_3, .int .i64 a1_4, .int .i64 a1_5, .bool a1_6], .int .i64 a2] w fun e w' => e = .returned (.bool r) ∧ Below w.heap.size w w' := by
  have hu26 := Try.underlying26
  have hu28 := Try.underlying28
  have HR0_4 := Aside0.mk hr0_4
  have HC0_4 := Aside0.mk hc0_4
  clear hr0_4 hc0_4
  have HB := Aside0.mk (Below.refl w.heap.size w)
  have H : ((wireloomlaw45_examples.f).bind fun t384 => (if t384 = true then ((wireloomref45_Made.f k a0_0 a0_1 a0_2 a0_3 l0_4 a0_5 a0_6).bind fun bt385 => ((monitor_Valid.f a1_0 a1_1 a1_2 a1_3 a1_4 a1_5 a1_6).bind fun t393 => ((wireloomref45_Valid.f k a1_0 a1_1 a1_2 a1_3 a1_4 a1_5 a1_6).bind fun t394 => (if (t393 != t394) = true then (wireloomlaw45_MonitorMatchesReference.j0 k a2 t384 true a1_0 a1_1 a1_2 a1_3 a1_4 a1_5 a1_6 bt385.1 bt385.2.1 bt385.2.2.1 bt385.2.2.2.1 bt385.2.2.2.2.1 bt385.2.2.2.2.2.1 bt385.2.2.2.2.2.2) else ((wireloomlaw45_made.f a1_0 a1_1 a1_2 a1_3 a1_4 a1_5 a1_6).bind fun bt395 => ((wireloomref45_NewIn.f k a1_0 a1_1 a1_2 a1_3 a1_4 a1_5 a1_6).bind fun bt403 => (if ((!(bt395.1 == bt403.1) || (!(bt395.2.1 == bt403.2.1) || (!(bt395.2.2.1 == bt403.2.2.1) || (!(bt395.2.2.2.1 == bt403.2.2.2.1) || (!(bt395.2.2.2.2.1 == bt403.2.2.2.2.1) || (!(bt395.2.2.2.2.2.1 == bt403.2.2.2.2.2.1) || (!(bt395.2.2.2.2.2.2.1 == bt403.2.2.2.2.2.2.1)))))))) || (!(bt395.2.2.2.2.2.2.2 == bt403.2.2.2.2.2.2.2))) = true then (wireloomlaw45_MonitorMatchesReference.j0 k a2 t384 true a1_0 a1_1 a1_2 a1_3 a1_4 a1_5 a1_6 bt385.1 bt385.2.1 bt385.2.2.1 bt385.2.2.2.1 bt385.2.2.2.2.1 bt385.2.2.2.2.2.1 bt385.2.2.2.2.2.2) else ((monitor_Valid.f bt385.1 bt385.2.1 bt385.2.2.1 bt385.2.2.2.1 bt385.2.2.2.2.1 bt385.2.2.2.2.2.1 bt385.2.2.2.2.2.2).bind fun t411 => (wireloomlaw45_MonitorMatchesReference.j0 k a2 t384 (!t411) a1_0 a1_1 a1_2 a1_3 a1_4 a1_5 a1_6 bt385.1 bt385.2.1 bt385.2.2.1 bt385.2.2.2.1 bt385.2.2.2.2.1 bt385.2.2.2.2.2.1 bt385.2.2.2.2.2.2))))))))) else (some false))) = some r := h
  clear h
  have HRT := Aside0.mk hrt
  clear hrt
  replace H := Option.bind_eq_some_iff.mp H
  obtain ⟨t384, A40, H⟩ := H
  replace H : (if t384 = true then ((wireloomref45_Made.f k a0_0 a0_1 a0_2 a0_3 l0_4 a0_5 a0_6).bind fun bt385 => ((monitor_Valid.f a1_0 a1_1 a1_2 a1_3 a1_4 a1_5 a1_6).bind fun t393 => ((wireloomref45_Valid.f k a1_0 a1_1 a1_2 a1_3 a1_4 a1_5 a1_6).bind fun t394 => (if (t393 != t394) = true then (wireloomlaw45_MonitorMatchesReference.j0 k a2 t384 true a1_0 a1_1 a1_2 a1_3 a1_4 a1_5 a1_6 bt385.1 bt385.2.1 bt385.2.2.1 bt385.2.2.2.1 bt385.2.2.2.2.1 bt385.2.2.2.2.2.1 bt385.2.2.2.2.2.2) else ((wireloomlaw45_made.f a1_0 a1_1 a1_2 a1_3 a1_4 a1_5 a1_6).bind fun bt395 => ((wireloomref45_NewIn.f k a1_0 a1_1 a1_2 a1_3 a1_4 a1_5 a1_6).bind fun bt403 => (if ((!(bt395.1 == bt403.1) || (!(bt395.2.1 == bt403.2.1) || (!(bt395.2.2.1 == bt403.2.2.1) || (!(bt395.2.2.2.1 == bt403.2.2.2.1) || (!(bt395.2.2.2.2.1 == bt403.2.2.2.2.1) || (!(bt395.2.2.2.2.2.1 == bt403.2.2.2.2.2.1) || (!(bt395.2.2.2.2.2.2.1 == bt403.2.2.2.2.2.2.1)))))))) || (!(bt395.2.2.2.2.2.2.2 == bt403.2.2.2.2.2.2.2))) = true then (wireloomlaw45_MonitorMatchesReference.j0 k a2 t384 true a1_0 a1_1 a1_2 a1_3 a1_4 a1_5 a1_6 bt385.1 bt385.2.1 bt385.2.2.1 bt385.2.2.2.1 bt385.2.2.2.2.1 bt385.2.2.2.2.2.1 bt385.2.2.2.2.2.2) else ((monitor_Valid.f bt385.1 bt385.2.1 bt385.2.2.1 bt385.2.2.2.1 bt385.2.2.2.2.1 bt385.2.2.2.2.2.1 bt385.2.2.2.2.2.2).bind fun t411 => (wireloomlaw45_MonitorMatchesReference.j0 k a2 t384 (!t411) a1_0 a1_1 a1_2 a1_3 a1_4 a1_5 a1_6 bt385.1 bt385.2.1 bt385.2.2.1 bt385.2.2.2.1 bt385.2.2.2.2.1 bt385.2.2.2.2.2.1 bt385.2.2.2.2.2.2))))))))) else (some false)) = some r := H
  have A4 := Aside0.mk A40
  clear A40
  by_cases c5 : t384 = true
  · subst c5
    have H1 : ((wireloomref45_Made.f k a0_0 a0_1 a0_2 a0_3 l0_4 a0_5 a0_6).bind fun bt385 => ((monitor_Valid.f a1_0 a1_1 a1_2 a1_3 a1_4 a1_5 a1_6).bind fun t393 => ((wireloomref45_Valid.f k a1_0 a1_1 a1_2 a1_3 a1_4 a1_5 a1_6).bind fun t394 => (if (t393 != t394) = true then (wireloomlaw45_MonitorMatchesReference.j0 k a2 true true a1_0 a1_1 a1_2 a1_3 a1_4 a1_5 a1_6 bt385.1 bt385.2.1 bt385.2.2.1 bt385.2.2.2.1 bt385.2.2.2.2.1 bt385.2.2.2.2.2.1 bt385.2.2.2.2.2.2) else ((wireloomlaw45_made.f a1_0 a1_1 a1_2 a1_3 a1_4 a1_5 a1_6).bind fun bt395 => ((wireloomref45_NewIn.f k a1_0 a1_1 a1_2 a1_3 a1_4 a1_5 a1_6).bind fun bt403 => (if ((!(bt395.1 == bt403.1) || (!(bt395.2.1 == bt403.2.1) || (!(bt395.2.2.1 == bt403.2.2.1) || (!(bt395.2.2.2.1 == bt403.2.2.2.1) || (!(bt395.2.2.2.2.1 == bt403.2.2.2.2.1) || (!(bt395.2.2.2.2.2.1 == bt403.2.2.2.2.2.1) || (!(bt395.2.2.2.2.2.2.1 == bt403.2.2.2.2.2.2.1)))))))) || (!(bt395.2.2.2.2.2.2.2 == bt403.2.2.2.2.2.2.2))) = true then (wireloomlaw45_MonitorMatchesReference.j0 k a2 true true a1_0 a1_1 a1_2 a1_3 a1_4 a1_5 a1_6 bt385.1 bt385.2.1 bt385.2.2.1 bt385.2.2.2.1 bt385.2.2.2.2.1 bt385.2.2.2.2.2.1 bt385.2.2.2.2.2.2) else ((monitor_Valid.f bt385.1 bt385.2.1 bt385.2.2.1 bt385.2.2.2.1 bt385.2.2.2.2.1 bt385.2.2.2.2.2.1 bt385.2.2.2.2.2.2).bind fun t411 => (wireloomlaw45_MonitorMatchesReference.j0 k a2 true (!t411) a1_0 a1_1 a1_2 a1_3 a1_4 a1_5 a1_6 bt385.1 bt385.2.1 bt385.2.2.1 bt385.2.2.2.1 bt385.2.2.2.2.1 bt385.2.2.2.2.2.1 bt385.2.2.2.2.2.2))))))))) = some r := by rw [if_pos rfl] at H; exact H
    clear H
    have H := H1
    clear H1
    replace H := Option.bind_eq_some_iff.mp H
    obtain ⟨⟨t385, t386, t387, t388, t389, t390, t391⟩, A60, H⟩ := H
    replace H : ((monitor_Valid.f a1_0 a1_1 a1_2 a1_3 a1_4 a1_5 a1_6).bind fun t393 => ((wireloomref45_Valid.f k a1_0 a1_1 a1_2 a1_3 a1_4 a1_5 a1_6).bind fun t394 => (if (t393 != t394) = true then (wireloomlaw45_MonitorMatchesReference.j0 k a2 true true a1_0 a1_1 a1_2 a1_3 a1_4 a1_5 a1_6 t385 t386 t387 t388 t389 t390 t391) else ((wireloomlaw45_made.f a1_0 a1_1 a1_2 a1_3 a1_4 a1_5 a1_6).bind fun bt395 => ((wireloomref45_NewIn.f k a1_0 a1_1 a1_2 a1_3 a1_4 a1_5 a1_6).bind fun bt403 => (if ((!(bt395.1 == bt403.1) || (!(bt395.2.1 == bt403.2.1) || (!(bt395.2.2.1 == bt403.2.2.1) || (!(bt395.2.2.2.1 == bt403.2.2.2.1) || (!(bt395.2.2.2.2.1 == bt403.2.2.2.2.1) || (!(bt395.2.2.2.2.2.1 == bt403.2.2.2.2.2.1) || (!(bt395.2.2.2.2.2.2.1 == bt403.2.2.2.2.2.2.1)))))))) || (!(bt395.2.2.2.2.2.2.2 == bt403.2.2.2.2.2.2.2))) = true then (wireloomlaw45_MonitorMatchesReference.j0 k a2 true true a1_0 a1_1 a1_2 a1_3 a1_4 a1_5 a1_6 t385 t386 t387 t388 t389 t390 t391) else ((monitor_Valid.f t385 t386 t387 t388 t389 t390 t391).bind fun t411 => (wireloomlaw45_MonitorMatchesReference.j0 k a2 true (!t411) a1_0 a1_1 a1_2 a1_3 a1_4 a1_5 a1_6 t385 t386 t387 t388 t389 t390 t391)))))))) = some r := H
    have A6 := Aside0.mk A60
    clear A60
    have HC7 := Aside0.mk H
    clear H
    go_enter Try.func3, Try.ntmps3
    go_upto_region 5 with (first | ((with_reducible refine gate_dst (N := 3) rfl ?_); refine box_event ?hg (N := 3) ?hd (cs := #[.int .u8 a0_0, .int .u8 a0_1, .int .u8 a0_2, .int .u8 a0_3, .slice A0_4 l0_4.length c0_4, .int .u8 a0_5, .int .u8 a0_6]) (t := 26) ?hr ?_; (case hd => rfl); (case hg => rfl); (case hr => first | (go_simp; done) | (go_simp; rfl)); intro gb382 hg w8 hbox hb; have n0_ := Aside0.mk (below_step (by repeat (first | (with_reducible first | exact HB.out | apply below_alloc | apply pw_below_drewN | apply below_drew1) | exact HB.out)) hb); have n1_ := Aside0.mk (hbox); have n2_ := Aside0.mk ((by rw [hg]; exact (below_size (by repeat (first | (with_reducible first | exact HB.out | apply below_alloc | apply pw_below_drewN | apply below_drew1) | exact HB.out))) : w.heap.size ≤ gb382)); have n3_ := Aside0.mk ((by rw [hg]; exact (below_size (by repeat (first | (with_reducible first | exact HB.out | apply below_alloc | apply pw_below_drewN | apply below_drew1) | exact HB.out))) : w.heap.size ≤ gb382)); clear HB; have HB := n0_; have BK382 := n1_; have GW382 := n2_; have GE382 := n3_; clear n0_ n1_ n2_ n3_; clear hb hbox hg) | ((with_reducible refine gate_dst (N := 4) rfl ?_); refine box_event ?hg (N := 4) ?hd (cs := #[.int .i64 a1_0, .int .i64 a1_1, .int .i64 a1_2, .int .i64 a1_3, .int .i64 a1_4, .int .i64 a1_5, .bool a1_6]) (t := 28) ?hr ?_; (case hd => rfl); (case hg => rfl); (case hr => first | (go_simp; done) | (go_simp; rfl)); intro gb383 hg w9 hbox hb; have n0_ := bxb BK382 hb; have n1_ := Aside0.mk (below_step (bwt HB) hb); have n2_ := Aside0.mk (hbox); have n3_ := Aside0.mk ((by rw [hg]; exact (below_size (bwt HB)) : w.heap.size ≤ gb383)); have n4_ := Aside0.mk ((by rw [hg]; exact (below_size (bwt HB)) : w.heap.size ≤ gb383)); have n5_ := nlt_ BK382 hg; have n6_ := ngt_ BK382 hg; clear BK382; clear HB; have BK382 := n0_; have HB := n1_; have BK383 := n2_; have GW383 := n3_; have GE383 := n4_; have NB382_383 := n5_; have NB383_382 := n6_; clear n0_ n1_ n2_ n3_ n4_ n5_ n6_; clear hb hbox hg) | ((with_reducible refine gate_callee (f := 9) rfl ?_); refine goesL_ (some 12) rfl rfl Try.func9 (by kernel_rfl) rfl #[] rfl (by (try simp only [List.map_toArray, List.map_cons, List.map_nil]); first | done | rfl | (simp only [List.length_drop, List.length_take]; rfl)) ?_; (with_reducible refine (wireloomlaw45_examples.calls  true _ A4.out).mono ?_); rintro e w10 ⟨rfl, hb⟩; refine ⟨_, rfl, ?_⟩; have n0_ := bxb BK382 hb; have n1_ := bxb BK383 hb; have n2_ := Aside0.mk (below_step (bwt HB) hb); clear BK382; clear BK383; clear HB; have BK382 := n0_; have BK383 := n1_; have HB := n2_; clear n0_ n1_ n2_; (try clear hb); (try clear hb2); (try clear hk); (try clear hi); have hnb11 := NB382_383.out; have hnc11 := NB383_382.out; have hcz12_0 : w10.cell? ⟨gb382, 0, none⟩ = some (.int .u8 a0_0) := bc BK382 0; have hcz12_1 : w10.cell? ⟨gb382, 1, none⟩ = some (.int .u8 a0_1) := bc BK382 1; have hcz12_2 : w10.cell? ⟨gb382, 2, none⟩ = some (.int .u8 a0_2) := bc BK382 2; have hcz12_3 : w10.cell? ⟨gb382, 3, none⟩ = some (.int .u8 a0_3) := bc BK382 3; have hcz12_4 : w10.cell? ⟨gb382, 4, none⟩ = some (.slice A0_4 l0_4.length c0_4) := bc BK382 4; have hcz12_5 : w10.cell? ⟨gb382, 5, none⟩ = some (.int .u8 a0_5) := bc BK382 5; have hcz12_6 : w10.cell? ⟨gb382, 6, none⟩ = some (.int .u8 a0_6) := bc BK382 6; have hfz12_0 := blk_frozen BK382.out 0; have hfz12_1 := blk_frozen BK382.out 1; have hfz12_2 := blk_frozen BK382.out 2; have hfz12_3 := blk_frozen BK382.out 3; have hfz12_4 := blk_frozen BK382.out 4; have hfz12_5 := blk_frozen BK382.out 5; have hfz12_6 := blk_frozen BK382.out 6) | ((with_reducible refine gate_callee (f := 10) rfl ?_); refine goesL_ (some 16) rfl rfl Try.func10 (by kernel_rfl) rfl #[.agg #[.int .u8 a0_0, .int .u8 a0_1, .int .u8 a0_2, .int .u8 a0_3, .slice A0_4 l0_4.length c0_4, .int .u8 a0_5, .int .u8 a0_6]] rfl (by (try simp only [List.map_toArray, List.map_cons, List.map_nil]); first | done | rfl | (simp only [List.length_drop, List.length_take]; rfl)) ?_; (with_reducible refine (wireloomref45_Made.calls k a0_0 a0_1 a0_2 a0_3 _ _ l0_4 a0_5 a0_6 t385 t386 t387 t388 t389 t390 t391 _ ?side1 ?side2 A6.out).mono ?_); (case side1 => repeat (first | exact (Kd.C_below HR0_4.out HB.out) | (with_reducible refine Kd.C_alloc ?_ _) | (with_reducible refine Kd.C_drewN ?_ _) | (with_reducible refine Kd.C_drew ?_))); (case side2 => exact HC0_4.out); rintro e w13 ⟨rfl, hb⟩; refine ⟨_, rfl, ?_⟩; have n0_ := bxb BK382 hb; have n1_ := bxb BK383 hb; have n2_ := Aside0.mk (below_step (bwt HB) hb); clear BK382; clear BK383; clear HB; have BK382 := n0_; have BK383 := n1_; have HB := n2_; clear n0_ n1_ n2_; (try clear hb); (try clear hb2); (try clear hk); (try clear hi)) | ((with_reducible refine gate_dst (N := 8) rfl ?_); refine box_event ?hg (N := 8) ?hd (cs := #[.int .i64 0, .int .i64 0, .int .i64 0, .int .i64 0, .int .i64 0, .int .i64 0, .bool false]) (t := 28) ?hr ?_; (case hd => rfl); (case hg => rfl); (case hr => first | (go_simp; done) | (go_simp; rfl)); intro gb392 hg w14 hbox hb; have n0_ := bxb BK382 hb; have n1_ := bxb BK383 hb; have n2_ := Aside0.mk (below_step (bwt HB) hb); have n3_ := Aside0.mk (hbox); have n4_ := Aside0.mk ((by rw [hg]; exact (below_size (bwt HB)) : w.heap.size ≤ gb392)); have n5_ := Aside0.mk ((by rw [hg]; exact (below_size (bwt HB)) : w.heap.size ≤ gb392)); have n6_ := nlt_ BK382 hg; have n7_ := ngt_ BK382 hg; have n8_ := nlt_ BK383 hg; have n9_ := ngt_ BK383 hg; clear BK382; clear BK383; clear HB; have BK382 := n0_; have BK383 := n1_; have HB := n2_; have BK392 := n3_; have GW392 := n4_; have GE392 := n5_; have NB382_392 := n6_; have NB392_382 := n7_; have NB383_392 := n8_; have NB392_383 := n9_; clear n0_ n1_ n2_ n3_ n4_ n5_ n6_ n7_ n8_ n9_; clear hb hbox hg; have hnb15 := NB392_382.out; have hnc15 := NB382_392.out; have hnb16 := NB392_383.out; have hnc16 := NB383_392.out; have hcz17_0 : w14.cell? ⟨gb392, 0, none⟩ = some (.int .i64 0) := bc BK392 0; have hcz17_1 : w14.cell? ⟨gb392, 1, none⟩ = some (.int .i64 0) := bc BK392 1; have hcz17_2 : w14.cell? ⟨gb392, 2, none⟩ = some (.int .i64 0) := bc BK392 2; have hcz17_3 : w14.cell? ⟨gb392, 3, none⟩ = some (.int .i64 0) := bc BK392 3; have hcz17_4 : w14.cell? ⟨gb392, 4, none⟩ = some (.int .i64 0) := bc BK392 4; have hcz17_5 : w14.cell? ⟨gb392, 5, none⟩ = some (.int .i64 0) := bc BK392 5; have hcz17_6 : w14.cell? ⟨gb392, 6, none⟩ = some (.bool false) := bc BK392 6; have hfz17_0 := blk_frozen BK392.out 0; have hfz17_1 := blk_frozen BK392.out 1; have hfz17_2 := blk_frozen BK392.out 2; have hfz17_3 := blk_frozen BK392.out 3; have hfz17_4 := blk_frozen BK392.out 4; have hfz17_5 := blk_frozen BK392.out 5; have hfz17_6 := blk_frozen BK392.out 6))
    (try simp only [Act.put, List.setIfInBounds_toArray, List.set_cons_zero, List.set_cons_succ])
    go_cut [33] (fun v33 wc => ∃ (kq : Nat) (x33_6 : Bool), v33 = .bool x33_6 ∧ Aside0 (wireloomlaw45_MonitorMatchesReference.j0 kq a2 true x33_6 a1_0 a1_1 a1_2 a1_3 a1_4 a1_5 a1_6 t385 t386 t387 t388 t389 t390 t391 = some r) ∧ Aside0 (kq ≤ k) ∧ Aside0 (wc.heap[gb382]? = some (.cells #[.int .u8 a0_0, .int .u8 a0_1, .int .u8 a0_2, .int .u8 a0_3, (.slice A0_4 l0_4.length c0_4), .int .u8 a0_5, .int .u8 a0_6] 26 (0, 0))) ∧ Aside0 (wc.heap[gb383]? = some (.cells #[.int .i64 a1_0, .int .i64 a1_1, .int .i64 a1_2, .int .i64 a1_3, .int .i64 a1_4, .int .i64 a1_5, .bool a1_6] 28 (0, 0))) ∧ Aside0 (wc.heap[gb392]? = some (.cells #[.int .i64 t385, .int .i64 t386, .int .i64 t387, .int .i64 t388, .int .i64 t389, .int .i64 t390, .bool t391] 28 (0, 0))) ∧ Aside0 (Below w.heap.size w wc))
    case first =>
      have H := HC7.out
      clear HC7
      replace H := Option.bind_eq_some_iff.mp H
      obtain ⟨t393, A180, H⟩ := H
      replace H : ((wireloomref45_Valid.f k a1_0 a1_1 a1_2 a1_3 a1_4 a1_5 a1_6).bind fun t394 => (if (t393 != t394) = true then (wireloomlaw45_MonitorMatchesReference.j0 k a2 true true a1_0 a1_1 a1_2 a1_3 a1_4 a1_5 a1_6 t385 t386 t387 t388 t389 t390 t391) else ((wireloomlaw45_made.f a1_0 a1_1 a1_2 a1_3 a1_4 a1_5 a1_6).bind fun bt395 => ((wireloomref45_NewIn.f k a1_0 a1_1 a1_2 a1_3 a1_4 a1_5 a1_6).bind fun bt403 => (if ((!(bt395.1 == bt403.1) || (!(bt395.2.1 == bt403.2.1) || (!(bt395.2.2.1 == bt403.2.2.1) || (!(bt395.2.2.2.1 == bt403.2.2.2.1) || (!(bt395.2.2.2.2.1 == bt403.2.2.2.2.1) || (!(bt395.2.2.2.2.2.1 == bt403.2.2.2.2.2.1) || (!(bt395.2.2.2.2.2.2.1 == bt403.2.2.2.2.2.2.1)))))))) || (!(bt395.2.2.2.2.2.2.2 == bt403.2.2.2.2.2.2.2))) = true then (wireloomlaw45_MonitorMatchesReference.j0 k a2 true true a1_0 a1_1 a1_2 a1_3 a1_4 a1_5 a1_6 t385 t386 t387 t388 t389 t390 t391) else ((monitor_Valid.f t385 t386 t387 t388 t389 t390 t391).bind fun t411 => (wireloomlaw45_MonitorMatchesReference.j0 k a2 true (!t411) a1_0 a1_1 a1_2 a1_3 a1_4 a1_5 a1_6 t385 t386 t387 t388 t389 t390 t391))))))) = some r := H
      have A18 := Aside0.mk A180
      clear A180
      replace H := Option.bind_eq_some_iff.mp H
      obtain ⟨t394, A190, H⟩ := H
      replace H : (if (t393 != t394) = true then (wireloomlaw45_MonitorMatchesReference.j0 k a2 true true a1_0 a1_1 a1_2 a1_3 a1_4 a1_5 a1_6 t385 t386 t387 t388 t389 t390 t391) else ((wireloomlaw45_made.f a1_0 a1_1 a1_2 a1_3 a1_4 a1_5 a1_6).bind fun bt395 => ((wireloomref45_NewIn.f k a1_0 a1_1 a1_2 a1_3 a1_4 a1_5 a1_6).bind fun bt403 => (if ((!(bt395.1 == bt403.1) || (!(bt395.2.1 == bt403.2.1) || (!(bt395.2.2.1 == bt403.2.2.1) || (!(bt395.2.2.2.1 == bt403.2.2.2.1) || (!(bt395.2.2.2.2.1 == bt403.2.2.2.2.1) || (!(bt395.2.2.2.2.2.1 == bt403.2.2.2.2.2.1) || (!(bt395.2.2.2.2.2.2.1 == bt403.2.2.2.2.2.2.1)))))))) || (!(bt395.2.2.2.2.2.2.2 == bt403.2.2.2.2.2.2.2))) = true then (wireloomlaw45_MonitorMatchesReference.j0 k a2 true true a1_0 a1_1 a1_2 a1_3 a1_4 a1_5 a1_6 t385 t386 t387 t388 t389 t390 t391) else ((monitor_Valid.f t385 t386 t387 t388 t389 t390 t391).bind fun t411 => (wireloomlaw45_MonitorMatchesReference.j0 k a2 true (!t411) a1_0 a1_1 a1_2 a1_3 a1_4 a1_5 a1_6 t385 t386 t387 t388 t389 t390 t391)))))) = some r := H
      have A19 := Aside0.mk A190
      clear A190
      by_cases c20 : (t393 != t394) = true
      · rw [if_pos c20] at H
        have c20b0 : (t393 != t394) = true := c20
        (try (have c20b1 : decide (t393 = t394) = false := by simpa using c20))
        (try (have c20b2 : (t393 == t394) = false := by simpa using c20))
        (try (have c20b3 : ¬ (t393 = t394) := by simpa using c20))
        clear c20
        (first | rw [c20b0] | (simp only [i64_w, i32_w]; rw [c20b0]) | skip)
        have H' := Aside0.mk H
        clear H
        try go_wp2
        have n0_ : Aside0 ((((((((w14.setCell ⟨gb392, 0, none⟩ (.int .i64 t385)).setCell ⟨gb392, 1, none⟩ (.int .i64 t386)).setCell ⟨gb392, 2, none⟩ (.int .i64 t387)).setCell ⟨gb392, 3, none⟩ (.int .i64 t388)).setCell ⟨gb392, 4, none⟩ (.int .i64 t389)).setCell ⟨gb392, 5, none⟩ (.int .i64 t390)).setCell ⟨gb392, 6, none⟩ (.bool t391)).heap[gb382]? = some (.cells #[.int .u8 a0_0, .int .u8 a0_1, .int .u8 a0_2, .int .u8 a0_3, .slice A0_4 l0_4.length c0_4, .int .u8 a0_5, .int .u8 a0_6] 26 (0, 0))) := ⟨by (with_reducible repeat refine bp_ ?_); refine blk_far ?_ NB382_392.out _; (with_reducible repeat refine bp_ ?_); refine blk_far ?_ NB382_392.out _; (with_reducible repeat refine bp_ ?_); refine blk_far ?_ NB382_392.out _; (with_reducible repeat refine bp_ ?_); refine blk_far ?_ NB382_392.out _; (with_reducible repeat refine bp_ ?_); refine blk_far ?_ NB382_392.out _; (with_reducible repeat refine bp_ ?_); refine blk_far ?_ NB382_392.out _; (with_reducible repeat refine bp_ ?_); refine blk_far ?_ NB382_392.out _; (with_reducible repeat refine bp_ ?_); exact BK382.out⟩
        have n1_ : Aside0 ((((((((w14.setCell ⟨gb392, 0, none⟩ (.int .i64 t385)).setCell ⟨gb392, 1, none⟩ (.int .i64 t386)).setCell ⟨gb392, 2, none⟩ (.int .i64 t387)).setCell ⟨gb392, 3, none⟩ (.int .i64 t388)).setCell ⟨gb392, 4, none⟩ (.int .i64 t389)).setCell ⟨gb392, 5, none⟩ (.int .i64 t390)).setCell ⟨gb392, 6, none⟩ (.bool t391)).heap[gb383]? = some (.cells #[.int .i64 a1_0, .int .i64 a1_1, .int .i64 a1_2, .int .i64 a1_3, .int .i64 a1_4, .int .i64 a1_5, .bool a1_6] 28 (0, 0))) := ⟨by (with_reducible repeat refine bp_ ?_); refine blk_far ?_ NB383_392.out _; (with_reducible repeat refine bp_ ?_); refine blk_far ?_ NB383_392.out _; (with_reducible repeat refine bp_ ?_); refine blk_far ?_ NB383_392.out _; (with_reducible repeat refine bp_ ?_); refine blk_far ?_ NB383_392.out _; (with_reducible repeat refine bp_ ?_); refine blk_far ?_ NB383_392.out _; (with_reducible repeat refine bp_ ?_); refine blk_far ?_ NB383_392.out _; (with_reducible repeat refine bp_ ?_); refine blk_far ?_ NB383_392.out _; (with_reducible repeat refine bp_ ?_); exact BK383.out⟩
        have n2_ : Aside0 ((((((((w14.setCell ⟨gb392, 0, none⟩ (.int .i64 t385)).setCell ⟨gb392, 1, none⟩ (.int .i64 t386)).setCell ⟨gb392, 2, none⟩ (.int .i64 t387)).setCell ⟨gb392, 3, none⟩ (.int .i64 t388)).setCell ⟨gb392, 4, none⟩ (.int .i64 t389)).setCell ⟨gb392, 5, none⟩ (.int .i64 t390)).setCell ⟨gb392, 6, none⟩ (.bool t391)).heap[gb392]? = some (.cells #[.int .i64 t385, .int .i64 t386, .int .i64 t387, .int .i64 t388, .int .i64 t389, .int .i64 t390, .bool t391] 28 (0, 0))) := ⟨by (with_reducible repeat refine bp_ ?_); refine blk_put (cs := #[.int .i64 t385, .int .i64 t386, .int .i64 t387, .int .i64 t388, .int .i64 t389, .int .i64 t390, .bool false]) ?_ 6 _ rfl; (with_reducible repeat refine bp_ ?_); refine blk_put (cs := #[.int .i64 t385, .int .i64 t386, .int .i64 t387, .int .i64 t388, .int .i64 t389, .int .i64 0, .bool false]) ?_ 5 _ rfl; (with_reducible repeat refine bp_ ?_); refine blk_put (cs := #[.int .i64 t385, .int .i64 t386, .int .i64 t387, .int .i64 t388, .int .i64 0, .int .i64 0, .bool false]) ?_ 4 _ rfl; (with_reducible repeat refine bp_ ?_); refine blk_put (cs := #[.int .i64 t385, .int .i64 t386, .int .i64 t387, .int .i64 0, .int .i64 0, .int .i64 0, .bool false]) ?_ 3 _ rfl; (with_reducible repeat refine bp_ ?_); refine blk_put (cs := #[.int .i64 t385, .int .i64 t386, .int .i64 0, .int .i64 0, .int .i64 0, .int .i64 0, .bool false]) ?_ 2 _ rfl; (with_reducible repeat refine bp_ ?_); refine blk_put (cs := #[.int .i64 t385, .int .i64 0, .int .i64 0, .int .i64 0, .int .i64 0, .int .i64 0, .bool false]) ?_ 1 _ rfl; (with_reducible repeat refine bp_ ?_); refine blk_put (cs := #[.int .i64 0, .int .i64 0, .int .i64 0, .int .i64 0, .int .i64 0, .int .i64 0, .bool false]) ?_ 0 _ rfl; (with_reducible repeat refine bp_ ?_); exact BK392.out⟩
        have n3_ : Aside0 (Below w.heap.size w (((((((w14.setCell ⟨gb392, 0, none⟩ (.int .i64 t385)).setCell ⟨gb392, 1, none⟩ (.int .i64 t386)).setCell ⟨gb392, 2, none⟩ (.int .i64 t387)).setCell ⟨gb392, 3, none⟩ (.int .i64 t388)).setCell ⟨gb392, 4, none⟩ (.int .i64 t389)).setCell ⟨gb392, 5, none⟩ (.int .i64 t390)).setCell ⟨gb392, 6, none⟩ (.bool t391))) := ⟨by repeat (first | (with_reducible first | exact HB.out | apply below_alloc | apply pw_below_drewN | apply below_drew1 | refine below_set ?_ GE382.out | refine below_set ?_ GE383.out | refine below_set ?_ GE392.out) | exact HB.out)⟩
        (try clear BK382)
        (try clear BK383)
        (try clear BK392)
        (try clear HB)
        generalize (((((((w14.setCell ⟨gb392, 0, none⟩ (.int .i64 t385)).setCell ⟨gb392, 1, none⟩ (.int .i64 t386)).setCell ⟨gb392, 2, none⟩ (.int .i64 t387)).setCell ⟨gb392, 3, none⟩ (.int .i64 t388)).setCell ⟨gb392, 4, none⟩ (.int .i64 t389)).setCell ⟨gb392, 5, none⟩ (.int .i64 t390)).setCell ⟨gb392, 6, none⟩ (.bool t391)) = w21 at n0_ n1_ n2_ n3_ ⊢
        have BK382 := n0_
        have BK383 := n1_
        have BK392 := n2_
        have HB := n3_
        clear n0_ n1_ n2_ n3_
        have n0_ := Aside0.mk (blk_drew BK382.out)
        have n1_ := Aside0.mk (blk_drew BK383.out)
        have n2_ := Aside0.mk (blk_drew BK392.out)
        have n3_ := Aside0.mk (below_drew1 HB.out)
        clear BK382
        clear BK383
        clear BK392
        clear HB
        have BK382 := n0_
        have BK383 := n1_
        have BK392 := n2_
        have HB := n3_
        clear n0_ n1_ n2_ n3_
        refine start_ (n := 17) (S := fun w' => w'.cell? ⟨gb383, 0, none⟩ = some (.int .i64 a1_0) ∧ w'.cell? ⟨gb383, 1, none⟩ = some (.int .i64 a1_1) ∧ w'.cell? ⟨gb383, 2, none⟩ = some (.int .i64 a1_2) ∧ w'.cell? ⟨gb383, 3, none⟩ = some (.int .i64 a1_3) ∧ w'.cell? ⟨gb383, 4, none⟩ = some (.int .i64 a1_4) ∧ w'.cell? ⟨gb383, 5, none⟩ = some (.int .i64 a1_5) ∧ w'.cell? ⟨gb383, 6, none⟩ = some (.bool a1_6)) (ds := []) #[false, false, false, false, false, false, false, false, false, false, false, false, false, false, false, false, false] (by kernel_rfl) rfl rfl ⟨bc BK383 0, bc BK383 1, bc BK383 2, bc BK383 3, bc BK383 4, bc BK383 5, bc BK383 6⟩ (fun hHeld => ?_); refine with_tabW wireloomlaw45_MonitorMatchesReference.tab5 wireloomlaw45_MonitorMatchesReference.bits5 (fun HT_ HW_ => ?_)
        generalize w21.drew = w22 at BK382 BK383 BK392 HB hHeld ⊢
        refine take_ (i := 0) (N := some 17) (v := ?_) (a' := ?_) #[true, false, false, false, false, false, false, false, false, false, false, false, false, false, false, false, false] rfl rfl (take_ofW HT_.out HW_.out (by kernel_rfl)) (fun _ _ _ h => h) (Or.inl ⟨by rfl, ?_⟩) hHeld ?_ ?_
        rotate_left
        · rintro w' ⟨s0, s1, s2, s3, s4, s5, s6⟩
          go_simp
          with_reducible rfl
        rotate_left
        · simp only [Act.put, List.setIfInBounds_toArray, List.set_cons_zero, List.set_cons_succ, i64_w, i32_w]
          rfl
        refine take_ (i := 2) (N := some 19) (v := ?_) (a' := ?_) #[true, false, true, false, false, false, false, false, false, false, false, false, false, false, false, false, false] rfl rfl (take_ofW HT_.out HW_.out (by kernel_rfl)) (fun _ _ _ h => h) (Or.inl ⟨by rfl, ?_⟩) hHeld ?_ ?_
        rotate_left
        · rintro w' ⟨s0, s1, s2, s3, s4, s5, s6⟩
          go_simp
          with_reducible rfl
        rotate_left
        · simp only [Act.put, List.setIfInBounds_toArray, List.set_cons_zero, List.set_cons_succ, i64_w, i32_w]
          rfl
        refine one_ (i := 1) (N := some 18) #[true, true, true, false, false, false, false, false, false, false, false, false, false, false, false, false, false] rfl rfl (one_of HT_.out (by kernel_rfl)) (by decide) (fun K hK => ?_)
        refine goes_ Try.func11 (by kernel_rfl) rfl #[.agg #[.int .i64 a1_0, .int .i64 a1_1, .int .i64 a1_2, .int .i64 a1_3, .int .i64 a1_4, .int .i64 a1_5, .bool a1_6]] (by rfl) rfl rfl (by (try simp only [List.map_toArray, List.map_cons, List.map_nil]); first | done | rfl | (simp only [List.length_drop, List.length_take]; rfl)) ?_
        with_reducible refine (monitor_Valid.calls a1_0 a1_1 a1_2 a1_3 a1_4 a1_5 a1_6 t393 _ A18.out).mono ?_
        rintro e w23 ⟨rfl, hb⟩
        refine ⟨_, rfl, ?_⟩
        have n0_ := bxb BK382 hb
        have n1_ := bxb BK383 hb
        have n2_ := bxb BK392 hb
        have n3_ := Aside0.mk (below_step (bwt HB) hb)
        clear BK382
        clear BK383
        clear BK392
        clear HB
        have BK382 := n0_
        have BK383 := n1_
        have BK392 := n2_
        have HB := n3_
        clear n0_ n1_ n2_ n3_
        (try clear hb)
        (try clear hb2)
        (try clear hk)
        (try clear hi)
        refine hK.out _ _ ⟨bc BK383 0, bc BK383 1, bc BK383 2, bc BK383 3, bc BK383 4, bc BK383 5, bc BK383 6⟩ (fun hHeld => ?_)
        clear hK K
        refine norm_ (a' := ?_) ?_ ?_
        rotate_left
        · show Act.put _ (some 18) _ = _
          simp only [Act.put, List.setIfInBounds_toArray, List.set_cons_zero, List.set_cons_succ, i64_w, i32_w]
          rfl
        refine one_ (i := 3) (N := some 20) #[true, true, true, true, false, false, false, false, false, false, false, false, false, false, false, false, false] rfl rfl (one_of HT_.out (by kernel_rfl)) (by decide) (fun K hK => ?_)
        refine goes_ Try.func12 (by kernel_rfl) rfl #[.agg #[.int .i64 a1_0, .int .i64 a1_1, .int .i64 a1_2, .int .i64 a1_3, .int .i64 a1_4, .int .i64 a1_5, .bool a1_6]] (by rfl) rfl rfl (by (try simp only [List.map_toArray, List.map_cons, List.map_nil]); first | done | rfl | (simp only [List.length_drop, List.length_take]; rfl)) ?_
        with_reducible refine (wireloomref45_Valid.calls k a1_0 a1_1 a1_2 a1_3 a1_4 a1_5 a1_6 t394 _ A19.out).mono ?_
        rintro e w24 ⟨rfl, hb⟩
        refine ⟨_, rfl, ?_⟩
        have n0_ := bxb BK382 hb
        have n1_ := bxb BK383 hb
        have n2_ := bxb BK392 hb
        have n3_ := Aside0.mk (below_step (bwt HB) hb)
        clear BK382
        clear BK383
        clear BK392
        clear HB
        have BK382 := n0_
        have BK383 := n1_
        have BK392 := n2_
        have HB := n3_
        clear n0_ n1_ n2_ n3_
        (try clear hb)
        (try clear hb2)
        (try clear hk)
        (try clear hi)
        refine hK.out _ _ ⟨bc BK383 0, bc BK383 1, bc BK383 2, bc BK383 3, bc BK383 4, bc BK383 5, bc BK383 6⟩ (fun hHeld => ?_)
        clear hK K
        refine norm_ (a' := ?_) ?_ ?_
        rotate_left
        · show Act.put _ (some 20) _ = _
          simp only [Act.put, List.setIfInBounds_toArray, List.set_cons_zero, List.set_cons_succ, i64_w, i32_w]
          rfl
        refine pure_ (i := 4) (N := some 21) (v := ?_) (a' := ?_) #[true, true, true, true, true, false, false, false, false, false, false, false, false, false, false, false, false] rfl rfl (any_of HT_.out (by kernel_rfl)) (fun _ _ _ h => h) (Or.inl ⟨by rfl, ?_⟩) ?_ ?_
        rotate_left
        · intro w'
          go_simp
          with_reducible rfl
        rotate_left
        · simp only [Act.put, List.setIfInBounds_toArray, List.set_cons_zero, List.set_cons_succ, i64_w, i32_w]
          rfl
        refine pure_ (i := 5) (N := some 22) (v := ?_) (a' := ?_) #[true, true, true, true, true, true, false, false, false, false, false, false, false, false, false, false, false] rfl rfl (any_of HT_.out (by kernel_rfl)) (fun _ _ _ h => h) (Or.inl ⟨by rfl, ?_⟩) ?_ ?_
        rotate_left
        · intro w'
          go_simp
          with_reducible rfl
        rotate_left
        · simp only [Act.put, List.setIfInBounds_toArray, List.set_cons_zero, List.set_cons_succ, i64_w, i32_w]
          rfl
        refine pure_ (i := 6) (N := some 23) (v := undef) (a' := ?_) #[true, true, true, true, true, true, true, false, false, false, false, false, false, false, false, false, false] rfl rfl (any_of HT_.out (by kernel_rfl)) (fun _ _ _ h => h) (Or.inr ⟨by rfl, rfl⟩) ?_ ?_
        rotate_left
        · simp only [Act.put, List.setIfInBounds_toArray, List.set_cons_zero, List.set_cons_succ, i64_w, i32_w]
          rfl
        refine pure_ (i := 7) (N := some 24) (v := undef) (a' := ?_) #[true, true, true, true, true, true, true, true, false, false, false, false, false, false, false, false, false] rfl rfl (any_of HT_.out (by kernel_rfl)) (fun _ _ _ h => h) (Or.inr ⟨by rfl, rfl⟩) ?_ ?_
        rotate_left
        · simp only [Act.put, List.setIfInBounds_toArray, List.set_cons_zero, List.set_cons_succ, i64_w, i32_w]
          rfl
        refine pure_ (i := 8) (N := some 25) (v := undef) (a' := ?_) #[true, true, true, true, true, true, true, true, true, false, false, false, false, false, false, false, false] rfl rfl (any_of HT_.out (by kernel_rfl)) (fun _ _ _ h => h) (Or.inr ⟨by rfl, rfl⟩) ?_ ?_
        rotate_left
        · simp only [Act.put, List.setIfInBounds_toArray, List.set_cons_zero, List.set_cons_succ, i64_w, i32_w]
          rfl
        refine pure_ (i := 9) (N := some 26) (v := undef) (a' := ?_) #[true, true, true, true, true, true, true, true, true, true, false, false, false, false, false, false, false] rfl rfl (any_of HT_.out (by kernel_rfl)) (fun _ _ _ h => h) (Or.inr ⟨by rfl, rfl⟩) ?_ ?_
        rotate_left
        · simp only [Act.put, List.setIfInBounds_toArray, List.set_cons_zero, List.set_cons_succ, i64_w, i32_w]
          rfl
        refine pure_ (i := 10) (N := some 27) (v := undef) (a' := ?_) #[true, true, true, true, true, true, true, true, true, true, true, false, false, false, false, false, false] rfl rfl (any_of HT_.out (by kernel_rfl)) (fun _ _ _ h => h) (Or.inr ⟨by rfl, rfl⟩) ?_ ?_
        rotate_left
        · simp only [Act.put, List.setIfInBounds_toArray, List.set_cons_zero, List.set_cons_succ, i64_w, i32_w]
          rfl
        refine pure_ (i := 11) (N := some 28) (v := ?_) (a' := ?_) #[true, true, true, true, true, true, true, true, true, true, true, true, false, false, false, false, false] rfl rfl (any_of HT_.out (by kernel_rfl)) (fun _ _ _ h => h) (Or.inl ⟨by rfl, ?_⟩) ?_ ?_
        rotate_left
        · intro w'
          go_simp
          with_reducible rfl
        rotate_left
        · simp only [Act.put, List.setIfInBounds_toArray, List.set_cons_zero, List.set_cons_succ, i64_w, i32_w]
          rfl
        refine pure_ (i := 12) (N := some 29) (v := ?_) (a' := ?_) #[true, true, true, true, true, true, true, true, true, true, true, true, true, false, false, false, false] rfl rfl (any_of HT_.out (by kernel_rfl)) (fun _ _ _ h => h) (Or.inl ⟨by rfl, ?_⟩) ?_ ?_
        rotate_left
        · intro w'
          go_simp
          with_reducible rfl
        rotate_left
        · simp only [Act.put, List.setIfInBounds_toArray, List.set_cons_zero, List.set_cons_succ, i64_w, i32_w]
          rfl
        refine pure_ (i := 13) (N := some 30) (v := undef) (a' := ?_) #[true, true, true, true, true, true, true, true, true, true, true, true, true, true, false, false, false] rfl rfl (any_of HT_.out (by kernel_rfl)) (fun _ _ _ h => h) (Or.inr ⟨by rfl, rfl⟩) ?_ ?_
        rotate_left
        · simp only [Act.put, List.setIfInBounds_toArray, List.set_cons_zero, List.set_cons_succ, i64_w, i32_w]
          rfl
        refine pure_ (i := 14) (N := some 31) (v := undef) (a' := ?_) #[true, true, true, true, true, true, true, true, true, true, true, true, true, true, true, false, false] rfl rfl (any_of HT_.out (by kernel_rfl)) (fun _ _ _ h => h) (Or.inr ⟨by rfl, rfl⟩) ?_ ?_
        rotate_left
        · simp only [Act.put, List.setIfInBounds_toArray, List.set_cons_zero, List.set_cons_succ, i64_w, i32_w]
          rfl
        refine pure_ (i := 15) (N := some 32) (v := undef) (a' := ?_) #[true, true, true, true, true, true, true, true, true, true, true, true, true, true, true, true, false] rfl rfl (any_of HT_.out (by kernel_rfl)) (fun _ _ _ h => h) (Or.inr ⟨by rfl, rfl⟩) ?_ ?_
        rotate_left
        · simp only [Act.put, List.setIfInBounds_toArray, List.set_cons_zero, List.set_cons_succ, i64_w, i32_w]
          rfl
        refine pure_ (i := 16) (N := some 33) (v := ?_) (a' := ?_) #[true, true, true, true, true, true, true, true, true, true, true, true, true, true, true, true, true] rfl rfl (any_of HT_.out (by kernel_rfl)) (fun _ _ _ h => h) (Or.inl ⟨by rfl, ?_⟩) ?_ ?_
        rotate_left
        · intro w'
          go_simp
          with_reducible rfl
        rotate_left
        · simp only [Act.put, List.setIfInBounds_toArray, List.set_cons_zero, List.set_cons_succ, i64_w, i32_w]
          rfl
        refine done_ (done_of HT_.out (by kernel_rfl)) ?_
        try go_wp2
        go_meet
        case rel => exact ⟨_, (true), (by first | rfl | (simp; done) | (simp [*]; done)), H', ⟨by first | omega | exact Nat.le_refl _⟩, ⟨by (with_reducible repeat refine bp_ ?_); exact BK382.out⟩, ⟨by (with_reducible repeat refine bp_ ?_); exact BK383.out⟩, ⟨by (with_reducible repeat refine bp_ ?_); exact BK392.out⟩, ⟨by repeat (first | (with_reducible first | exact HB.out | apply below_alloc | apply pw_below_drewN | apply below_drew1 | refine below_set ?_ GE382.out | refine below_set ?_ GE383.out | refine below_set ?_ GE392.out) | exact HB.out)⟩⟩
      · rw [if_neg c20] at H
        have c20b0 : (t393 != t394) = false := by simpa using c20
        (try (have c20b1 : decide (t393 = t394) = true := by simpa using c20))
        (try (have c20b2 : (t393 == t394) = true := by simpa using c20))
        clear c20
        (first | rw [c20b0] | (simp only [i64_w, i32_w]; rw [c20b0]) | skip)
        replace H := Option.bind_eq_some_iff.mp H
        obtain ⟨⟨t395, t396, t397, t398, t399, t400, t401, t402⟩, A250, H⟩ := H
        replace H : ((wireloomref45_NewIn.f k a1_0 a1_1 a1_2 a1_3 a1_4 a1_5 a1_6).bind fun bt403 => (if ((!(t395 == bt403.1) || (!(t396 == bt403.2.1) || (!(t397 == bt403.2.2.1) || (!(t398 == bt403.2.2.2.1) || (!(t399 == bt403.2.2.2.2.1) || (!(t400 == bt403.2.2.2.2.2.1) || (!(t401 == bt403.2.2.2.2.2.2.1)))))))) || (!(t402 == bt403.2.2.2.2.2.2.2))) = true then (wireloomlaw45_MonitorMatchesReference.j0 k a2 true true a1_0 a1_1 a1_2 a1_3 a1_4 a1_5 a1_6 t385 t386 t387 t388 t389 t390 t391) else ((monitor_Valid.f t385 t386 t387 t388 t389 t390 t391).bind fun t411 => (wireloomlaw45_MonitorMatchesReference.j0 k a2 true (!t411) a1_0 a1_1 a1_2 a1_3 a1_4 a1_5 a1_6 t385 t386 t387 t388 t389 t390 t391)))) = some r := H
        have A25 := Aside0.mk A250
        clear A250
        replace H := Option.bind_eq_some_iff.mp H
        obtain ⟨⟨t403, t404, t405, t406, t407, t408, t409, t410⟩, A260, H⟩ := H
        replace H : (if ((!(t395 == t403) || (!(t396 == t404) || (!(t397 == t405) || (!(t398 == t406) || (!(t399 == t407) || (!(t400 == t408) || (!(t401 == t409)))))))) || (!(t402 == t410))) = true then (wireloomlaw45_MonitorMatchesReference.j0 k a2 true true a1_0 a1_1 a1_2 a1_3 a1_4 a1_5 a1_6 t385 t386 t387 t388 t389 t390 t391) else ((monitor_Valid.f t385 t386 t387 t388 t389 t390 t391).bind fun t411 => (wireloomlaw45_MonitorMatchesReference.j0 k a2 true (!t411) a1_0 a1_1 a1_2 a1_3 a1_4 a1_5 a1_6 t385 t386 t387 t388 t389 t390 t391))) = some r := H
        have A26 := Aside0.mk A260
        clear A260
        by_cases c27 : ((!(t395 == t403) || (!(t396 == t404) || (!(t397 == t405) || (!(t398 == t406) || (!(t399 == t407) || (!(t400 == t408) || (!(t401 == t409)))))))) || (!(t402 == t410))) = true
        · rw [if_pos c27] at H
          have c27b0 : ((!(t395 == t403) || (!(t396 == t404) || (!(t397 == t405) || (!(t398 == t406) || (!(t399 == t407) || (!(t400 == t408) || (!(t401 == t409)))))))) || (!(t402 == t410))) = true := c27
          clear c27
          have H' := Aside0.mk H
          clear H
          try go_wp2
          have n0_ : Aside0 ((((((((w14.setCell ⟨gb392, 0, none⟩ (.int .i64 t385)).setCell ⟨gb392, 1, none⟩ (.int .i64 t386)).setCell ⟨gb392, 2, none⟩ (.int .i64 t387)).setCell ⟨gb392, 3, none⟩ (.int .i64 t388)).setCell ⟨gb392, 4, none⟩ (.int .i64 t389)).setCell ⟨gb392, 5, none⟩ (.int .i64 t390)).setCell ⟨gb392, 6, none⟩ (.bool t391)).heap[gb382]? = some (.cells #[.int .u8 a0_0, .int .u8 a0_1, .int .u8 a0_2, .int .u8 a0_3, .slice A0_4 l0_4.length c0_4, .int .u8 a0_5, .int .u8 a0_6] 26 (0, 0))) := ⟨by (with_reducible repeat refine bp_ ?_); refine blk_far ?_ NB382_392.out _; (with_reducible repeat refine bp_ ?_); refine blk_far ?_ NB382_392.out _; (with_reducible repeat refine bp_ ?_); refine blk_far ?_ NB382_392.out _; (with_reducible repeat refine bp_ ?_); refine blk_far ?_ NB382_392.out _; (with_reducible repeat refine bp_ ?_); refine blk_far ?_ NB382_392.out _; (with_reducible repeat refine bp_ ?_); refine blk_far ?_ NB382_392.out _; (with_reducible repeat refine bp_ ?_); refine blk_far ?_ NB382_392.out _; (with_reducible repeat refine bp_ ?_); exact BK382.out⟩
          have n1_ : Aside0 ((((((((w14.setCell ⟨gb392, 0, none⟩ (.int .i64 t385)).setCell ⟨gb392, 1, none⟩ (.int .i64 t386)).setCell ⟨gb392, 2, none⟩ (.int .i64 t387)).setCell ⟨gb392, 3, none⟩ (.int .i64 t388)).setCell ⟨gb392, 4, none⟩ (.int .i64 t389)).setCell ⟨gb392, 5, none⟩ (.int .i64 t390)).setCell ⟨gb392, 6, none⟩ (.bool t391)).heap[gb383]? = some (.cells #[.int .i64 a1_0, .int .i64 a1_1, .int .i64 a1_2, .int .i64 a1_3, .int .i64 a1_4, .int .i64 a1_5, .bool a1_6] 28 (0, 0))) := ⟨by (with_reducible repeat refine bp_ ?_); refine blk_far ?_ NB383_392.out _; (with_reducible repeat refine bp_ ?_); refine blk_far ?_ NB383_392.out _; (with_reducible repeat refine bp_ ?_); refine blk_far ?_ NB383_392.out _; (with_reducible repeat refine bp_ ?_); refine blk_far ?_ NB383_392.out _; (with_reducible repeat refine bp_ ?_); refine blk_far ?_ NB383_392.out _; (with_reducible repeat refine bp_ ?_); refine blk_far ?_ NB383_392.out _; (with_reducible repeat refine bp_ ?_); refine blk_far ?_ NB383_392.out _; (with_reducible repeat refine bp_ ?_); exact BK383.out⟩
          have n2_ : Aside0 ((((((((w14.setCell ⟨gb392, 0, none⟩ (.int .i64 t385)).setCell ⟨gb392, 1, none⟩ (.int .i64 t386)).setCell ⟨gb392, 2, none⟩ (.int .i64 t387)).setCell ⟨gb392, 3, none⟩ (.int .i64 t388)).setCell ⟨gb392, 4, none⟩ (.int .i64 t389)).setCell ⟨gb392, 5, none⟩ (.int .i64 t390)).setCell ⟨gb392, 6, none⟩ (.bool t391)).heap[gb392]? = some (.cells #[.int .i64 t385, .int .i64 t386, .int .i64 t387, .int .i64 t388, .int .i64 t389, .int .i64 t390, .bool t391] 28 (0, 0))) := ⟨by (with_reducible repeat refine bp_ ?_); refine blk_put (cs := #[.int .i64 t385, .int .i64 t386, .int .i64 t387, .int .i64 t388, .int .i64 t389, .int .i64 t390, .bool false]) ?_ 6 _ rfl; (with_reducible repeat refine bp_ ?_); refine blk_put (cs := #[.int .i64 t385, .int .i64 t386, .int .i64 t387, .int .i64 t388, .int .i64 t389, .int .i64 0, .bool false]) ?_ 5 _ rfl; (with_reducible repeat refine bp_ ?_); refine blk_put (cs := #[.int .i64 t385, .int .i64 t386, .int .i64 t387, .int .i64 t388, .int .i64 0, .int .i64 0, .bool false]) ?_ 4 _ rfl; (with_reducible repeat refine bp_ ?_); refine blk_put (cs := #[.int .i64 t385, .int .i64 t386, .int .i64 t387, .int .i64 0, .int .i64 0, .int .i64 0, .bool false]) ?_ 3 _ rfl; (with_reducible repeat refine bp_ ?_); refine blk_put (cs := #[.int .i64 t385, .int .i64 t386, .int .i64 0, .int .i64 0, .int .i64 0, .int .i64 0, .bool false]) ?_ 2 _ rfl; (with_reducible repeat refine bp_ ?_); refine blk_put (cs := #[.int .i64 t385, .int .i64 0, .int .i64 0, .int .i64 0, .int .i64 0, .int .i64 0, .bool false]) ?_ 1 _ rfl; (with_reducible repeat refine bp_ ?_); refine blk_put (cs := #[.int .i64 0, .int .i64 0, .int .i64 0, .int .i64 0, .int .i64 0, .int .i64 0, .bool false]) ?_ 0 _ rfl; (with_reducible repeat refine bp_ ?_); exact BK392.out⟩
          have n3_ : Aside0 (Below w.heap.size w (((((((w14.setCell ⟨gb392, 0, none⟩ (.int .i64 t385)).setCell ⟨gb392, 1, none⟩ (.int .i64 t386)).setCell ⟨gb392, 2, none⟩ (.int .i64 t387)).setCell ⟨gb392, 3, none⟩ (.int .i64 t388)).setCell ⟨gb392, 4, none⟩ (.int .i64 t389)).setCell ⟨gb392, 5, none⟩ (.int .i64 t390)).setCell ⟨gb392, 6, none⟩ (.bool t391))) := ⟨by repeat (first | (with_reducible first | exact HB.out | apply below_alloc | apply pw_below_drewN | apply below_drew1 | refine below_set ?_ GE382.out | refine below_set ?_ GE383.out | refine below_set ?_ GE392.out) | exact HB.out)⟩
          (try clear BK382)
          (try clear BK383)
          (try clear BK392)
          (try clear HB)
          generalize (((((((w14.setCell ⟨gb392, 0, none⟩ (.int .i64 t385)).setCell ⟨gb392, 1, none⟩ (.int .i64 t386)).setCell ⟨gb392, 2, none⟩ (.int .i64 t387)).setCell ⟨gb392, 3, none⟩ (.int .i64 t388)).setCell ⟨gb392, 4, none⟩ (.int .i64 t389)).setCell ⟨gb392, 5, none⟩ (.int .i64 t390)).setCell ⟨gb392, 6, none⟩ (.bool t391)) = w28 at n0_ n1_ n2_ n3_ ⊢
          have BK382 := n0_
          have BK383 := n1_
          have BK392 := n2_
          have HB := n3_
          clear n0_ n1_ n2_ n3_
          have n0_ := Aside0.mk (blk_drew BK382.out)
          have n1_ := Aside0.mk (blk_drew BK383.out)
          have n2_ := Aside0.mk (blk_drew BK392.out)
          have n3_ := Aside0.mk (below_drew1 HB.out)
          clear BK382
          clear BK383
          clear BK392
          clear HB
          have BK382 := n0_
          have BK383 := n1_
          have BK392 := n2_
          have HB := n3_
          clear n0_ n1_ n2_ n3_
          refine start_ (n := 17) (S := fun w' => w'.cell? ⟨gb383, 0, none⟩ = some (.int .i64 a1_0) ∧ w'.cell? ⟨gb383, 1, none⟩ = some (.int .i64 a1_1) ∧ w'.cell? ⟨gb383, 2, none⟩ = some (.int .i64 a1_2) ∧ w'.cell? ⟨gb383, 3, none⟩ = some (.int .i64 a1_3) ∧ w'.cell? ⟨gb383, 4, none⟩ = some (.int .i64 a1_4) ∧ w'.cell? ⟨gb383, 5, none⟩ = some (.int .i64 a1_5) ∧ w'.cell? ⟨gb383, 6, none⟩ = some (.bool a1_6)) (ds := []) #[false, false, false, false, false, false, false, false, false, false, false, false, false, false, false, false, false] (by kernel_rfl) rfl rfl ⟨bc BK383 0, bc BK383 1, bc BK383 2, bc BK383 3, bc BK383 4, bc BK383 5, bc BK383 6⟩ (fun hHeld => ?_); refine with_tabW wireloomlaw45_MonitorMatchesReference.tab5 wireloomlaw45_MonitorMatchesReference.bits5 (fun HT_ HW_ => ?_)
          generalize w28.drew = w29 at BK382 BK383 BK392 HB hHeld ⊢
          refine take_ (i := 0) (N := some 17) (v := ?_) (a' := ?_) #[true, false, false, false, false, false, false, false, false, false, false, false, false, false, false, false, false] rfl rfl (take_ofW HT_.out HW_.out (by kernel_rfl)) (fun _ _ _ h => h) (Or.inl ⟨by rfl, ?_⟩) hHeld ?_ ?_
          rotate_left
          · rintro w' ⟨s0, s1, s2, s3, s4, s5, s6⟩
            go_simp
            with_reducible rfl
          rotate_left
          · simp only [Act.put, List.setIfInBounds_toArray, List.set_cons_zero, List.set_cons_succ, i64_w, i32_w]
            rfl
          refine take_ (i := 2) (N := some 19) (v := ?_) (a' := ?_) #[true, false, true, false, false, false, false, false, false, false, false, false, false, false, false, false, false] rfl rfl (take_ofW HT_.out HW_.out (by kernel_rfl)) (fun _ _ _ h => h) (Or.inl ⟨by rfl, ?_⟩) hHeld ?_ ?_
          rotate_left
          · rintro w' ⟨s0, s1, s2, s3, s4, s5, s6⟩
            go_simp
            with_reducible rfl
          rotate_left
          · simp only [Act.put, List.setIfInBounds_toArray, List.set_cons_zero, List.set_cons_succ, i64_w, i32_w]
            rfl
          refine one_ (i := 1) (N := some 18) #[true, true, true, false, false, false, false, false, false, false, false, false, false, false, false, false, false] rfl rfl (one_of HT_.out (by kernel_rfl)) (by decide) (fun K hK => ?_)
          refine goes_ Try.func11 (by kernel_rfl) rfl #[.agg #[.int .i64 a1_0, .int .i64 a1_1, .int .i64 a1_2, .int .i64 a1_3, .int .i64 a1_4, .int .i64 a1_5, .bool a1_6]] (by rfl) rfl rfl (by (try simp only [List.map_toArray, List.map_cons, List.map_nil]); first | done | rfl | (simp only [List.length_drop, List.length_take]; rfl)) ?_
          with_reducible refine (monitor_Valid.calls a1_0 a1_1 a1_2 a1_3 a1_4 a1_5 a1_6 t393 _ A18.out).mono ?_
          rintro e w30 ⟨rfl, hb⟩
          refine ⟨_, rfl, ?_⟩
          have n0_ := bxb BK382 hb
          have n1_ := bxb BK383 hb
          have n2_ := bxb BK392 hb
          have n3_ := Aside0.mk (below_step (bwt HB) hb)
          clear BK382
          clear BK383
          clear BK392
          clear HB
          have BK382 := n0_
          have BK383 := n1_
          have BK392 := n2_
          have HB := n3_
          clear n0_ n1_ n2_ n3_
          (try clear hb)
          (try clear hb2)
          (try clear hk)
          (try clear hi)
          refine hK.out _ _ ⟨bc BK383 0, bc BK383 1, bc BK383 2, bc BK383 3, bc BK383 4, bc BK383 5, bc BK383 6⟩ (fun hHeld => ?_)
          clear hK K
          refine norm_ (a' := ?_) ?_ ?_
          rotate_left
          · show Act.put _ (some 18) _ = _
            simp only [Act.put, List.setIfInBounds_toArray, List.set_cons_zero, List.set_cons_succ, i64_w, i32_w]
            rfl
          refine one_ (i := 3) (N := some 20) #[true, true, true, true, false, false, false, false, false, false, false, false, false, false, false, false, false] rfl rfl (one_of HT_.out (by kernel_rfl)) (by decide) (fun K hK => ?_)
          refine goes_ Try.func12 (by kernel_rfl) rfl #[.agg #[.int .i64 a1_0, .int .i64 a1_1, .int .i64 a1_2, .int .i64 a1_3, .int .i64 a1_4, .int .i64 a1_5, .bool a1_6]] (by rfl) rfl rfl (by (try simp only [List.map_toArray, List.map_cons, List.map_nil]); first | done | rfl | (simp only [List.length_drop, List.length_take]; rfl)) ?_
          with_reducible refine (wireloomref45_Valid.calls k a1_0 a1_1 a1_2 a1_3 a1_4 a1_5 a1_6 t394 _ A19.out).mono ?_
          rintro e w31 ⟨rfl, hb⟩
          refine ⟨_, rfl, ?_⟩
          have n0_ := bxb BK382 hb
          have n1_ := bxb BK383 hb
          have n2_ := bxb BK392 hb
          have n3_ := Aside0.mk (below_step (bwt HB) hb)
          clear BK382
          clear BK383
          clear BK392
          clear HB
          have BK382 := n0_
          have BK383 := n1_
          have BK392 := n2_
          have HB := n3_
          clear n0_ n1_ n2_ n3_
          (try clear hb)
          (try clear hb2)
          (try clear hk)
          (try clear hi)
          refine hK.out _ _ ⟨bc BK383 0, bc BK383 1, bc BK383 2, bc BK383 3, bc BK383 4, bc BK383 5, bc BK383 6⟩ (fun hHeld => ?_)
          clear hK K
          refine norm_ (a' := ?_) ?_ ?_
          rotate_left
          · show Act.put _ (some 20) _ = _
            simp only [Act.put, List.setIfInBounds_toArray, List.set_cons_zero, List.set_cons_succ, i64_w, i32_w]
            rfl
          refine pure_ (i := 4) (N := some 21) (v := ?_) (a' := ?_) #[true, true, true, true, true, false, false, false, false, false, false, false, false, false, false, false, false] rfl rfl (any_of HT_.out (by kernel_rfl)) (fun _ _ _ h => h) (Or.inl ⟨by rfl, ?_⟩) ?_ ?_
          rotate_left
          · intro w'
            go_simp
            with_reducible rfl
          rotate_left
          · simp only [Act.put, List.setIfInBounds_toArray, List.set_cons_zero, List.set_cons_succ, i64_w, i32_w]
            rfl
          refine pure_ (i := 5) (N := some 22) (v := ?_) (a' := ?_) #[true, true, true, true, true, true, false, false, false, false, false, false, false, false, false, false, false] rfl rfl (any_of HT_.out (by kernel_rfl)) (fun _ _ _ h => h) (Or.inl ⟨by rfl, ?_⟩) ?_ ?_
          rotate_left
          · intro w'
            go_simp
            with_reducible rfl
          rotate_left
          · simp only [Act.put, List.setIfInBounds_toArray, List.set_cons_zero, List.set_cons_succ, i64_w, i32_w]
            rfl
          refine take_ (i := 6) (N := some 23) (v := ?_) (a' := ?_) #[true, true, true, true, true, true, true, false, false, false, false, false, false, false, false, false, false] rfl rfl (take_ofW HT_.out HW_.out (by kernel_rfl)) (fun _ _ _ h => h) (Or.inl ⟨by rfl, ?_⟩) hHeld ?_ ?_
          rotate_left
          · rintro w' ⟨s0, s1, s2, s3, s4, s5, s6⟩
            go_simp
            with_reducible rfl
          rotate_left
          · simp only [Act.put, List.setIfInBounds_toArray, List.set_cons_zero, List.set_cons_succ, i64_w, i32_w]
            rfl
          refine take_ (i := 8) (N := some 25) (v := ?_) (a' := ?_) #[true, true, true, true, true, true, true, false, true, false, false, false, false, false, false, false, false] rfl rfl (take_ofW HT_.out HW_.out (by kernel_rfl)) (fun _ _ _ h => h) (Or.inl ⟨by rfl, ?_⟩) hHeld ?_ ?_
          rotate_left
          · rintro w' ⟨s0, s1, s2, s3, s4, s5, s6⟩
            go_simp
            with_reducible rfl
          rotate_left
          · simp only [Act.put, List.setIfInBounds_toArray, List.set_cons_zero, List.set_cons_succ, i64_w, i32_w]
            rfl
          refine one_ (i := 7) (N := some 24) #[true, true, true, true, true, true, true, true, true, false, false, false, false, false, false, false, false] rfl rfl (one_of HT_.out (by kernel_rfl)) (by decide) (fun K hK => ?_)
          refine goes_ Try.func13 (by kernel_rfl) rfl #[.agg #[.int .i64 a1_0, .int .i64 a1_1, .int .i64 a1_2, .int .i64 a1_3, .int .i64 a1_4, .int .i64 a1_5, .bool a1_6]] (by rfl) rfl rfl (by (try simp only [List.map_toArray, List.map_cons, List.map_nil]); first | done | rfl | (simp only [List.length_drop, List.length_take]; rfl)) ?_
          with_reducible refine (wireloomlaw45_made.calls a1_0 a1_1 a1_2 a1_3 a1_4 a1_5 a1_6 t395 t396 t397 t398 t399 t400 t401 t402 _ A25.out).mono ?_
          rintro e w32 ⟨rfl, hb⟩
          refine ⟨_, rfl, ?_⟩
          have n0_ := bxb BK382 hb
          have n1_ := bxb BK383 hb
          have n2_ := bxb BK392 hb
          have n3_ := Aside0.mk (below_step (bwt HB) hb)
          clear BK382
          clear BK383
          clear BK392
          clear HB
          have BK382 := n0_
          have BK383 := n1_
          have BK392 := n2_
          have HB := n3_
          clear n0_ n1_ n2_ n3_
          (try clear hb)
          (try clear hb2)
          (try clear hk)
          (try clear hi)
          refine hK.out _ _ ⟨bc BK383 0, bc BK383 1, bc BK383 2, bc BK383 3, bc BK383 4, bc BK383 5, bc BK383 6⟩ (fun hHeld => ?_)
          clear hK K
          refine norm_ (a' := ?_) ?_ ?_
          rotate_left
          · show Act.put _ (some 24) _ = _
            simp only [Act.put, List.setIfInBounds_toArray, List.set_cons_zero, List.set_cons_succ, i64_w, i32_w]
            rfl
          refine one_ (i := 9) (N := some 26) #[true, true, true, true, true, true, true, true, true, true, false, false, false, false, false, false, false] rfl rfl (one_of HT_.out (by kernel_rfl)) (by decide) (fun K hK => ?_)
          refine goes_ Try.func14 (by kernel_rfl) rfl #[.agg #[.int .i64 a1_0, .int .i64 a1_1, .int .i64 a1_2, .int .i64 a1_3, .int .i64 a1_4, .int .i64 a1_5, .bool a1_6]] (by rfl) rfl rfl (by (try simp only [List.map_toArray, List.map_cons, List.map_nil]); first | done | rfl | (simp only [List.length_drop, List.length_take]; rfl)) ?_
          with_reducible refine (wireloomref45_NewIn.calls k a1_0 a1_1 a1_2 a1_3 a1_4 a1_5 a1_6 t403 t404 t405 t406 t407 t408 t409 t410 _ A26.out).mono ?_
          rintro e w33 ⟨rfl, hb⟩
          refine ⟨_, rfl, ?_⟩
          have n0_ := bxb BK382 hb
          have n1_ := bxb BK383 hb
          have n2_ := bxb BK392 hb
          have n3_ := Aside0.mk (below_step (bwt HB) hb)
          clear BK382
          clear BK383
          clear BK392
          clear HB
          have BK382 := n0_
          have BK383 := n1_
          have BK392 := n2_
          have HB := n3_
          clear n0_ n1_ n2_ n3_
          (try clear hb)
          (try clear hb2)
          (try clear hk)
          (try clear hi)
          refine hK.out _ _ ⟨bc BK383 0, bc BK383 1, bc BK383 2, bc BK383 3, bc BK383 4, bc BK383 5, bc BK383 6⟩ (fun hHeld => ?_)
          clear hK K
          refine norm_ (a' := ?_) ?_ ?_
          rotate_left
          · show Act.put _ (some 26) _ = _
            simp only [Act.put, List.setIfInBounds_toArray, List.set_cons_zero, List.set_cons_succ, i64_w, i32_w]
            rfl
          refine pure_ (i := 10) (N := some 27) (v := ?_) (a' := ?_) #[true, true, true, true, true, true, true, true, true, true, true, false, false, false, false, false, false] rfl rfl (any_of HT_.out (by kernel_rfl)) (fun _ _ _ h => h) (Or.inl ⟨by rfl, ?_⟩) ?_ ?_
          rotate_left
          · intro w'
            go_simp
            with_reducible rfl
          rotate_left
          · simp only [Act.put, List.setIfInBounds_toArray, List.set_cons_zero, List.set_cons_succ, i64_w, i32_w]
            rfl
          refine pure_ (i := 11) (N := some 28) (v := ?_) (a' := ?_) #[true, true, true, true, true, true, true, true, true, true, true, true, false, false, false, false, false] rfl rfl (any_of HT_.out (by kernel_rfl)) (fun _ _ _ h => h) (Or.inl ⟨by rfl, ?_⟩) ?_ ?_
          rotate_left
          · intro w'
            go_simp
            with_reducible rfl
          rotate_left
          · simp only [Act.put, List.setIfInBounds_toArray, List.set_cons_zero, List.set_cons_succ, i64_w, i32_w]
            rfl
          refine pure_ (i := 12) (N := some 29) (v := ?_) (a' := ?_) #[true, true, true, true, true, true, true, true, true, true, true, true, true, false, false, false, false] rfl rfl (any_of HT_.out (by kernel_rfl)) (fun _ _ _ h => h) (Or.inl ⟨by rfl, ?_⟩) ?_ ?_
          rotate_left
          · intro w'
            go_simp
            with_reducible rfl
          rotate_left
          · simp only [Act.put, List.setIfInBounds_toArray, List.set_cons_zero, List.set_cons_succ, i64_w, i32_w]
            rfl
          refine pure_ (i := 13) (N := some 30) (v := undef) (a' := ?_) #[true, true, true, true, true, true, true, true, true, true, true, true, true, true, false, false, false] rfl rfl (any_of HT_.out (by kernel_rfl)) (fun _ _ _ h => h) (Or.inr ⟨by rfl, rfl⟩) ?_ ?_
          rotate_left
          · simp only [Act.put, List.setIfInBounds_toArray, List.set_cons_zero, List.set_cons_succ, i64_w, i32_w]
            rfl
          refine pure_ (i := 14) (N := some 31) (v := undef) (a' := ?_) #[true, true, true, true, true, true, true, true, true, true, true, true, true, true, true, false, false] rfl rfl (any_of HT_.out (by kernel_rfl)) (fun _ _ _ h => h) (Or.inr ⟨by rfl, rfl⟩) ?_ ?_
          rotate_left
          · simp only [Act.put, List.setIfInBounds_toArray, List.set_cons_zero, List.set_cons_succ, i64_w, i32_w]
            rfl
          refine pure_ (i := 15) (N := some 32) (v := undef) (a' := ?_) #[true, true, true, true, true, true, true, true, true, true, true, true, true, true, true, true, false] rfl rfl (any_of HT_.out (by kernel_rfl)) (fun _ _ _ h => h) (Or.inr ⟨by rfl, rfl⟩) ?_ ?_
          rotate_left
          · simp only [Act.put, List.setIfInBounds_toArray, List.set_cons_zero, List.set_cons_succ, i64_w, i32_w]
            rfl
          refine pure_ (i := 16) (N := some 33) (v := ?_) (a' := ?_) #[true, true, true, true, true, true, true, true, true, true, true, true, true, true, true, true, true] rfl rfl (any_of HT_.out (by kernel_rfl)) (fun _ _ _ h => h) (Or.inl ⟨by rfl, ?_⟩) ?_ ?_
          rotate_left
          · intro w'
            go_simp
            with_reducible rfl
          rotate_left
          · simp only [Act.put, List.setIfInBounds_toArray, List.set_cons_zero, List.set_cons_succ, i64_w, i32_w]
            rfl
          refine done_ (done_of HT_.out (by kernel_rfl)) ?_
          try go_wp2
          go_meet
          case rel => exact ⟨_, (true), (by first | rfl | (simp; done) | (simp [*]; done)), H', ⟨by first | omega | exact Nat.le_refl _⟩, ⟨by (with_reducible repeat refine bp_ ?_); exact BK382.out⟩, ⟨by (with_reducible repeat refine bp_ ?_); exact BK383.out⟩, ⟨by (with_reducible repeat refine bp_ ?_); exact BK392.out⟩, ⟨by repeat (first | (with_reducible first | exact HB.out | apply below_alloc | apply pw_below_drewN | apply below_drew1 | refine below_set ?_ GE382.out | refine below_set ?_ GE383.out | refine below_set ?_ GE392.out) | exact HB.out)⟩⟩
        · rw [if_neg c27] at H
          have c27b0 : ((!(t395 == t403) || (!(t396 == t404) || (!(t397 == t405) || (!(t398 == t406) || (!(t399 == t407) || (!(t400 == t408) || (!(t401 == t409)))))))) || (!(t402 == t410))) = false := by simpa using c27
          clear c27
          replace H := Option.bind_eq_some_iff.mp H
          obtain ⟨t411, A340, H⟩ := H
          replace H : (wireloomlaw45_MonitorMatchesReference.j0 k a2 true (!t411) a1_0 a1_1 a1_2 a1_3 a1_4 a1_5 a1_6 t385 t386 t387 t388 t389 t390 t391) = some r := H
          have A34 := Aside0.mk A340
          clear A340
          have H' := Aside0.mk H
          clear H
          try go_wp2
          have n0_ : Aside0 ((((((((w14.setCell ⟨gb392, 0, none⟩ (.int .i64 t385)).setCell ⟨gb392, 1, none⟩ (.int .i64 t386)).setCell ⟨gb392, 2, none⟩ (.int .i64 t387)).setCell ⟨gb392, 3, none⟩ (.int .i64 t388)).setCell ⟨gb392, 4, none⟩ (.int .i64 t389)).setCell ⟨gb392, 5, none⟩ (.int .i64 t390)).setCell ⟨gb392, 6, none⟩ (.bool t391)).heap[gb382]? = some (.cells #[.int .u8 a0_0, .int .u8 a0_1, .int .u8 a0_2, .int .u8 a0_3, .slice A0_4 l0_4.length c0_4, .int .u8 a0_5, .int .u8 a0_6] 26 (0, 0))) := ⟨by (with_reducible repeat refine bp_ ?_); refine blk_far ?_ NB382_392.out _; (with_reducible repeat refine bp_ ?_); refine blk_far ?_ NB382_392.out _; (with_reducible repeat refine bp_ ?_); refine blk_far ?_ NB382_392.out _; (with_reducible repeat refine bp_ ?_); refine blk_far ?_ NB382_392.out _; (with_reducible repeat refine bp_ ?_); refine blk_far ?_ NB382_392.out _; (with_reducible repeat refine bp_ ?_); refine blk_far ?_ NB382_392.out _; (with_reducible repeat refine bp_ ?_); refine blk_far ?_ NB382_392.out _; (with_reducible repeat refine bp_ ?_); exact BK382.out⟩
          have n1_ : Aside0 ((((((((w14.setCell ⟨gb392, 0, none⟩ (.int .i64 t385)).setCell ⟨gb392, 1, none⟩ (.int .i64 t386)).setCell ⟨gb392, 2, none⟩ (.int .i64 t387)).setCell ⟨gb392, 3, none⟩ (.int .i64 t388)).setCell ⟨gb392, 4, none⟩ (.int .i64 t389)).setCell ⟨gb392, 5, none⟩ (.int .i64 t390)).setCell ⟨gb392, 6, none⟩ (.bool t391)).heap[gb383]? = some (.cells #[.int .i64 a1_0, .int .i64 a1_1, .int .i64 a1_2, .int .i64 a1_3, .int .i64 a1_4, .int .i64 a1_5, .bool a1_6] 28 (0, 0))) := ⟨by (with_reducible repeat refine bp_ ?_); refine blk_far ?_ NB383_392.out _; (with_reducible repeat refine bp_ ?_); refine blk_far ?_ NB383_392.out _; (with_reducible repeat refine bp_ ?_); refine blk_far ?_ NB383_392.out _; (with_reducible repeat refine bp_ ?_); refine blk_far ?_ NB383_392.out _; (with_reducible repeat refine bp_ ?_); refine blk_far ?_ NB383_392.out _; (with_reducible repeat refine bp_ ?_); refine blk_far ?_ NB383_392.out _; (with_reducible repeat refine bp_ ?_); refine blk_far ?_ NB383_392.out _; (with_reducible repeat refine bp_ ?_); exact BK383.out⟩
          have n2_ : Aside0 ((((((((w14.setCell ⟨gb392, 0, none⟩ (.int .i64 t385)).setCell ⟨gb392, 1, none⟩ (.int .i64 t386)).setCell ⟨gb392, 2, none⟩ (.int .i64 t387)).setCell ⟨gb392, 3, none⟩ (.int .i64 t388)).setCell ⟨gb392, 4, none⟩ (.int .i64 t389)).setCell ⟨gb392, 5, none⟩ (.int .i64 t390)).setCell ⟨gb392, 6, none⟩ (.bool t391)).heap[gb392]? = some (.cells #[.int .i64 t385, .int .i64 t386, .int .i64 t387, .int .i64 t388, .int .i64 t389, .int .i64 t390, .bool t391] 28 (0, 0))) := ⟨by (with_reducible repeat refine bp_ ?_); refine blk_put (cs := #[.int .i64 t385, .int .i64 t386, .int .i64 t387, .int .i64 t388, .int .i64 t389, .int .i64 t390, .bool false]) ?_ 6 _ rfl; (with_reducible repeat refine bp_ ?_); refine blk_put (cs := #[.int .i64 t385, .int .i64 t386, .int .i64 t387, .int .i64 t388, .int .i64 t389, .int .i64 0, .bool false]) ?_ 5 _ rfl; (with_reducible repeat refine bp_ ?_); refine blk_put (cs := #[.int .i64 t385, .int .i64 t386, .int .i64 t387, .int .i64 t388, .int .i64 0, .int .i64 0, .bool false]) ?_ 4 _ rfl; (with_reducible repeat refine bp_ ?_); refine blk_put (cs := #[.int .i64 t385, .int .i64 t386, .int .i64 t387, .int .i64 0, .int .i64 0, .int .i64 0, .bool false]) ?_ 3 _ rfl; (with_reducible repeat refine bp_ ?_); refine blk_put (cs := #[.int .i64 t385, .int .i64 t386, .int .i64 0, .int .i64 0, .int .i64 0, .int .i64 0, .bool false]) ?_ 2 _ rfl; (with_reducible repeat refine bp_ ?_); refine blk_put (cs := #[.int .i64 t385, .int .i64 0, .int .i64 0, .int .i64 0, .int .i64 0, .int .i64 0, .bool false]) ?_ 1 _ rfl; (with_reducible repeat refine bp_ ?_); refine blk_put (cs := #[.int .i64 0, .int .i64 0, .int .i64 0, .int .i64 0, .int .i64 0, .int .i64 0, .bool false]) ?_ 0 _ rfl; (with_reducible repeat refine bp_ ?_); exact BK392.out⟩
          have n3_ : Aside0 (Below w.heap.size w (((((((w14.setCell ⟨gb392, 0, none⟩ (.int .i64 t385)).setCell ⟨gb392, 1, none⟩ (.int .i64 t386)).setCell ⟨gb392, 2, none⟩ (.int .i64 t387)).setCell ⟨gb392, 3, none⟩ (.int .i64 t388)).setCell ⟨gb392, 4, none⟩ (.int .i64 t389)).setCell ⟨gb392, 5, none⟩ (.int .i64 t390)).setCell ⟨gb392, 6, none⟩ (.bool t391))) := ⟨by repeat (first | (with_reducible first | exact HB.out | apply below_alloc | apply pw_below_drewN | apply below_drew1 | refine below_set ?_ GE382.out | refine below_set ?_ GE383.out | refine below_set ?_ GE392.out) | exact HB.out)⟩
          (try clear BK382)
          (try clear BK383)
          (try clear BK392)
          (try clear HB)
          generalize (((((((w14.setCell ⟨gb392, 0, none⟩ (.int .i64 t385)).setCell ⟨gb392, 1, none⟩ (.int .i64 t386)).setCell ⟨gb392, 2, none⟩ (.int .i64 t387)).setCell ⟨gb392, 3, none⟩ (.int .i64 t388)).setCell ⟨gb392, 4, none⟩ (.int .i64 t389)).setCell ⟨gb392, 5, none⟩ (.int .i64 t390)).setCell ⟨gb392, 6, none⟩ (.bool t391)) = w35 at n0_ n1_ n2_ n3_ ⊢
          have BK382 := n0_
          have BK383 := n1_
          have BK392 := n2_
          have HB := n3_
          clear n0_ n1_ n2_ n3_
          have n0_ := Aside0.mk (blk_drew BK382.out)
          have n1_ := Aside0.mk (blk_drew BK383.out)
          have n2_ := Aside0.mk (blk_drew BK392.out)
          have n3_ := Aside0.mk (below_drew1 HB.out)
          clear BK382
          clear BK383
          clear BK392
          clear HB
          have BK382 := n0_
          have BK383 := n1_
          have BK392 := n2_
          have HB := n3_
          clear n0_ n1_ n2_ n3_
          refine start_ (n := 17) (S := fun w' => w'.cell? ⟨gb383, 0, none⟩ = some (.int .i64 a1_0) ∧ w'.cell? ⟨gb383, 1, none⟩ = some (.int .i64 a1_1) ∧ w'.cell? ⟨gb383, 2, none⟩ = some (.int .i64 a1_2) ∧ w'.cell? ⟨gb383, 3, none⟩ = some (.int .i64 a1_3) ∧ w'.cell? ⟨gb383, 4, none⟩ = some (.int .i64 a1_4) ∧ w'.cell? ⟨gb383, 5, none⟩ = some (.int .i64 a1_5) ∧ w'.cell? ⟨gb383, 6, none⟩ = some (.bool a1_6) ∧ w'.cell? ⟨gb392, 0, none⟩ = some (.int .i64 t385) ∧ w'.cell? ⟨gb392, 1, none⟩ = some (.int .i64 t386) ∧ w'.cell? ⟨gb392, 2, none⟩ = some (.int .i64 t387) ∧ w'.cell? ⟨gb392, 3, none⟩ = some (.int .i64 t388) ∧ w'.cell? ⟨gb392, 4, none⟩ = some (.int .i64 t389) ∧ w'.cell? ⟨gb392, 5, none⟩ = some (.int .i64 t390) ∧ w'.cell? ⟨gb392, 6, none⟩ = some (.bool t391)) (ds := []) #[false, false, false, false, false, false, false, false, false, false, false, false, false, false, false, false, false] (by kernel_rfl) rfl rfl ⟨bc BK383 0, bc BK383 1, bc BK383 2, bc BK383 3, bc BK383 4, bc BK383 5, bc BK383 6, bc BK392 0, bc BK392 1, bc BK392 2, bc BK392 3, bc BK392 4, bc BK392 5, bc BK392 6⟩ (fun hHeld => ?_); refine with_tabW wireloomlaw45_MonitorMatchesReference.tab5 wireloomlaw45_MonitorMatchesReference.bits5 (fun HT_ HW_ => ?_)
          generalize w35.drew = w36 at BK382 BK383 BK392 HB hHeld ⊢
          refine take_ (i := 0) (N := some 17) (v := ?_) (a' := ?_) #[true, false, false, false, false, false, false, false, false, false, false, false, false, false, false, false, false] rfl rfl (take_ofW HT_.out HW_.out (by kernel_rfl)) (fun _ _ _ h => h) (Or.inl ⟨by rfl, ?_⟩) hHeld ?_ ?_
          rotate_left
          · rintro w' ⟨s0, s1, s2, s3, s4, s5, s6, s7, s8, s9, s10, s11, s12, s13⟩
            go_simp
            with_reducible rfl
          rotate_left
          · simp only [Act.put, List.setIfInBounds_toArray, List.set_cons_zero, List.set_cons_succ, i64_w, i32_w]
            rfl
          refine take_ (i := 2) (N := some 19) (v := ?_) (a' := ?_) #[true, false, true, false, false, false, false, false, false, false, false, false, false, false, false, false, false] rfl rfl (take_ofW HT_.out HW_.out (by kernel_rfl)) (fun _ _ _ h => h) (Or.inl ⟨by rfl, ?_⟩) hHeld ?_ ?_
          rotate_left
          · rintro w' ⟨s0, s1, s2, s3, s4, s5, s6, s7, s8, s9, s10, s11, s12, s13⟩
            go_simp
            with_reducible rfl
          rotate_left
          · simp only [Act.put, List.setIfInBounds_toArray, List.set_cons_zero, List.set_cons_succ, i64_w, i32_w]
            rfl
          refine one_ (i := 1) (N := some 18) #[true, true, true, false, false, false, false, false, false, false, false, false, false, false, false, false, false] rfl rfl (one_of HT_.out (by kernel_rfl)) (by decide) (fun K hK => ?_)
          refine goes_ Try.func11 (by kernel_rfl) rfl #[.agg #[.int .i64 a1_0, .int .i64 a1_1, .int .i64 a1_2, .int .i64 a1_3, .int .i64 a1_4, .int .i64 a1_5, .bool a1_6]] (by rfl) rfl rfl (by (try simp only [List.map_toArray, List.map_cons, List.map_nil]); first | done | rfl | (simp only [List.length_drop, List.length_take]; rfl)) ?_
          with_reducible refine (monitor_Valid.calls a1_0 a1_1 a1_2 a1_3 a1_4 a1_5 a1_6 t393 _ A18.out).mono ?_
          rintro e w37 ⟨rfl, hb⟩
          refine ⟨_, rfl, ?_⟩
          have n0_ := bxb BK382 hb
          have n1_ := bxb BK383 hb
          have n2_ := bxb BK392 hb
          have n3_ := Aside0.mk (below_step (bwt HB) hb)
          clear BK382
          clear BK383
          clear BK392
          clear HB
          have BK382 := n0_
          have BK383 := n1_
          have BK392 := n2_
          have HB := n3_
          clear n0_ n1_ n2_ n3_
          (try clear hb)
          (try clear hb2)
          (try clear hk)
          (try clear hi)
          refine hK.out _ _ ⟨bc BK383 0, bc BK383 1, bc BK383 2, bc BK383 3, bc BK383 4, bc BK383 5, bc BK383 6, bc BK392 0, bc BK392 1, bc BK392 2, bc BK392 3, bc BK392 4, bc BK392 5, bc BK392 6⟩ (fun hHeld => ?_)
          clear hK K
          refine norm_ (a' := ?_) ?_ ?_
          rotate_left
          · show Act.put _ (some 18) _ = _
            simp only [Act.put, List.setIfInBounds_toArray, List.set_cons_zero, List.set_cons_succ, i64_w, i32_w]
            rfl
          refine one_ (i := 3) (N := some 20) #[true, true, true, true, false, false, false, false, false, false, false, false, false, false, false, false, false] rfl rfl (one_of HT_.out (by kernel_rfl)) (by decide) (fun K hK => ?_)
          refine goes_ Try.func12 (by kernel_rfl) rfl #[.agg #[.int .i64 a1_0, .int .i64 a1_1, .int .i64 a1_2, .int .i64 a1_3, .int .i64 a1_4, .int .i64 a1_5, .bool a1_6]] (by rfl) rfl rfl (by (try simp only [List.map_toArray, List.map_cons, List.map_nil]); first | done | rfl | (simp only [List.length_drop, List.length_take]; rfl)) ?_
          with_reducible refine (wireloomref45_Valid.calls k a1_0 a1_1 a1_2 a1_3 a1_4 a1_5 a1_6 t394 _ A19.out).mono ?_
          rintro e w38 ⟨rfl, hb⟩
          refine ⟨_, rfl, ?_⟩
          have n0_ := bxb BK382 hb
          have n1_ := bxb BK383 hb
          have n2_ := bxb BK392 hb
          have n3_ := Aside0.mk (below_step (bwt HB) hb)
          clear BK382
          clear BK383
          clear BK392
          clear HB
          have BK382 := n0_
          have BK383 := n1_
          have BK392 := n2_
          have HB := n3_
          clear n0_ n1_ n2_ n3_
          (try clear hb)
          (try clear hb2)
          (try clear hk)
          (try clear hi)
          refine hK.out _ _ ⟨bc BK383 0, bc BK383 1, bc BK383 2, bc BK383 3, bc BK383 4, bc BK383 5, bc BK383 6, bc BK392 0, bc BK392 1, bc BK392 2, bc BK392 3, bc BK392 4, bc BK392 5, bc BK392 6⟩ (fun hHeld => ?_)
          clear hK K
          refine norm_ (a' := ?_) ?_ ?_
          rotate_left
          · show Act.put _ (some 20) _ = _
            simp only [Act.put, List.setIfInBounds_toArray, List.set_cons_zero, List.set_cons_succ, i64_w, i32_w]
            rfl
          refine pure_ (i := 4) (N := some 21) (v := ?_) (a' := ?_) #[true, true, true, true, true, false, false, false, false, false, false, false, false, false, false, false, false] rfl rfl (any_of HT_.out (by kernel_rfl)) (fun _ _ _ h => h) (Or.inl ⟨by rfl, ?_⟩) ?_ ?_
          rotate_left
          · intro w'
            go_simp
            with_reducible rfl
          rotate_left
          · simp only [Act.put, List.setIfInBounds_toArray, List.set_cons_zero, List.set_cons_succ, i64_w, i32_w]
            rfl
          refine pure_ (i := 5) (N := some 22) (v := ?_) (a' := ?_) #[true, true, true, true, true, true, false, false, false, false, false, false, false, false, false, false, false] rfl rfl (any_of HT_.out (by kernel_rfl)) (fun _ _ _ h => h) (Or.inl ⟨by rfl, ?_⟩) ?_ ?_
          rotate_left
          · intro w'
            go_simp
            with_reducible rfl
          rotate_left
          · simp only [Act.put, List.setIfInBounds_toArray, List.set_cons_zero, List.set_cons_succ, i64_w, i32_w]
            rfl
          refine take_ (i := 6) (N := some 23) (v := ?_) (a' := ?_) #[true, true, true, true, true, true, true, false, false, false, false, false, false, false, false, false, false] rfl rfl (take_ofW HT_.out HW_.out (by kernel_rfl)) (fun _ _ _ h => h) (Or.inl ⟨by rfl, ?_⟩) hHeld ?_ ?_
          rotate_left
          · rintro w' ⟨s0, s1, s2, s3, s4, s5, s6, s7, s8, s9, s10, s11, s12, s13⟩
            go_simp
            with_reducible rfl
          rotate_left
          · simp only [Act.put, List.setIfInBounds_toArray, List.set_cons_zero, List.set_cons_succ, i64_w, i32_w]
            rfl
          refine take_ (i := 8) (N := some 25) (v := ?_) (a' := ?_) #[true, true, true, true, true, true, true, false, true, false, false, false, false, false, false, false, false] rfl rfl (take_ofW HT_.out HW_.out (by kernel_rfl)) (fun _ _ _ h => h) (Or.inl ⟨by rfl, ?_⟩) hHeld ?_ ?_
          rotate_left
          · rintro w' ⟨s0, s1, s2, s3, s4, s5, s6, s7, s8, s9, s10, s11, s12, s13⟩
            go_simp
            with_reducible rfl
          rotate_left
          · simp only [Act.put, List.setIfInBounds_toArray, List.set_cons_zero, List.set_cons_succ, i64_w, i32_w]
            rfl
          refine one_ (i := 7) (N := some 24) #[true, true, true, true, true, true, true, true, true, false, false, false, false, false, false, false, false] rfl rfl (one_of HT_.out (by kernel_rfl)) (by decide) (fun K hK => ?_)
          refine goes_ Try.func13 (by kernel_rfl) rfl #[.agg #[.int .i64 a1_0, .int .i64 a1_1, .int .i64 a1_2, .int .i64 a1_3, .int .i64 a1_4, .int .i64 a1_5, .bool a1_6]] (by rfl) rfl rfl (by (try simp only [List.map_toArray, List.map_cons, List.map_nil]); first | done | rfl | (simp only [List.length_drop, List.length_take]; rfl)) ?_
          with_reducible refine (wireloomlaw45_made.calls a1_0 a1_1 a1_2 a1_3 a1_4 a1_5 a1_6 t395 t396 t397 t398 t399 t400 t401 t402 _ A25.out).mono ?_
          rintro e w39 ⟨rfl, hb⟩
          refine ⟨_, rfl, ?_⟩
          have n0_ := bxb BK382 hb
          have n1_ := bxb BK383 hb
          have n2_ := bxb BK392 hb
          have n3_ := Aside0.mk (below_step (bwt HB) hb)
          clear BK382
          clear BK383
          clear BK392
          clear HB
          have BK382 := n0_
          have BK383 := n1_
          have BK392 := n2_
          have HB := n3_
          clear n0_ n1_ n2_ n3_
          (try clear hb)
          (try clear hb2)
          (try clear hk)
          (try clear hi)
          refine hK.out _ _ ⟨bc BK383 0, bc BK383 1, bc BK383 2, bc BK383 3, bc BK383 4, bc BK383 5, bc BK383 6, bc BK392 0, bc BK392 1, bc BK392 2, bc BK392 3, bc BK392 4, bc BK392 5, bc BK392 6⟩ (fun hHeld => ?_)
          clear hK K
          refine norm_ (a' := ?_) ?_ ?_
          rotate_left
          · show Act.put _ (some 24) _ = _
            simp only [Act.put, List.setIfInBounds_toArray, List.set_cons_zero, List.set_cons_succ, i64_w, i32_w]
            rfl
          refine one_ (i := 9) (N := some 26) #[true, true, true, true, true, true, true, true, true, true, false, false, false, false, false, false, false] rfl rfl (one_of HT_.out (by kernel_rfl)) (by decide) (fun K hK => ?_)
          refine goes_ Try.func14 (by kernel_rfl) rfl #[.agg #[.int .i64 a1_0, .int .i64 a1_1, .int .i64 a1_2, .int .i64 a1_3, .int .i64 a1_4, .int .i64 a1_5, .bool a1_6]] (by rfl) rfl rfl (by (try simp only [List.map_toArray, List.map_cons, List.map_nil]); first | done | rfl | (simp only [List.length_drop, List.length_take]; rfl)) ?_
          with_reducible refine (wireloomref45_NewIn.calls k a1_0 a1_1 a1_2 a1_3 a1_4 a1_5 a1_6 t403 t404 t405 t406 t407 t408 t409 t410 _ A26.out).mono ?_
          rintro e w40 ⟨rfl, hb⟩
          refine ⟨_, rfl, ?_⟩
          have n0_ := bxb BK382 hb
          have n1_ := bxb BK383 hb
          have n2_ := bxb BK392 hb
          have n3_ := Aside0.mk (below_step (bwt HB) hb)
          clear BK382
          clear BK383
          clear BK392
          clear HB
          have BK382 := n0_
          have BK383 := n1_
          have BK392 := n2_
          have HB := n3_
          clear n0_ n1_ n2_ n3_
          (try clear hb)
          (try clear hb2)
          (try clear hk)
          (try clear hi)
          refine hK.out _ _ ⟨bc BK383 0, bc BK383 1, bc BK383 2, bc BK383 3, bc BK383 4, bc BK383 5, bc BK383 6, bc BK392 0, bc BK392 1, bc BK392 2, bc BK392 3, bc BK392 4, bc BK392 5, bc BK392 6⟩ (fun hHeld => ?_)
          clear hK K
          refine norm_ (a' := ?_) ?_ ?_
          rotate_left
          · show Act.put _ (some 26) _ = _
            simp only [Act.put, List.setIfInBounds_toArray, List.set_cons_zero, List.set_cons_succ, i64_w, i32_w]
            rfl
          refine pure_ (i := 10) (N := some 27) (v := ?_) (a' := ?_) #[true, true, true, true, true, true, true, true, true, true, true, false, false, false, false, false, false] rfl rfl (any_of HT_.out (by kernel_rfl)) (fun _ _ _ h => h) (Or.inl ⟨by rfl, ?_⟩) ?_ ?_
          rotate_left
          · intro w'
            go_simp
            with_reducible rfl
          rotate_left
          · simp only [Act.put, List.setIfInBounds_toArray, List.set_cons_zero, List.set_cons_succ, i64_w, i32_w]
            rfl
          refine pure_ (i := 11) (N := some 28) (v := ?_) (a' := ?_) #[true, true, true, true, true, true, true, true, true, true, true, true, false, false, false, false, false] rfl rfl (any_of HT_.out (by kernel_rfl)) (fun _ _ _ h => h) (Or.inl ⟨by rfl, ?_⟩) ?_ ?_
          rotate_left
          · intro w'
            go_simp
            with_reducible rfl
          rotate_left
          · simp only [Act.put, List.setIfInBounds_toArray, List.set_cons_zero, List.set_cons_succ, i64_w, i32_w]
            rfl
          refine pure_ (i := 12) (N := some 29) (v := ?_) (a' := ?_) #[true, true, true, true, true, true, true, true, true, true, true, true, true, false, false, false, false] rfl rfl (any_of HT_.out (by kernel_rfl)) (fun _ _ _ h => h) (Or.inl ⟨by rfl, ?_⟩) ?_ ?_
          rotate_left
          · intro w'
            go_simp
            with_reducible rfl
          rotate_left
          · simp only [Act.put, List.setIfInBounds_toArray, List.set_cons_zero, List.set_cons_succ, i64_w, i32_w]
            rfl
          refine take_ (i := 13) (N := some 30) (v := ?_) (a' := ?_) #[true, true, true, true, true, true, true, true, true, true, true, true, true, true, false, false, false] rfl rfl (take_ofW HT_.out HW_.out (by kernel_rfl)) (fun _ _ _ h => h) (Or.inl ⟨by rfl, ?_⟩) hHeld ?_ ?_
          rotate_left
          · rintro w' ⟨s0, s1, s2, s3, s4, s5, s6, s7, s8, s9, s10, s11, s12, s13⟩
            go_simp
            with_reducible rfl
          rotate_left
          · simp only [Act.put, List.setIfInBounds_toArray, List.set_cons_zero, List.set_cons_succ, i64_w, i32_w]
            rfl
          refine one_ (i := 14) (N := some 31) #[true, true, true, true, true, true, true, true, true, true, true, true, true, true, true, false, false] rfl rfl (one_of HT_.out (by kernel_rfl)) (by decide) (fun K hK => ?_)
          refine goes_ Try.func11 (by kernel_rfl) rfl #[.agg #[.int .i64 t385, .int .i64 t386, .int .i64 t387, .int .i64 t388, .int .i64 t389, .int .i64 t390, .bool t391]] (by rfl) rfl rfl (by (try simp only [List.map_toArray, List.map_cons, List.map_nil]); first | done | rfl | (simp only [List.length_drop, List.length_take]; rfl)) ?_
          with_reducible refine (monitor_Valid.calls t385 t386 t387 t388 t389 t390 t391 t411 _ A34.out).mono ?_
          rintro e w41 ⟨rfl, hb⟩
          refine ⟨_, rfl, ?_⟩
          have n0_ := bxb BK382 hb
          have n1_ := bxb BK383 hb
          have n2_ := bxb BK392 hb
          have n3_ := Aside0.mk (below_step (bwt HB) hb)
          clear BK382
          clear BK383
          clear BK392
          clear HB
          have BK382 := n0_
          have BK383 := n1_
          have BK392 := n2_
          have HB := n3_
          clear n0_ n1_ n2_ n3_
          (try clear hb)
          (try clear hb2)
          (try clear hk)
          (try clear hi)
          refine hK.out _ _ ⟨bc BK383 0, bc BK383 1, bc BK383 2, bc BK383 3, bc BK383 4, bc BK383 5, bc BK383 6, bc BK392 0, bc BK392 1, bc BK392 2, bc BK392 3, bc BK392 4, bc BK392 5, bc BK392 6⟩ (fun hHeld => ?_)
          clear hK K
          refine norm_ (a' := ?_) ?_ ?_
          rotate_left
          · show Act.put _ (some 31) _ = _
            simp only [Act.put, List.setIfInBounds_toArray, List.set_cons_zero, List.set_cons_succ, i64_w, i32_w]
            rfl
          refine pure_ (i := 15) (N := some 32) (v := ?_) (a' := ?_) #[true, true, true, true, true, true, true, true, true, true, true, true, true, true, true, true, false] rfl rfl (any_of HT_.out (by kernel_rfl)) (fun _ _ _ h => h) (Or.inl ⟨by rfl, ?_⟩) ?_ ?_
          rotate_left
          · intro w'
            go_simp
            with_reducible rfl
          rotate_left
          · simp only [Act.put, List.setIfInBounds_toArray, List.set_cons_zero, List.set_cons_succ, i64_w, i32_w]
            rfl
          refine pure_ (i := 16) (N := some 33) (v := ?_) (a' := ?_) #[true, true, true, true, true, true, true, true, true, true, true, true, true, true, true, true, true] rfl rfl (any_of HT_.out (by kernel_rfl)) (fun _ _ _ h => h) (Or.inl ⟨by rfl, ?_⟩) ?_ ?_
          rotate_left
          · intro w'
            go_simp
            with_reducible rfl
          rotate_left
          · simp only [Act.put, List.setIfInBounds_toArray, List.set_cons_zero, List.set_cons_succ, i64_w, i32_w]
            rfl
          refine done_ (done_of HT_.out (by kernel_rfl)) ?_
          try go_wp2
          go_meet
          case rel => exact ⟨_, (!t411), (by first | rfl | (simp; done) | (simp [*]; done)), H', ⟨by first | omega | exact Nat.le_refl _⟩, ⟨by (with_reducible repeat refine bp_ ?_); exact BK382.out⟩, ⟨by (with_reducible repeat refine bp_ ?_); exact BK383.out⟩, ⟨by (with_reducible repeat refine bp_ ?_); exact BK392.out⟩, ⟨by repeat (first | (with_reducible first | exact HB.out | apply below_alloc | apply pw_below_drewN | apply below_drew1 | refine below_set ?_ GE382.out | refine below_set ?_ GE383.out | refine below_set ?_ GE392.out) | exact HB.out)⟩⟩
    case rest =>
      clear HC7
      try clear c1
      try clear c2
      try clear p2
      try clear c11
      try clear c12
      try clear c13
      try clear c14
      try clear c20
      try clear c20b0
      try clear c20b1
      try clear c20b2
      try clear c27
      try clear c27b0
      obtain ⟨kq, x33_6, rfl, HA, HJ6, BK382, BK383, BK392, HB⟩ := hcut
      cases kq with
      | zero => exact absurd HA.out (by simp [wireloomlaw45_MonitorMatchesReference.j0])
      | succ kj6 =>
        have H := HA.out
        clear HA
        simp only [wireloomlaw45_MonitorMatchesReference.j0] at H
        by_cases c42 : x33_6 = true
        · subst c42
          have H1 : (some false) = some r := by rw [if_pos rfl] at H; exact H
          clear H
          have H := H1
          clear H1
          exact absurd ((Option.some.inj H).trans HRT.out) Bool.false_ne_true
        · replace c42 := Bool.eq_false_iff.mpr c42
          subst c42
          have H1 : ((wireloomref45_See.f t385 t386 t387 t388 t389 t390 t391 a2).bind fun bt412 => ((wireloomref45_Miss.f t385 t386 t387 t388 t389 t390 t391).bind fun bt419 => ((some (([(⟨t385, t386, t387, t388, t389, t390, t391⟩ : S28), (⟨bt412.1, bt412.2.1, bt412.2.2.1, bt412.2.2.2.1, bt412.2.2.2.2.1, bt412.2.2.2.2.2.1, bt412.2.2.2.2.2.2⟩ : S28), (⟨bt419.1, bt419.2.1, bt419.2.2.1, bt419.2.2.2.1, bt419.2.2.2.2.1, bt419.2.2.2.2.2.1, bt419.2.2.2.2.2.2⟩ : S28)] : List (S28)) : List (S28))).bind fun y426 => ((wireloomref45_Valid.f kj6 a1_0 a1_1 a1_2 a1_3 a1_4 a1_5 a1_6).bind fun t429 => (if t429 = true then (if y426.length < 2513169434916 then (wireloomlaw45_MonitorMatchesReference.j1 kj6 a2 true (y426 ++ [(⟨a1_0, a1_1, a1_2, a1_3, a1_4, a1_5, a1_6⟩ : S28)])) else (none)) else (wireloomlaw45_MonitorMatchesReference.j1 kj6 a2 true y426)))))) = some r := by rw [if_neg (show ¬ (false = true) by decide)] at H; exact H
          clear H
          have H := H1
          clear H1
          replace H := Option.bind_eq_some_iff.mp H
          obtain ⟨⟨t412, t413, t414, t415, t416, t417, t418⟩, A430, H⟩ := H
          replace H : ((wireloomref45_Miss.f t385 t386 t387 t388 t389 t390 t391).bind fun bt419 => ((some (([(⟨t385, t386, t387, t388, t389, t390, t391⟩ : S28), (⟨t412, t413, t414, t415, t416, t417, t418⟩ : S28), (⟨bt419.1, bt419.2.1, bt419.2.2.1, bt419.2.2.2.1, bt419.2.2.2.2.1, bt419.2.2.2.2.2.1, bt419.2.2.2.2.2.2⟩ : S28)] : List (S28)) : List (S28))).bind fun y426 => ((wireloomref45_Valid.f kj6 a1_0 a1_1 a1_2 a1_3 a1_4 a1_5 a1_6).bind fun t429 => (if t429 = true then (if y426.length < 2513169434916 then (wireloomlaw45_MonitorMatchesReference.j1 kj6 a2 true (y426 ++ [(⟨a1_0, a1_1, a1_2, a1_3, a1_4, a1_5, a1_6⟩ : S28)])) else (none)) else (wireloomlaw45_MonitorMatchesReference.j1 kj6 a2 true y426))))) = some r := H
          have A43 := Aside0.mk A430
          clear A430
          replace H := Option.bind_eq_some_iff.mp H
          obtain ⟨⟨t419, t420, t421, t422, t423, t424, t425⟩, A440, H⟩ := H
          replace H : ((some (([(⟨t385, t386, t387, t388, t389, t390, t391⟩ : S28), (⟨t412, t413, t414, t415, t416, t417, t418⟩ : S28), (⟨t419, t420, t421, t422, t423, t424, t425⟩ : S28)] : List (S28)) : List (S28))).bind fun y426 => ((wireloomref45_Valid.f kj6 a1_0 a1_1 a1_2 a1_3 a1_4 a1_5 a1_6).bind fun t429 => (if t429 = true then (if y426.length < 2513169434916 then (wireloomlaw45_MonitorMatchesReference.j1 kj6 a2 true (y426 ++ [(⟨a1_0, a1_1, a1_2, a1_3, a1_4, a1_5, a1_6⟩ : S28)])) else (none)) else (wireloomlaw45_MonitorMatchesReference.j1 kj6 a2 true y426)))) = some r := H
          have A44 := Aside0.mk A440
          clear A440
          obtain ⟨y426, hy426⟩ : ∃ y_ : List (S28), y_ = (([(⟨t385, t386, t387, t388, t389, t390, t391⟩ : S28), (⟨t412, t413, t414, t415, t416, t417, t418⟩ : S28), (⟨t419, t420, t421, t422, t423, t424, t425⟩ : S28)] : List (S28))) := ⟨_, rfl⟩
          replace H : ((wireloomref45_Valid.f kj6 a1_0 a1_1 a1_2 a1_3 a1_4 a1_5 a1_6).bind fun t429 => (if t429 = true then (if y426.length < 2513169434916 then (wireloomlaw45_MonitorMatchesReference.j1 kj6 a2 true (y426 ++ [(⟨a1_0, a1_1, a1_2, a1_3, a1_4, a1_5, a1_6⟩ : S28)])) else (none)) else (wireloomlaw45_MonitorMatchesReference.j1 kj6 a2 true y426))) = some r := by first | (rw [hy426]; with_reducible exact H) | (have H2_ := (Option.bind_some _ _).symm.trans H; rw [hy426]; with_reducible exact H2_) | (have H2_ := (Option.bind_some _ _).symm.trans H; with_reducible exact H2_) | with_reducible exact H | (rw [hy426]; exact H) | exact H
          have Ny426 := Aside0.mk hy426
          clear hy426
          replace H := Option.bind_eq_some_iff.mp H
          obtain ⟨t429, A450, H⟩ := H
          replace H : (if t429 = true then (if y426.length < 2513169434916 then (wireloomlaw45_MonitorMatchesReference.j1 kj6 a2 true (y426 ++ [(⟨a1_0, a1_1, a1_2, a1_3, a1_4, a1_5, a1_6⟩ : S28)])) else (none)) else (wireloomlaw45_MonitorMatchesReference.j1 kj6 a2 true y426)) = some r := H
          have A45 := Aside0.mk A450
          clear A450
          have HC46 := Aside0.mk H
          clear H
          try go_wp2
          have n0_ := Aside0.mk (blk_drew BK382.out)
          have n1_ := Aside0.mk (blk_drew BK383.out)
          have n2_ := Aside0.mk (blk_drew BK392.out)
          have n3_ := Aside0.mk (below_drew1 HB.out)
          clear BK382
          clear BK383
          clear BK392
          clear HB
          have BK382 := n0_
          have BK383 := n1_
          have BK392 := n2_
          have HB := n3_
          clear n0_ n1_ n2_ n3_
          refine start_ (n := 8) (S := fun w' => w'.cell? ⟨gb392, 0, none⟩ = some (.int .i64 t385) ∧ w'.cell? ⟨gb392, 1, none⟩ = some (.int .i64 t386) ∧ w'.cell? ⟨gb392, 2, none⟩ = some (.int .i64 t387) ∧ w'.cell? ⟨gb392, 3, none⟩ = some (.int .i64 t388) ∧ w'.cell? ⟨gb392, 4, none⟩ = some (.int .i64 t389) ∧ w'.cell? ⟨gb392, 5, none⟩ = some (.int .i64 t390) ∧ w'.cell? ⟨gb392, 6, none⟩ = some (.bool t391)) (ds := []) #[false, false, false, false, false, false, false, false] (by kernel_rfl) rfl rfl ⟨bc BK392 0, bc BK392 1, bc BK392 2, bc BK392 3, bc BK392 4, bc BK392 5, bc BK392 6⟩ (fun hHeld => ?_); refine with_tabW wireloomlaw45_MonitorMatchesReference.tab7 wireloomlaw45_MonitorMatchesReference.bits7 (fun HT_ HW_ => ?_)
          generalize wc.drew = w47 at BK382 BK383 BK392 HB hHeld ⊢
          refine pure_ (i := 2) (N := some 36) (v := ?_) (a' := ?_) #[false, false, true, false, false, false, false, false] rfl rfl (any_of HT_.out (by kernel_rfl)) (fun _ _ _ h => h) (Or.inl ⟨by rfl, ?_⟩) ?_ ?_
          rotate_left
          · intro w'
            go_simp
            with_reducible rfl
          rotate_left
          · simp only [Act.put, List.setIfInBounds_toArray, List.set_cons_zero, List.set_cons_succ, i64_w, i32_w]
            rfl
          refine take_ (i := 0) (N := some 34) (v := ?_) (a' := ?_) #[true, false, true, false, false, false, false, false] rfl rfl (take_ofW HT_.out HW_.out (by kernel_rfl)) (fun _ _ _ h => h) (Or.inl ⟨by rfl, ?_⟩) hHeld ?_ ?_
          rotate_left
          · rintro w' ⟨s0, s1, s2, s3, s4, s5, s6⟩
            go_simp
            with_reducible rfl
          rotate_left
          · simp only [Act.put, List.setIfInBounds_toArray, List.set_cons_zero, List.set_cons_succ, i64_w, i32_w]
            rfl
          refine take_ (i := 1) (N := some 35) (v := ?_) (a' := ?_) #[true, true, true, false, false, false, false, false] rfl rfl (take_ofW HT_.out HW_.out (by kernel_rfl)) (fun _ _ _ h => h) (Or.inl ⟨by rfl, ?_⟩) hHeld ?_ ?_
          rotate_left
          · rintro w' ⟨s0, s1, s2, s3, s4, s5, s6⟩
            go_simp
            with_reducible rfl
          rotate_left
          · simp only [Act.put, List.setIfInBounds_toArray, List.set_cons_zero, List.set_cons_succ, i64_w, i32_w]
            rfl
          refine take_ (i := 4) (N := some 38) (v := ?_) (a' := ?_) #[true, true, true, false, true, false, false, false] rfl rfl (take_ofW HT_.out HW_.out (by kernel_rfl)) (fun _ _ _ h => h) (Or.inl ⟨by rfl, ?_⟩) hHeld ?_ ?_
          rotate_left
          · rintro w' ⟨s0, s1, s2, s3, s4, s5, s6⟩
            go_simp
            with_reducible rfl
          rotate_left
          · simp only [Act.put, List.setIfInBounds_toArray, List.set_cons_zero, List.set_cons_succ, i64_w, i32_w]
            rfl
          refine one_ (i := 3) (N := some 37) #[true, true, true, true, true, false, false, false] rfl rfl (one_of HT_.out (by kernel_rfl)) (by decide) (fun K hK => ?_)
          refine goes_ Try.func15 (by kernel_rfl) rfl #[.agg #[.int .i64 t385, .int .i64 t386, .int .i64 t387, .int .i64 t388, .int .i64 t389, .int .i64 t390, .bool t391], .int .i64 a2] (by rfl) rfl rfl (by (try simp only [List.map_toArray, List.map_cons, List.map_nil]); first | done | rfl | (simp only [List.length_drop, List.length_take]; rfl)) ?_
          with_reducible refine (wireloomref45_See.calls t385 t386 t387 t388 t389 t390 t391 a2 t412 t413 t414 t415 t416 t417 t418 _ A43.out).mono ?_
          rintro e w48 ⟨rfl, hb⟩
          refine ⟨_, rfl, ?_⟩
          have n0_ := bxb BK382 hb
          have n1_ := bxb BK383 hb
          have n2_ := bxb BK392 hb
          have n3_ := Aside0.mk (below_step (bwt HB) hb)
          clear BK382
          clear BK383
          clear BK392
          clear HB
          have BK382 := n0_
          have BK383 := n1_
          have BK392 := n2_
          have HB := n3_
          clear n0_ n1_ n2_ n3_
          (try clear hb)
          (try clear hb2)
          (try clear hk)
          (try clear hi)
          refine hK.out _ _ ⟨bc BK392 0, bc BK392 1, bc BK392 2, bc BK392 3, bc BK392 4, bc BK392 5, bc BK392 6⟩ (fun hHeld => ?_)
          clear hK K
          refine norm_ (a' := ?_) ?_ ?_
          rotate_left
          · show Act.put _ (some 37) _ = _
            simp only [Act.put, List.setIfInBounds_toArray, List.set_cons_zero, List.set_cons_succ, i64_w, i32_w]
            rfl
          refine one_ (i := 5) (N := some 39) #[true, true, true, true, true, true, false, false] rfl rfl (one_of HT_.out (by kernel_rfl)) (by decide) (fun K hK => ?_)
          refine goes_ Try.func16 (by kernel_rfl) rfl #[.agg #[.int .i64 t385, .int .i64 t386, .int .i64 t387, .int .i64 t388, .int .i64 t389, .int .i64 t390, .bool t391]] (by rfl) rfl rfl (by (try simp only [List.map_toArray, List.map_cons, List.map_nil]); first | done | rfl | (simp only [List.length_drop, List.length_take]; rfl)) ?_
          with_reducible refine (wireloomref45_Miss.calls t385 t386 t387 t388 t389 t390 t391 t419 t420 t421 t422 t423 t424 t425 _ A44.out).mono ?_
          rintro e w49 ⟨rfl, hb⟩
          refine ⟨_, rfl, ?_⟩
          have n0_ := bxb BK382 hb
          have n1_ := bxb BK383 hb
          have n2_ := bxb BK392 hb
          have n3_ := Aside0.mk (below_step (bwt HB) hb)
          clear BK382
          clear BK383
          clear BK392
          clear HB
          have BK382 := n0_
          have BK383 := n1_
          have BK392 := n2_
          have HB := n3_
          clear n0_ n1_ n2_ n3_
          (try clear hb)
          (try clear hb2)
          (try clear hk)
          (try clear hi)
          refine hK.out _ _ ⟨bc BK392 0, bc BK392 1, bc BK392 2, bc BK392 3, bc BK392 4, bc BK392 5, bc BK392 6⟩ (fun hHeld => ?_)
          clear hK K
          refine norm_ (a' := ?_) ?_ ?_
          rotate_left
          · show Act.put _ (some 39) _ = _
            simp only [Act.put, List.setIfInBounds_toArray, List.set_cons_zero, List.set_cons_succ, i64_w, i32_w]
            rfl
          refine one_ (i := 6) (N := some 40) #[true, true, true, true, true, true, true, false] rfl rfl (one_of HT_.out (by kernel_rfl)) (by decide) (fun K hK => ?_)
          refine Kd.R_lit_step k28 _ 28 ?hg (N := 40) ?hd (xs := ([(⟨t385, t386, t387, t388, t389, t390, t391⟩ : S28), (⟨t412, t413, t414, t415, t416, t417, t418⟩ : S28), (⟨t419, t420, t421, t422, t423, t424, t425⟩ : S28)] : List (S28))) (inner := [.int .i64 t385, .int .i64 t386, .int .i64 t387, .int .i64 t388, .int .i64 t389, .int .i64 t390, .bool t391, .int .i64 t412, .int .i64 t413, .int .i64 t414, .int .i64 t415, .int .i64 t416, .int .i64 t417, .bool t418, .int .i64 t419, .int .i64 t420, .int .i64 t421, .int .i64 t422, .int .i64 t423, .int .i64 t424, .bool t425]) (ok := fun _ => True) (okp := fun _ => True) ?hr ?hp (fun _ hk => hk) trivial (Below.refl _ _) (Nat.le_refl _) (by simp) ?_; (case hd => rfl); (case hg => rfl); (case hr => first | (go_simp; done) | (go_simp; rfl)); (case hp => exact (Reps.c7 (show Kd.M k28 _ _ _ (⟨t385, t386, t387, t388, t389, t390, t391⟩ : S28) [.int .i64 t385, .int .i64 t386, .int .i64 t387, .int .i64 t388, .int .i64 t389, .int .i64 t390, .bool t391] from (k28_mkM _ _ _ (⟨t385, t386, t387, t388, t389, t390, t391⟩ : S28) )) (Reps.c7 (show Kd.M k28 _ _ _ (⟨t412, t413, t414, t415, t416, t417, t418⟩ : S28) [.int .i64 t412, .int .i64 t413, .int .i64 t414, .int .i64 t415, .int .i64 t416, .int .i64 t417, .bool t418] from (k28_mkM _ _ _ (⟨t412, t413, t414, t415, t416, t417, t418⟩ : S28) )) (Reps.c7 (show Kd.M k28 _ _ _ (⟨t419, t420, t421, t422, t423, t424, t425⟩ : S28) [.int .i64 t419, .int .i64 t420, .int .i64 t421, .int .i64 t422, .int .i64 t423, .int .i64 t424, .bool t425] from (k28_mkM _ _ _ (⟨t419, t420, t421, t422, t423, t424, t425⟩ : S28) )) (Reps.none _ _)))))
          intro v427 w50 ho51 hb hg_ hnew_
          clear hg_ hnew_
          (first | rw [← Ny426.out] at ho51 | (simp only [Int.reduceToNat] at ho51; rw [← Ny426.out] at ho51))
          have n0_ := Aside0.mk (Kd.R_lower (Kd.R_newB (Kd.R_newB ho51 (g := gb383) (o := .cells #[.int .i64 a1_0, .int .i64 a1_1, .int .i64 a1_2, .int .i64 a1_3, .int .i64 a1_4, .int .i64 a1_5, .bool a1_6] 28 (0, 0)) (bx0 BK383)) (g := gb392) (o := .cells #[.int .i64 t385, .int .i64 t386, .int .i64 t387, .int .i64 t388, .int .i64 t389, .int .i64 t390, .bool t391] 28 (0, 0)) (bx0 BK392)) (below_size (bwt HB)))
          have n1_ := bxb BK382 hb
          have n2_ := bxb BK383 hb
          have n3_ := bxb BK392 hb
          have n4_ := Aside0.mk (below_step (bwt HB) hb)
          clear BK382
          clear BK383
          clear BK392
          clear HB
          have HO428 := n0_
          have BK382 := n1_
          have BK383 := n2_
          have BK392 := n3_
          have HB := n4_
          clear n0_ n1_ n2_ n3_ n4_
          clear hb ho51
          refine hK.out _ _ ⟨bc BK392 0, bc BK392 1, bc BK392 2, bc BK392 3, bc BK392 4, bc BK392 5, bc BK392 6⟩ (fun hHeld => ?_)
          clear hK K
          refine norm_ (a' := ?_) ?_ ?_
          rotate_left
          · show Act.put _ (some 40) _ = _
            simp only [Act.put, List.setIfInBounds_toArray, List.set_cons_zero, List.set_cons_succ, i64_w, i32_w]
            rfl
          refine pure_ (i := 7) (N := some 9) (v := ?_) (a' := ?_) #[true, true, true, true, true, true, true, true] rfl rfl (any_of HT_.out (by kernel_rfl)) (fun _ _ _ h => h) (Or.inl ⟨by rfl, ?_⟩) ?_ ?_
          rotate_left
          · intro w'
            go_simp
            with_reducible rfl
          rotate_left
          · simp only [Act.put, List.setIfInBounds_toArray, List.set_cons_zero, List.set_cons_succ, i64_w, i32_w]
            rfl
          refine done_ (done_of HT_.out (by kernel_rfl)) ?_
          have hnb52 := NB383_382.out
          have hnc52 := NB382_383.out
          have hnb53 := NB383_392.out
          have hnc53 := NB392_383.out
          have hcz54_0 : w50.cell? ⟨gb383, 0, none⟩ = some (.int .i64 a1_0) := bc BK383 0
          have hcz54_1 : w50.cell? ⟨gb383, 1, none⟩ = some (.int .i64 a1_1) := bc BK383 1
          have hcz54_2 : w50.cell? ⟨gb383, 2, none⟩ = some (.int .i64 a1_2) := bc BK383 2
          have hcz54_3 : w50.cell? ⟨gb383, 3, none⟩ = some (.int .i64 a1_3) := bc BK383 3
          have hcz54_4 : w50.cell? ⟨gb383, 4, none⟩ = some (.int .i64 a1_4) := bc BK383 4
          have hcz54_5 : w50.cell? ⟨gb383, 5, none⟩ = some (.int .i64 a1_5) := bc BK383 5
          have hcz54_6 : w50.cell? ⟨gb383, 6, none⟩ = some (.bool a1_6) := bc BK383 6
          have hfz54_0 := blk_frozen BK383.out 0
          have hfz54_1 := blk_frozen BK383.out 1
          have hfz54_2 := blk_frozen BK383.out 2
          have hfz54_3 := blk_frozen BK383.out 3
          have hfz54_4 := blk_frozen BK383.out 4
          have hfz54_5 := blk_frozen BK383.out 5
          have hfz54_6 := blk_frozen BK383.out 6
          go_upto_if 42 with (first | ((with_reducible refine gate_callee (f := 12) rfl ?_); refine goesL_ (some 42) rfl rfl Try.func12 (by kernel_rfl) rfl #[.agg #[.int .i64 a1_0, .int .i64 a1_1, .int .i64 a1_2, .int .i64 a1_3, .int .i64 a1_4, .int .i64 a1_5, .bool a1_6]] rfl (by (try simp only [List.map_toArray, List.map_cons, List.map_nil]); first | done | rfl | (simp only [List.length_drop, List.length_take]; rfl)) ?_; (with_reducible refine (wireloomref45_Valid.calls kj6 a1_0 a1_1 a1_2 a1_3 a1_4 a1_5 a1_6 t429 _ A45.out).mono ?_); rintro e w55 ⟨rfl, hb⟩; refine ⟨_, rfl, ?_⟩; have n0_ := Aside0.mk (Kd.R_below (by (with_reducible repeat (first | apply Kd.R_alloc | apply Kd.R_drewN | apply Kd.R_drew)); exact HO428.out) hb); have n1_ := bxb BK382 hb; have n2_ := bxb BK383 hb; have n3_ := bxb BK392 hb; have n4_ := Aside0.mk (below_step (bwt HB) hb); clear HO428; clear BK382; clear BK383; clear BK392; clear HB; have HO428 := n0_; have BK382 := n1_; have BK383 := n2_; have BK392 := n3_; have HB := n4_; clear n0_ n1_ n2_ n3_ n4_; (try clear hb); (try clear hb2); (try clear hk); (try clear hi)))
          (try simp only [Act.put, List.setIfInBounds_toArray, List.set_cons_zero, List.set_cons_succ])
          go_cut [9] (fun v9 wc => ∃ (kq : Nat) (x9_45 : List (S28)), Aside0 (wireloomlaw45_MonitorMatchesReference.j1 kq a2 true x9_45 = some r) ∧ Aside0 (kq ≤ kj6) ∧ Aside0 (Kd.R k28 28 wc w.heap.size (fun k_ => k_ ≠ gb383 ∧ k_ ≠ gb392) v9 x9_45) ∧ Aside0 (wc.heap[gb382]? = some (.cells #[.int .u8 a0_0, .int .u8 a0_1, .int .u8 a0_2, .int .u8 a0_3, (.slice A0_4 l0_4.length c0_4), .int .u8 a0_5, .int .u8 a0_6] 26 (0, 0))) ∧ Aside0 (wc.heap[gb383]? = some (.cells #[.int .i64 a1_0, .int .i64 a1_1, .int .i64 a1_2, .int .i64 a1_3, .int .i64 a1_4, .int .i64 a1_5, .bool a1_6] 28 (0, 0))) ∧ Aside0 (wc.heap[gb392]? = some (.cells #[.int .i64 t385, .int .i64 t386, .int .i64 t387, .int .i64 t388, .int .i64 t389, .int .i64 t390, .bool t391] 28 (0, 0))) ∧ Aside0 (Below w.heap.size w wc))
          case first =>
            have H := HC46.out
            clear HC46
            by_cases c56 : t429 = true
            · subst c56
              have H1 : (if y426.length < 2513169434916 then (wireloomlaw45_MonitorMatchesReference.j1 kj6 a2 true (y426 ++ [(⟨a1_0, a1_1, a1_2, a1_3, a1_4, a1_5, a1_6⟩ : S28)])) else (none)) = some r := by rw [if_pos rfl] at H; exact H
              clear H
              have H := H1
              clear H1
              by_cases c57 : y426.length < 2513169434916
              rotate_left
              · rw [if_neg c57] at H
                exact absurd H (by simp)
              rw [if_pos c57] at H
              have LMc57 := Aside0.mk c57
              clear c57
              obtain ⟨y430, hy430⟩ : ∃ y_ : List (S28), y_ = (y426 ++ [(⟨a1_0, a1_1, a1_2, a1_3, a1_4, a1_5, a1_6⟩ : S28)]) := ⟨_, rfl⟩
              replace H : (wireloomlaw45_MonitorMatchesReference.j1 kj6 a2 true y430) = some r := by first | (rw [hy430]; with_reducible exact H) | (have H2_ := (Option.bind_some _ _).symm.trans H; rw [hy430]; with_reducible exact H2_) | (have H2_ := (Option.bind_some _ _).symm.trans H; with_reducible exact H2_) | with_reducible exact H | (rw [hy430]; exact H) | exact H
              have Ny430 := Aside0.mk hy430
              clear hy430
              have H' := Aside0.mk H
              clear H
              have hnb58 := NB383_382.out
              have hnc58 := NB382_383.out
              have hnb59 := NB383_392.out
              have hnc59 := NB392_383.out
              have hcz60_0 : w55.cell? ⟨gb383, 0, none⟩ = some (.int .i64 a1_0) := bc BK383 0
              have hcz60_1 : w55.cell? ⟨gb383, 1, none⟩ = some (.int .i64 a1_1) := bc BK383 1
              have hcz60_2 : w55.cell? ⟨gb383, 2, none⟩ = some (.int .i64 a1_2) := bc BK383 2
              have hcz60_3 : w55.cell? ⟨gb383, 3, none⟩ = some (.int .i64 a1_3) := bc BK383 3
              have hcz60_4 : w55.cell? ⟨gb383, 4, none⟩ = some (.int .i64 a1_4) := bc BK383 4
              have hcz60_5 : w55.cell? ⟨gb383, 5, none⟩ = some (.int .i64 a1_5) := bc BK383 5
              have hcz60_6 : w55.cell? ⟨gb383, 6, none⟩ = some (.bool a1_6) := bc BK383 6
              have hfz60_0 := blk_frozen BK383.out 0
              have hfz60_1 := blk_frozen BK383.out 1
              have hfz60_2 := blk_frozen BK383.out 2
              have hfz60_3 := blk_frozen BK383.out 3
              have hfz60_4 := blk_frozen BK383.out 4
              have hfz60_5 := blk_frozen BK383.out 5
              have hfz60_6 := blk_frozen BK383.out 6
              go_wp2_with (first | ((with_reducible refine gate_builtin (b := .append) (xs := #[.tmp 43, .tmp 45]) rfl ?_); at_builtin; refine Kd.R_append k28 (w0 := w) w.heap.size rfl (.tmp 43) (.tmp 45) 38 28 (.agg #[(.int .i64 0), (.int .i64 0), (.int .i64 0), (.int .i64 0), (.int .i64 0), (.int .i64 0), (.bool false)]) 56 rfl Try.underlying38 info28 rfl (by decide) (by omega) v427 y426 (⟨a1_0, a1_1, a1_2, a1_3, a1_4, a1_5, a1_6⟩ : S28) [.int .i64 a1_0, .int .i64 a1_1, .int .i64 a1_2, .int .i64 a1_3, .int .i64 a1_4, .int .i64 a1_5, .bool a1_6] (fun k_ => k_ ≠ gb383 ∧ k_ ≠ gb392) (fun _ => False) rfl rfl ?aP (fun _ hk => hk.elim) ?aF ?aO ?aB ?aS ?aL ?_; (case aP => exact k28_mkM _ _ _ (⟨a1_0, a1_1, a1_2, a1_3, a1_4, a1_5, a1_6⟩ : S28)); (case aB => exact (by repeat (first | (with_reducible first | exact HB.out | apply below_alloc | apply pw_below_drewN | apply below_drew1 | refine below_set ?_ GE382.out | refine below_set ?_ GE383.out | refine below_set ?_ GE392.out) | exact HB.out))); (case aF => exact (fun k_ hk => ⟨Kd.freshB (g := gb383) (o := .cells #[.int .i64 a1_0, .int .i64 a1_1, .int .i64 a1_2, .int .i64 a1_3, .int .i64 a1_4, .int .i64 a1_5, .bool a1_6] 28 (0, 0)) (bx0 BK383) k_ hk, Kd.freshB (g := gb392) (o := .cells #[.int .i64 t385, .int .i64 t386, .int .i64 t387, .int .i64 t388, .int .i64 t389, .int .i64 t390, .bool t391] 28 (0, 0)) (bx0 BK392) k_ hk⟩)); (case aO => exact (by (with_reducible repeat (first | apply Kd.R_alloc | apply Kd.R_drewN | apply Kd.R_drew)); exact Kd.R_mono HO428.out (fun _ hk => ⟨hk.1.2, hk.2⟩))); (case aS => exact (below_size (by repeat (first | (with_reducible first | exact HB.out | apply below_alloc | apply pw_below_drewN | apply below_drew1 | refine below_set ?_ GE382.out | refine below_set ?_ GE383.out | refine below_set ?_ GE392.out) | exact HB.out)))); (case aL => have := LMc57.out; omega); intro v431 w61 ho hb hg hat; rw [← Ny430.out] at ho; have n0_ := Aside0.mk (blk_grown (g := gb382) (o := .cells #[.int .u8 a0_0, .int .u8 a0_1, .int .u8 a0_2, .int .u8 a0_3, .slice A0_4 l0_4.length c0_4, .int .u8 a0_5, .int .u8 a0_6] 26 (0, 0)) (bx0 BK382) hg (Kd.R_ne HO428.out BK382.out (by decide))); have n1_ := Aside0.mk (blk_grown (g := gb383) (o := .cells #[.int .i64 a1_0, .int .i64 a1_1, .int .i64 a1_2, .int .i64 a1_3, .int .i64 a1_4, .int .i64 a1_5, .bool a1_6] 28 (0, 0)) (bx0 BK383) hg (Kd.R_away HO428.out (fun _ hk => hk.1.2))); have n2_ := Aside0.mk (blk_grown (g := gb392) (o := .cells #[.int .i64 t385, .int .i64 t386, .int .i64 t387, .int .i64 t388, .int .i64 t389, .int .i64 t390, .bool t391] 28 (0, 0)) (bx0 BK392) hg (Kd.R_away HO428.out (fun _ hk => hk.2))); have n3_ := Aside0.mk (hb); have n4_ := Aside0.mk (ho); clear BK382; clear BK383; clear BK392; clear HB; clear HO428; have BK382 := n0_; have BK383 := n1_; have BK392 := n2_; have HB := n3_; have HO432 := n4_; clear n0_ n1_ n2_ n3_ n4_; clear ho hb hg hat))
              go_meet
              case rel => exact ⟨_, (y430), H', ⟨by have := HJ6.out; first | omega | exact Nat.le_refl _⟩, ⟨by (with_reducible repeat (first | apply Kd.R_alloc | apply Kd.R_drewN | apply Kd.R_drew)); exact HO432.out⟩, ⟨by (with_reducible repeat refine bp_ ?_); exact BK382.out⟩, ⟨by (with_reducible repeat refine bp_ ?_); exact BK383.out⟩, ⟨by (with_reducible repeat refine bp_ ?_); exact BK392.out⟩, ⟨by repeat (first | (with_reducible first | exact HB.out | apply below_alloc | apply pw_below_drewN | apply below_drew1 | refine below_set ?_ GE382.out | refine below_set ?_ GE383.out | refine below_set ?_ GE392.out) | exact HB.out)⟩⟩
            · replace c56 := Bool.eq_false_iff.mpr c56
              subst c56
              have H1 : (wireloomlaw45_MonitorMatchesReference.j1 kj6 a2 true y426) = some r := by rw [if_neg (show ¬ (false = true) by decide)] at H; exact H
              clear H
              have H := H1
              clear H1
              have H' := Aside0.mk H
              clear H
              go_wp2
              go_meet
              case rel => exact ⟨_, (y426), H', ⟨by have := HJ6.out; first | omega | exact Nat.le_refl _⟩, ⟨by (with_reducible repeat (first | apply Kd.R_alloc | apply Kd.R_drewN | apply Kd.R_drew)); exact Kd.R_mono HO428.out (fun _ hk => ⟨hk.1.2, hk.2⟩)⟩, ⟨by (with_reducible repeat refine bp_ ?_); exact BK382.out⟩, ⟨by (with_reducible repeat refine bp_ ?_); exact BK383.out⟩, ⟨by (with_reducible repeat refine bp_ ?_); exact BK392.out⟩, ⟨by repeat (first | (with_reducible first | exact HB.out | apply below_alloc | apply pw_below_drewN | apply below_drew1 | refine below_set ?_ GE382.out | refine below_set ?_ GE383.out | refine below_set ?_ GE392.out) | exact HB.out)⟩⟩
          case rest =>
            clear HC46
            try clear c1
            try clear c2
            try clear p2
            try clear c4
            try clear c5
            try clear c7
            try clear c11
            try clear c12
            try clear c13
            try clear c14
            try clear c15
            try clear c16
            try clear c20
            try clear c20b0
            try clear c20b1
            try clear c20b2
            try clear c27
            try clear c27b0
            try clear c42
            try clear c52
            try clear c53
            try clear c56
            try clear c57
            try clear c58
            try clear c59
            try clear hcz54_0
            try clear hcz54_1
            try clear hcz54_2
            try clear hcz54_3
            try clear hcz54_4
            try clear hcz54_5
            try clear hcz54_6
            try clear hcz60_0
            try clear hcz60_1
            try clear hcz60_2
            try clear hcz60_3
            try clear hcz60_4
            try clear hcz60_5
            try clear hcz60_6
            try clear hfz54_0
            try clear hfz54_1
            try clear hfz54_2
            try clear hfz54_3
            try clear hfz54_4
            try clear hfz54_5
            try clear hfz54_6
            try clear hfz60_0
            try clear hfz60_1
            try clear hfz60_2
            try clear hfz60_3
            try clear hfz60_4
            try clear hfz60_5
            try clear hfz60_6
            try clear p2
            obtain ⟨kq, x9_45, HA, HJ45, HO_9, BK382, BK383, BK392, HB⟩ := hcut
            cases kq with
            | zero => exact absurd HA.out (by simp [wireloomlaw45_MonitorMatchesReference.j1])
            | succ kj45 =>
              have H := HA.out
              clear HA
              simp only [wireloomlaw45_MonitorMatchesReference.j1] at H
              have H' := Aside0.mk H
              clear H
              go_wp2
              go_loopg [10] kj45 (fun kq v10 w' => ∃ (x10_3 : Int), v10 = .int .i64 x10_3 ∧ Aside0 (wireloomlaw45_MonitorMatchesReference.l0 kq a2 true x9_45 x10_3 = some r) ∧ Aside0 (kq ≤ kj45) ∧ Aside0 (Kd.R k28 28 w' w.heap.size (fun k_ => k_ ≠ gb383 ∧ k_ ≠ gb392) u9 x9_45) ∧ Aside0 (w'.heap[gb382]? = some (.cells #[.int .u8 a0_0, .int .u8 a0_1, .int .u8 a0_2, .int .u8 a0_3, (.slice A0_4 l0_4.length c0_4), .int .u8 a0_5, .int .u8 a0_6] 26 (0, 0))) ∧ Aside0 (w'.heap[gb383]? = some (.cells #[.int .i64 a1_0, .int .i64 a1_1, .int .i64 a1_2, .int .i64 a1_3, .int .i64 a1_4, .int .i64 a1_5, .bool a1_6] 28 (0, 0))) ∧ Aside0 (w'.heap[gb392]? = some (.cells #[.int .i64 t385, .int .i64 t386, .int .i64 t387, .int .i64 t388, .int .i64 t389, .int .i64 t390, .bool t391] 28 (0, 0))) ∧ Aside0 (Below w.heap.size w w'))
              case atStart => exact ⟨(0), (by first | rfl | (simp; done) | (simp [*]; done)), H', ⟨Nat.le_refl _⟩, ⟨by (with_reducible repeat (first | apply Kd.R_alloc | apply Kd.R_drewN | apply Kd.R_drew)); exact HO_9.out⟩, ⟨by (with_reducible repeat refine bp_ ?_); exact BK382.out⟩, ⟨by (with_reducible repeat refine bp_ ?_); exact BK383.out⟩, ⟨by (with_reducible repeat refine bp_ ?_); exact BK392.out⟩, ⟨by repeat (first | (with_reducible first | exact HB.out | apply below_alloc | apply pw_below_drewN | apply below_drew1 | refine below_set ?_ GE382.out | refine below_set ?_ GE383.out | refine below_set ?_ GE392.out) | exact HB.out)⟩⟩
              case round =>
                clear H'
                try clear c1
                try clear c2
                try clear p2
                try clear c4
                try clear c5
                try clear c7
                try clear c11
                try clear c12
                try clear c13
                try clear c14
                try clear c15
                try clear c16
                try clear c20
                try clear c20b0
                try clear c20b1
                try clear c20b2
                try clear c27
                try clear c27b0
                try clear c42
                try clear c52
                try clear c53
                try clear c56
                try clear c57
                try clear c58
                try clear c59
                try clear hcz54_0
                try clear hcz54_1
                try clear hcz54_2
                try clear hcz54_3
                try clear hcz54_4
                try clear hcz54_5
                try clear hcz54_6
                try clear hcz60_0
                try clear hcz60_1
                try clear hcz60_2
                try clear hcz60_3
                try clear hcz60_4
                try clear hcz60_5
                try clear hcz60_6
                try clear hfz54_0
                try clear hfz54_1
                try clear hfz54_2
                try clear hfz54_3
                try clear hfz54_4
                try clear hfz54_5
                try clear hfz54_6
                try clear hfz60_0
                try clear hfz60_1
                try clear hfz60_2
                try clear hfz60_3
                try clear hfz60_4
                try clear hfz60_5
                try clear hfz60_6
                try clear p2
                obtain ⟨x10_3, rfl, HA, HK3, HO_9, BK382, BK383, BK392, HB⟩ := hrel
                cases gk with
                | zero => exact absurd HA.out (by simp [wireloomlaw45_MonitorMatchesReference.l0])
                | succ k3 =>
                  have H := HA.out
                  clear HA
                  simp only [wireloomlaw45_MonitorMatchesReference.l0] at H
                  by_cases c62 : x10_3 < (x9_45.length : Int)
                  · rw [if_pos c62] at H
                    have c62b0 : decide (x10_3 < (x9_45.length : Int)) = true := decide_eq_true c62
                    clear c62
                    by_cases c63 : 0 ≤ x10_3
                    rotate_left
                    · rw [if_neg c63] at H
                      exact absurd H (by simp)
                    rw [if_pos c63] at H
                    have c63b0 : decide (0 ≤ x10_3) = true := decide_eq_true c63
                    clear c63
                    replace H := Option.bind_eq_some_iff.mp H
                    obtain ⟨⟨t435, t436⟩, A640, H⟩ := H
                    replace H : ((wireloomref45_Outlook.f ((rd_T28 x9_45 x10_3).f0) ((rd_T28 x9_45 x10_3).f1) ((rd_T28 x9_45 x10_3).f2) ((rd_T28 x9_45 x10_3).f3) ((rd_T28 x9_45 x10_3).f4) ((rd_T28 x9_45 x10_3).f5) ((rd_T28 x9_45 x10_3).f6)).bind fun bt437 => (if (!(t435 == bt437.1) || (!(t436 == bt437.2))) = true then (some false) else ((monitor_Agrees.f ((rd_T28 x9_45 x10_3).f0) ((rd_T28 x9_45 x10_3).f1) ((rd_T28 x9_45 x10_3).f2) ((rd_T28 x9_45 x10_3).f3) ((rd_T28 x9_45 x10_3).f4) ((rd_T28 x9_45 x10_3).f5) ((rd_T28 x9_45 x10_3).f6) a2).bind fun t439 => ((wireloomref45_Agrees.f ((rd_T28 x9_45 x10_3).f0) ((rd_T28 x9_45 x10_3).f1) ((rd_T28 x9_45 x10_3).f2) ((rd_T28 x9_45 x10_3).f3) ((rd_T28 x9_45 x10_3).f4) ((rd_T28 x9_45 x10_3).f5) ((rd_T28 x9_45 x10_3).f6) a2).bind fun t440 => (if (t439 != t440) = true then (some false) else ((monitor_See.f ((rd_T28 x9_45 x10_3).f0) ((rd_T28 x9_45 x10_3).f1) ((rd_T28 x9_45 x10_3).f2) ((rd_T28 x9_45 x10_3).f3) ((rd_T28 x9_45 x10_3).f4) ((rd_T28 x9_45 x10_3).f5) ((rd_T28 x9_45 x10_3).f6) a2).bind fun bt441 => ((wireloomref45_See.f ((rd_T28 x9_45 x10_3).f0) ((rd_T28 x9_45 x10_3).f1) ((rd_T28 x9_45 x10_3).f2) ((rd_T28 x9_45 x10_3).f3) ((rd_T28 x9_45 x10_3).f4) ((rd_T28 x9_45 x10_3).f5) ((rd_T28 x9_45 x10_3).f6) a2).bind fun bt448 => (if (!(bt441.1 == bt448.1) || (!(bt441.2.1 == bt448.2.1) || (!(bt441.2.2.1 == bt448.2.2.1) || (!(bt441.2.2.2.1 == bt448.2.2.2.1) || (!(bt441.2.2.2.2.1 == bt448.2.2.2.2.1) || (!(bt441.2.2.2.2.2.1 == bt448.2.2.2.2.2.1) || (!(bt441.2.2.2.2.2.2 == bt448.2.2.2.2.2.2)))))))) = true then (some false) else ((monitor_Miss.f ((rd_T28 x9_45 x10_3).f0) ((rd_T28 x9_45 x10_3).f1) ((rd_T28 x9_45 x10_3).f2) ((rd_T28 x9_45 x10_3).f3) ((rd_T28 x9_45 x10_3).f4) ((rd_T28 x9_45 x10_3).f5) ((rd_T28 x9_45 x10_3).f6)).bind fun bt455 => ((wireloomref45_Miss.f ((rd_T28 x9_45 x10_3).f0) ((rd_T28 x9_45 x10_3).f1) ((rd_T28 x9_45 x10_3).f2) ((rd_T28 x9_45 x10_3).f3) ((rd_T28 x9_45 x10_3).f4) ((rd_T28 x9_45 x10_3).f5) ((rd_T28 x9_45 x10_3).f6)).bind fun bt462 => (if (!(bt455.1 == bt462.1) || (!(bt455.2.1 == bt462.2.1) || (!(bt455.2.2.1 == bt462.2.2.1) || (!(bt455.2.2.2.1 == bt462.2.2.2.1) || (!(bt455.2.2.2.2.1 == bt462.2.2.2.2.1) || (!(bt455.2.2.2.2.2.1 == bt462.2.2.2.2.2.1) || (!(bt455.2.2.2.2.2.2 == bt462.2.2.2.2.2.2)))))))) = true then (some false) else ((monitor_See.f ((rd_T28 x9_45 x10_3).f0) ((rd_T28 x9_45 x10_3).f1) ((rd_T28 x9_45 x10_3).f2) ((rd_T28 x9_45 x10_3).f3) ((rd_T28 x9_45 x10_3).f4) ((rd_T28 x9_45 x10_3).f5) ((rd_T28 x9_45 x10_3).f6) a2).bind fun bt469 => ((monitor_Valid.f bt469.1 bt469.2.1 bt469.2.2.1 bt469.2.2.2.1 bt469.2.2.2.2.1 bt469.2.2.2.2.2.1 bt469.2.2.2.2.2.2).bind fun t476 => (if t476 = true then ((monitor_Miss.f ((rd_T28 x9_45 x10_3).f0) ((rd_T28 x9_45 x10_3).f1) ((rd_T28 x9_45 x10_3).f2) ((rd_T28 x9_45 x10_3).f3) ((rd_T28 x9_45 x10_3).f4) ((rd_T28 x9_45 x10_3).f5) ((rd_T28 x9_45 x10_3).f6)).bind fun bt477 => ((monitor_Valid.f bt477.1 bt477.2.1 bt477.2.2.1 bt477.2.2.2.1 bt477.2.2.2.2.1 bt477.2.2.2.2.2.1 bt477.2.2.2.2.2.2).bind fun t484 => (if t484 = true then (wireloomlaw45_MonitorMatchesReference.l0 k3 a2 true x9_45 (wrap64 (x10_3 + 1))) else (some false)))) else (some false))))))))))))))) = some r := H
                    have A64 := Aside0.mk A640
                    clear A640
                    replace H := Option.bind_eq_some_iff.mp H
                    obtain ⟨⟨t437, t438⟩, A650, H⟩ := H
                    replace H : (if (!(t435 == t437) || (!(t436 == t438))) = true then (some false) else ((monitor_Agrees.f ((rd_T28 x9_45 x10_3).f0) ((rd_T28 x9_45 x10_3).f1) ((rd_T28 x9_45 x10_3).f2) ((rd_T28 x9_45 x10_3).f3) ((rd_T28 x9_45 x10_3).f4) ((rd_T28 x9_45 x10_3).f5) ((rd_T28 x9_45 x10_3).f6) a2).bind fun t439 => ((wireloomref45_Agrees.f ((rd_T28 x9_45 x10_3).f0) ((rd_T28 x9_45 x10_3).f1) ((rd_T28 x9_45 x10_3).f2) ((rd_T28 x9_45 x10_3).f3) ((rd_T28 x9_45 x10_3).f4) ((rd_T28 x9_45 x10_3).f5) ((rd_T28 x9_45 x10_3).f6) a2).bind fun t440 => (if (t439 != t440) = true then (some false) else ((monitor_See.f ((rd_T28 x9_45 x10_3).f0) ((rd_T28 x9_45 x10_3).f1) ((rd_T28 x9_45 x10_3).f2) ((rd_T28 x9_45 x10_3).f3) ((rd_T28 x9_45 x10_3).f4) ((rd_T28 x9_45 x10_3).f5) ((rd_T28 x9_45 x10_3).f6) a2).bind fun bt441 => ((wireloomref45_See.f ((rd_T28 x9_45 x10_3).f0) ((rd_T28 x9_45 x10_3).f1) ((rd_T28 x9_45 x10_3).f2) ((rd_T28 x9_45 x10_3).f3) ((rd_T28 x9_45 x10_3).f4) ((rd_T28 x9_45 x10_3).f5) ((rd_T28 x9_45 x10_3).f6) a2).bind fun bt448 => (if (!(bt441.1 == bt448.1) || (!(bt441.2.1 == bt448.2.1) || (!(bt441.2.2.1 == bt448.2.2.1) || (!(bt441.2.2.2.1 == bt448.2.2.2.1) || (!(bt441.2.2.2.2.1 == bt448.2.2.2.2.1) || (!(bt441.2.2.2.2.2.1 == bt448.2.2.2.2.2.1) || (!(bt441.2.2.2.2.2.2 == bt448.2.2.2.2.2.2)))))))) = true then (some false) else ((monitor_Miss.f ((rd_T28 x9_45 x10_3).f0) ((rd_T28 x9_45 x10_3).f1) ((rd_T28 x9_45 x10_3).f2) ((rd_T28 x9_45 x10_3).f3) ((rd_T28 x9_45 x10_3).f4) ((rd_T28 x9_45 x10_3).f5) ((rd_T28 x9_45 x10_3).f6)).bind fun bt455 => ((wireloomref45_Miss.f ((rd_T28 x9_45 x10_3).f0) ((rd_T28 x9_45 x10_3).f1) ((rd_T28 x9_45 x10_3).f2) ((rd_T28 x9_45 x10_3).f3) ((rd_T28 x9_45 x10_3).f4) ((rd_T28 x9_45 x10_3).f5) ((rd_T28 x9_45 x10_3).f6)).bind fun bt462 => (if (!(bt455.1 == bt462.1) || (!(bt455.2.1 == bt462.2.1) || (!(bt455.2.2.1 == bt462.2.2.1) || (!(bt455.2.2.2.1 == bt462.2.2.2.1) || (!(bt455.2.2.2.2.1 == bt462.2.2.2.2.1) || (!(bt455.2.2.2.2.2.1 == bt462.2.2.2.2.2.1) || (!(bt455.2.2.2.2.2.2 == bt462.2.2.2.2.2.2)))))))) = true then (some false) else ((monitor_See.f ((rd_T28 x9_45 x10_3).f0) ((rd_T28 x9_45 x10_3).f1) ((rd_T28 x9_45 x10_3).f2) ((rd_T28 x9_45 x10_3).f3) ((rd_T28 x9_45 x10_3).f4) ((rd_T28 x9_45 x10_3).f5) ((rd_T28 x9_45 x10_3).f6) a2).bind fun bt469 => ((monitor_Valid.f bt469.1 bt469.2.1 bt469.2.2.1 bt469.2.2.2.1 bt469.2.2.2.2.1 bt469.2.2.2.2.2.1 bt469.2.2.2.2.2.2).bind fun t476 => (if t476 = true then ((monitor_Miss.f ((rd_T28 x9_45 x10_3).f0) ((rd_T28 x9_45 x10_3).f1) ((rd_T28 x9_45 x10_3).f2) ((rd_T28 x9_45 x10_3).f3) ((rd_T28 x9_45 x10_3).f4) ((rd_T28 x9_45 x10_3).f5) ((rd_T28 x9_45 x10_3).f6)).bind fun bt477 => ((monitor_Valid.f bt477.1 bt477.2.1 bt477.2.2.1 bt477.2.2.2.1 bt477.2.2.2.2.1 bt477.2.2.2.2.2.1 bt477.2.2.2.2.2.2).bind fun t484 => (if t484 = true then (wireloomlaw45_MonitorMatchesReference.l0 k3 a2 true x9_45 (wrap64 (x10_3 + 1))) else (some false)))) else (some false)))))))))))))) = some r := H
                    have A65 := Aside0.mk A650
                    clear A650
                    by_cases c66 : (!(t435 == t437) || (!(t436 == t438))) = true
                    · rw [if_pos c66] at H
                      exact absurd ((Option.some.inj H).trans HRT.out) Bool.false_ne_true
                    rw [if_neg c66] at H
                    have c66b0 : (!(t435 == t437) || (!(t436 == t438))) = false := by simpa using c66
                    clear c66
                    replace H := Option.bind_eq_some_iff.mp H
                    obtain ⟨t439, A670, H⟩ := H
                    replace H : ((wireloomref45_Agrees.f ((rd_T28 x9_45 x10_3).f0) ((rd_T28 x9_45 x10_3).f1) ((rd_T28 x9_45 x10_3).f2) ((rd_T28 x9_45 x10_3).f3) ((rd_T28 x9_45 x10_3).f4) ((rd_T28 x9_45 x10_3).f5) ((rd_T28 x9_45 x10_3).f6) a2).bind fun t440 => (if (t439 != t440) = true then (some false) else ((monitor_See.f ((rd_T28 x9_45 x10_3).f0) ((rd_T28 x9_45 x10_3).f1) ((rd_T28 x9_45 x10_3).f2) ((rd_T28 x9_45 x10_3).f3) ((rd_T28 x9_45 x10_3).f4) ((rd_T28 x9_45 x10_3).f5) ((rd_T28 x9_45 x10_3).f6) a2).bind fun bt441 => ((wireloomref45_See.f ((rd_T28 x9_45 x10_3).f0) ((rd_T28 x9_45 x10_3).f1) ((rd_T28 x9_45 x10_3).f2) ((rd_T28 x9_45 x10_3).f3) ((rd_T28 x9_45 x10_3).f4) ((rd_T28 x9_45 x10_3).f5) ((rd_T28 x9_45 x10_3).f6) a2).bind fun bt448 => (if (!(bt441.1 == bt448.1) || (!(bt441.2.1 == bt448.2.1) || (!(bt441.2.2.1 == bt448.2.2.1) || (!(bt441.2.2.2.1 == bt448.2.2.2.1) || (!(bt441.2.2.2.2.1 == bt448.2.2.2.2.1) || (!(bt441.2.2.2.2.2.1 == bt448.2.2.2.2.2.1) || (!(bt441.2.2.2.2.2.2 == bt448.2.2.2.2.2.2)))))))) = true then (some false) else ((monitor_Miss.f ((rd_T28 x9_45 x10_3).f0) ((rd_T28 x9_45 x10_3).f1) ((rd_T28 x9_45 x10_3).f2) ((rd_T28 x9_45 x10_3).f3) ((rd_T28 x9_45 x10_3).f4) ((rd_T28 x9_45 x10_3).f5) ((rd_T28 x9_45 x10_3).f6)).bind fun bt455 => ((wireloomref45_Miss.f ((rd_T28 x9_45 x10_3).f0) ((rd_T28 x9_45 x10_3).f1) ((rd_T28 x9_45 x10_3).f2) ((rd_T28 x9_45 x10_3).f3) ((rd_T28 x9_45 x10_3).f4) ((rd_T28 x9_45 x10_3).f5) ((rd_T28 x9_45 x10_3).f6)).bind fun bt462 => (if (!(bt455.1 == bt462.1) || (!(bt455.2.1 == bt462.2.1) || (!(bt455.2.2.1 == bt462.2.2.1) || (!(bt455.2.2.2.1 == bt462.2.2.2.1) || (!(bt455.2.2.2.2.1 == bt462.2.2.2.2.1) || (!(bt455.2.2.2.2.2.1 == bt462.2.2.2.2.2.1) || (!(bt455.2.2.2.2.2.2 == bt462.2.2.2.2.2.2)))))))) = true then (some false) else ((monitor_See.f ((rd_T28 x9_45 x10_3).f0) ((rd_T28 x9_45 x10_3).f1) ((rd_T28 x9_45 x10_3).f2) ((rd_T28 x9_45 x10_3).f3) ((rd_T28 x9_45 x10_3).f4) ((rd_T28 x9_45 x10_3).f5) ((rd_T28 x9_45 x10_3).f6) a2).bind fun bt469 => ((monitor_Valid.f bt469.1 bt469.2.1 bt469.2.2.1 bt469.2.2.2.1 bt469.2.2.2.2.1 bt469.2.2.2.2.2.1 bt469.2.2.2.2.2.2).bind fun t476 => (if t476 = true then ((monitor_Miss.f ((rd_T28 x9_45 x10_3).f0) ((rd_T28 x9_45 x10_3).f1) ((rd_T28 x9_45 x10_3).f2) ((rd_T28 x9_45 x10_3).f3) ((rd_T28 x9_45 x10_3).f4) ((rd_T28 x9_45 x10_3).f5) ((rd_T28 x9_45 x10_3).f6)).bind fun bt477 => ((monitor_Valid.f bt477.1 bt477.2.1 bt477.2.2.1 bt477.2.2.2.1 bt477.2.2.2.2.1 bt477.2.2.2.2.2.1 bt477.2.2.2.2.2.2).bind fun t484 => (if t484 = true then (wireloomlaw45_MonitorMatchesReference.l0 k3 a2 true x9_45 (wrap64 (x10_3 + 1))) else (some false)))) else (some false)))))))))))) = some r := H
                    have A67 := Aside0.mk A670
                    clear A670
                    replace H := Option.bind_eq_some_iff.mp H
                    obtain ⟨t440, A680, H⟩ := H
                    replace H : (if (t439 != t440) = true then (some false) else ((monitor_See.f ((rd_T28 x9_45 x10_3).f0) ((rd_T28 x9_45 x10_3).f1) ((rd_T28 x9_45 x10_3).f2) ((rd_T28 x9_45 x10_3).f3) ((rd_T28 x9_45 x10_3).f4) ((rd_T28 x9_45 x10_3).f5) ((rd_T28 x9_45 x10_3).f6) a2).bind fun bt441 => ((wireloomref45_See.f ((rd_T28 x9_45 x10_3).f0) ((rd_T28 x9_45 x10_3).f1) ((rd_T28 x9_45 x10_3).f2) ((rd_T28 x9_45 x10_3).f3) ((rd_T28 x9_45 x10_3).f4) ((rd_T28 x9_45 x10_3).f5) ((rd_T28 x9_45 x10_3).f6) a2).bind fun bt448 => (if (!(bt441.1 == bt448.1) || (!(bt441.2.1 == bt448.2.1) || (!(bt441.2.2.1 == bt448.2.2.1) || (!(bt441.2.2.2.1 == bt448.2.2.2.1) || (!(bt441.2.2.2.2.1 == bt448.2.2.2.2.1) || (!(bt441.2.2.2.2.2.1 == bt448.2.2.2.2.2.1) || (!(bt441.2.2.2.2.2.2 == bt448.2.2.2.2.2.2)))))))) = true then (some false) else ((monitor_Miss.f ((rd_T28 x9_45 x10_3).f0) ((rd_T28 x9_45 x10_3).f1) ((rd_T28 x9_45 x10_3).f2) ((rd_T28 x9_45 x10_3).f3) ((rd_T28 x9_45 x10_3).f4) ((rd_T28 x9_45 x10_3).f5) ((rd_T28 x9_45 x10_3).f6)).bind fun bt455 => ((wireloomref45_Miss.f ((rd_T28 x9_45 x10_3).f0) ((rd_T28 x9_45 x10_3).f1) ((rd_T28 x9_45 x10_3).f2) ((rd_T28 x9_45 x10_3).f3) ((rd_T28 x9_45 x10_3).f4) ((rd_T28 x9_45 x10_3).f5) ((rd_T28 x9_45 x10_3).f6)).bind fun bt462 => (if (!(bt455.1 == bt462.1) || (!(bt455.2.1 == bt462.2.1) || (!(bt455.2.2.1 == bt462.2.2.1) || (!(bt455.2.2.2.1 == bt462.2.2.2.1) || (!(bt455.2.2.2.2.1 == bt462.2.2.2.2.1) || (!(bt455.2.2.2.2.2.1 == bt462.2.2.2.2.2.1) || (!(bt455.2.2.2.2.2.2 == bt462.2.2.2.2.2.2)))))))) = true then (some false) else ((monitor_See.f ((rd_T28 x9_45 x10_3).f0) ((rd_T28 x9_45 x10_3).f1) ((rd_T28 x9_45 x10_3).f2) ((rd_T28 x9_45 x10_3).f3) ((rd_T28 x9_45 x10_3).f4) ((rd_T28 x9_45 x10_3).f5) ((rd_T28 x9_45 x10_3).f6) a2).bind fun bt469 => ((monitor_Valid.f bt469.1 bt469.2.1 bt469.2.2.1 bt469.2.2.2.1 bt469.2.2.2.2.1 bt469.2.2.2.2.2.1 bt469.2.2.2.2.2.2).bind fun t476 => (if t476 = true then ((monitor_Miss.f ((rd_T28 x9_45 x10_3).f0) ((rd_T28 x9_45 x10_3).f1) ((rd_T28 x9_45 x10_3).f2) ((rd_T28 x9_45 x10_3).f3) ((rd_T28 x9_45 x10_3).f4) ((rd_T28 x9_45 x10_3).f5) ((rd_T28 x9_45 x10_3).f6)).bind fun bt477 => ((monitor_Valid.f bt477.1 bt477.2.1 bt477.2.2.1 bt477.2.2.2.1 bt477.2.2.2.2.1 bt477.2.2.2.2.2.1 bt477.2.2.2.2.2.2).bind fun t484 => (if t484 = true then (wireloomlaw45_MonitorMatchesReference.l0 k3 a2 true x9_45 (wrap64 (x10_3 + 1))) else (some false)))) else (some false))))))))))) = some r := H
                    have A68 := Aside0.mk A680
                    clear A680
                    by_cases c69 : (t439 != t440) = true
                    · rw [if_pos c69] at H
                      exact absurd ((Option.some.inj H).trans HRT.out) Bool.false_ne_true
                    rw [if_neg c69] at H
                    have c69b0 : (t439 != t440) = false := by simpa using c69
                    (try (have c69b1 : decide (t439 = t440) = true := by simpa using c69))
                    (try (have c69b2 : (t439 == t440) = true := by simpa using c69))
                    clear c69
                    replace H := Option.bind_eq_some_iff.mp H
                    obtain ⟨⟨t441, t442, t443, t444, t445, t446, t447⟩, A700, H⟩ := H
                    replace H : ((wireloomref45_See.f ((rd_T28 x9_45 x10_3).f0) ((rd_T28 x9_45 x10_3).f1) ((rd_T28 x9_45 x10_3).f2) ((rd_T28 x9_45 x10_3).f3) ((rd_T28 x9_45 x10_3).f4) ((rd_T28 x9_45 x10_3).f5) ((rd_T28 x9_45 x10_3).f6) a2).bind fun bt448 => (if (!(t441 == bt448.1) || (!(t442 == bt448.2.1) || (!(t443 == bt448.2.2.1) || (!(t444 == bt448.2.2.2.1) || (!(t445 == bt448.2.2.2.2.1) || (!(t446 == bt448.2.2.2.2.2.1) || (!(t447 == bt448.2.2.2.2.2.2)))))))) = true then (some false) else ((monitor_Miss.f ((rd_T28 x9_45 x10_3).f0) ((rd_T28 x9_45 x10_3).f1) ((rd_T28 x9_45 x10_3).f2) ((rd_T28 x9_45 x10_3).f3) ((rd_T28 x9_45 x10_3).f4) ((rd_T28 x9_45 x10_3).f5) ((rd_T28 x9_45 x10_3).f6)).bind fun bt455 => ((wireloomref45_Miss.f ((rd_T28 x9_45 x10_3).f0) ((rd_T28 x9_45 x10_3).f1) ((rd_T28 x9_45 x10_3).f2) ((rd_T28 x9_45 x10_3).f3) ((rd_T28 x9_45 x10_3).f4) ((rd_T28 x9_45 x10_3).f5) ((rd_T28 x9_45 x10_3).f6)).bind fun bt462 => (if (!(bt455.1 == bt462.1) || (!(bt455.2.1 == bt462.2.1) || (!(bt455.2.2.1 == bt462.2.2.1) || (!(bt455.2.2.2.1 == bt462.2.2.2.1) || (!(bt455.2.2.2.2.1 == bt462.2.2.2.2.1) || (!(bt455.2.2.2.2.2.1 == bt462.2.2.2.2.2.1) || (!(bt455.2.2.2.2.2.2 == bt462.2.2.2.2.2.2)))))))) = true then (some false) else ((monitor_See.f ((rd_T28 x9_45 x10_3).f0) ((rd_T28 x9_45 x10_3).f1) ((rd_T28 x9_45 x10_3).f2) ((rd_T28 x9_45 x10_3).f3) ((rd_T28 x9_45 x10_3).f4) ((rd_T28 x9_45 x10_3).f5) ((rd_T28 x9_45 x10_3).f6) a2).bind fun bt469 => ((monitor_Valid.f bt469.1 bt469.2.1 bt469.2.2.1 bt469.2.2.2.1 bt469.2.2.2.2.1 bt469.2.2.2.2.2.1 bt469.2.2.2.2.2.2).bind fun t476 => (if t476 = true then ((monitor_Miss.f ((rd_T28 x9_45 x10_3).f0) ((rd_T28 x9_45 x10_3).f1) ((rd_T28 x9_45 x10_3).f2) ((rd_T28 x9_45 x10_3).f3) ((rd_T28 x9_45 x10_3).f4) ((rd_T28 x9_45 x10_3).f5) ((rd_T28 x9_45 x10_3).f6)).bind fun bt477 => ((monitor_Valid.f bt477.1 bt477.2.1 bt477.2.2.1 bt477.2.2.2.1 bt477.2.2.2.2.1 bt477.2.2.2.2.2.1 bt477.2.2.2.2.2.2).bind fun t484 => (if t484 = true then (wireloomlaw45_MonitorMatchesReference.l0 k3 a2 true x9_45 (wrap64 (x10_3 + 1))) else (some false)))) else (some false))))))))) = some r := H
                    have A70 := Aside0.mk A700
                    clear A700
                    replace H := Option.bind_eq_some_iff.mp H
                    obtain ⟨⟨t448, t449, t450, t451, t452, t453, t454⟩, A710, H⟩ := H
                    replace H : (if (!(t441 == t448) || (!(t442 == t449) || (!(t443 == t450) || (!(t444 == t451) || (!(t445 == t452) || (!(t446 == t453) || (!(t447 == t454)))))))) = true then (some false) else ((monitor_Miss.f ((rd_T28 x9_45 x10_3).f0) ((rd_T28 x9_45 x10_3).f1) ((rd_T28 x9_45 x10_3).f2) ((rd_T28 x9_45 x10_3).f3) ((rd_T28 x9_45 x10_3).f4) ((rd_T28 x9_45 x10_3).f5) ((rd_T28 x9_45 x10_3).f6)).bind fun bt455 => ((wireloomref45_Miss.f ((rd_T28 x9_45 x10_3).f0) ((rd_T28 x9_45 x10_3).f1) ((rd_T28 x9_45 x10_3).f2) ((rd_T28 x9_45 x10_3).f3) ((rd_T28 x9_45 x10_3).f4) ((rd_T28 x9_45 x10_3).f5) ((rd_T28 x9_45 x10_3).f6)).bind fun bt462 => (if (!(bt455.1 == bt462.1) || (!(bt455.2.1 == bt462.2.1) || (!(bt455.2.2.1 == bt462.2.2.1) || (!(bt455.2.2.2.1 == bt462.2.2.2.1) || (!(bt455.2.2.2.2.1 == bt462.2.2.2.2.1) || (!(bt455.2.2.2.2.2.1 == bt462.2.2.2.2.2.1) || (!(bt455.2.2.2.2.2.2 == bt462.2.2.2.2.2.2)))))))) = true then (some false) else ((monitor_See.f ((rd_T28 x9_45 x10_3).f0) ((rd_T28 x9_45 x10_3).f1) ((rd_T28 x9_45 x10_3).f2) ((rd_T28 x9_45 x10_3).f3) ((rd_T28 x9_45 x10_3).f4) ((rd_T28 x9_45 x10_3).f5) ((rd_T28 x9_45 x10_3).f6) a2).bind fun bt469 => ((monitor_Valid.f bt469.1 bt469.2.1 bt469.2.2.1 bt469.2.2.2.1 bt469.2.2.2.2.1 bt469.2.2.2.2.2.1 bt469.2.2.2.2.2.2).bind fun t476 => (if t476 = true then ((monitor_Miss.f ((rd_T28 x9_45 x10_3).f0) ((rd_T28 x9_45 x10_3).f1) ((rd_T28 x9_45 x10_3).f2) ((rd_T28 x9_45 x10_3).f3) ((rd_T28 x9_45 x10_3).f4) ((rd_T28 x9_45 x10_3).f5) ((rd_T28 x9_45 x10_3).f6)).bind fun bt477 => ((monitor_Valid.f bt477.1 bt477.2.1 bt477.2.2.1 bt477.2.2.2.1 bt477.2.2.2.2.1 bt477.2.2.2.2.2.1 bt477.2.2.2.2.2.2).bind fun t484 => (if t484 = true then (wireloomlaw45_MonitorMatchesReference.l0 k3 a2 true x9_45 (wrap64 (x10_3 + 1))) else (some false)))) else (some false)))))))) = some r := H
                    have A71 := Aside0.mk A710
                    clear A710
                    by_cases c72 : (!(t441 == t448) || (!(t442 == t449) || (!(t443 == t450) || (!(t444 == t451) || (!(t445 == t452) || (!(t446 == t453) || (!(t447 == t454)))))))) = true
                    · rw [if_pos c72] at H
                      exact absurd ((Option.some.inj H).trans HRT.out) Bool.false_ne_true
                    rw [if_neg c72] at H
                    have c72b0 : (!(t441 == t448) || (!(t442 == t449) || (!(t443 == t450) || (!(t444 == t451) || (!(t445 == t452) || (!(t446 == t453) || (!(t447 == t454)))))))) = false := by simpa using c72
                    clear c72
                    replace H := Option.bind_eq_some_iff.mp H
                    obtain ⟨⟨t455, t456, t457, t458, t459, t460, t461⟩, A730, H⟩ := H
                    replace H : ((wireloomref45_Miss.f ((rd_T28 x9_45 x10_3).f0) ((rd_T28 x9_45 x10_3).f1) ((rd_T28 x9_45 x10_3).f2) ((rd_T28 x9_45 x10_3).f3) ((rd_T28 x9_45 x10_3).f4) ((rd_T28 x9_45 x10_3).f5) ((rd_T28 x9_45 x10_3).f6)).bind fun bt462 => (if (!(t455 == bt462.1) || (!(t456 == bt462.2.1) || (!(t457 == bt462.2.2.1) || (!(t458 == bt462.2.2.2.1) || (!(t459 == bt462.2.2.2.2.1) || (!(t460 == bt462.2.2.2.2.2.1) || (!(t461 == bt462.2.2.2.2.2.2)))))))) = true then (some false) else ((monitor_See.f ((rd_T28 x9_45 x10_3).f0) ((rd_T28 x9_45 x10_3).f1) ((rd_T28 x9_45 x10_3).f2) ((rd_T28 x9_45 x10_3).f3) ((rd_T28 x9_45 x10_3).f4) ((rd_T28 x9_45 x10_3).f5) ((rd_T28 x9_45 x10_3).f6) a2).bind fun bt469 => ((monitor_Valid.f bt469.1 bt469.2.1 bt469.2.2.1 bt469.2.2.2.1 bt469.2.2.2.2.1 bt469.2.2.2.2.2.1 bt469.2.2.2.2.2.2).bind fun t476 => (if t476 = true then ((monitor_Miss.f ((rd_T28 x9_45 x10_3).f0) ((rd_T28 x9_45 x10_3).f1) ((rd_T28 x9_45 x10_3).f2) ((rd_T28 x9_45 x10_3).f3) ((rd_T28 x9_45 x10_3).f4) ((rd_T28 x9_45 x10_3).f5) ((rd_T28 x9_45 x10_3).f6)).bind fun bt477 => ((monitor_Valid.f bt477.1 bt477.2.1 bt477.2.2.1 bt477.2.2.2.1 bt477.2.2.2.2.1 bt477.2.2.2.2.2.1 bt477.2.2.2.2.2.2).bind fun t484 => (if t484 = true then (wireloomlaw45_MonitorMatchesReference.l0 k3 a2 true x9_45 (wrap64 (x10_3 + 1))) else (some false)))) else (some false)))))) = some r := H
                    have A73 := Aside0.mk A730
                    clear A730
                    replace H := Option.bind_eq_some_iff.mp H
                    obtain ⟨⟨t462, t463, t464, t465, t466, t467, t468⟩, A740, H⟩ := H
                    replace H : (if (!(t455 == t462) || (!(t456 == t463) || (!(t457 == t464) || (!(t458 == t465) || (!(t459 == t466) || (!(t460 == t467) || (!(t461 == t468)))))))) = true then (some false) else ((monitor_See.f ((rd_T28 x9_45 x10_3).f0) ((rd_T28 x9_45 x10_3).f1) ((rd_T28 x9_45 x10_3).f2) ((rd_T28 x9_45 x10_3).f3) ((rd_T28 x9_45 x10_3).f4) ((rd_T28 x9_45 x10_3).f5) ((rd_T28 x9_45 x10_3).f6) a2).bind fun bt469 => ((monitor_Valid.f bt469.1 bt469.2.1 bt469.2.2.1 bt469.2.2.2.1 bt469.2.2.2.2.1 bt469.2.2.2.2.2.1 bt469.2.2.2.2.2.2).bind fun t476 => (if t476 = true then ((monitor_Miss.f ((rd_T28 x9_45 x10_3).f0) ((rd_T28 x9_45 x10_3).f1) ((rd_T28 x9_45 x10_3).f2) ((rd_T28 x9_45 x10_3).f3) ((rd_T28 x9_45 x10_3).f4) ((rd_T28 x9_45 x10_3).f5) ((rd_T28 x9_45 x10_3).f6)).bind fun bt477 => ((monitor_Valid.f bt477.1 bt477.2.1 bt477.2.2.1 bt477.2.2.2.1 bt477.2.2.2.2.1 bt477.2.2.2.2.2.1 bt477.2.2.2.2.2.2).bind fun t484 => (if t484 = true then (wireloomlaw45_MonitorMatchesReference.l0 k3 a2 true x9_45 (wrap64 (x10_3 + 1))) else (some false)))) else (some false))))) = some r := H
                    have A74 := Aside0.mk A740
                    clear A740
                    by_cases c75 : (!(t455 == t462) || (!(t456 == t463) || (!(t457 == t464) || (!(t458 == t465) || (!(t459 == t466) || (!(t460 == t467) || (!(t461 == t468)))))))) = true
                    · rw [if_pos c75] at H
                      exact absurd ((Option.some.inj H).trans HRT.out) Bool.false_ne_true
                    rw [if_neg c75] at H
                    have c75b0 : (!(t455 == t462) || (!(t456 == t463) || (!(t457 == t464) || (!(t458 == t465) || (!(t459 == t466) || (!(t460 == t467) || (!(t461 == t468)))))))) = false := by simpa using c75
                    clear c75
                    replace H := Option.bind_eq_some_iff.mp H
                    obtain ⟨⟨t469, t470, t471, t472, t473, t474, t475⟩, A760, H⟩ := H
                    replace H : ((monitor_Valid.f t469 t470 t471 t472 t473 t474 t475).bind fun t476 => (if t476 = true then ((monitor_Miss.f ((rd_T28 x9_45 x10_3).f0) ((rd_T28 x9_45 x10_3).f1) ((rd_T28 x9_45 x10_3).f2) ((rd_T28 x9_45 x10_3).f3) ((rd_T28 x9_45 x10_3).f4) ((rd_T28 x9_45 x10_3).f5) ((rd_T28 x9_45 x10_3).f6)).bind fun bt477 => ((monitor_Valid.f bt477.1 bt477.2.1 bt477.2.2.1 bt477.2.2.2.1 bt477.2.2.2.2.1 bt477.2.2.2.2.2.1 bt477.2.2.2.2.2.2).bind fun t484 => (if t484 = true then (wireloomlaw45_MonitorMatchesReference.l0 k3 a2 true x9_45 (wrap64 (x10_3 + 1))) else (some false)))) else (some false))) = some r := H
                    have A76 := Aside0.mk A760
                    clear A760
                    replace H := Option.bind_eq_some_iff.mp H
                    obtain ⟨t476, A770, H⟩ := H
                    replace H : (if t476 = true then ((monitor_Miss.f ((rd_T28 x9_45 x10_3).f0) ((rd_T28 x9_45 x10_3).f1) ((rd_T28 x9_45 x10_3).f2) ((rd_T28 x9_45 x10_3).f3) ((rd_T28 x9_45 x10_3).f4) ((rd_T28 x9_45 x10_3).f5) ((rd_T28 x9_45 x10_3).f6)).bind fun bt477 => ((monitor_Valid.f bt477.1 bt477.2.1 bt477.2.2.1 bt477.2.2.2.1 bt477.2.2.2.2.1 bt477.2.2.2.2.2.1 bt477.2.2.2.2.2.2).bind fun t484 => (if t484 = true then (wireloomlaw45_MonitorMatchesReference.l0 k3 a2 true x9_45 (wrap64 (x10_3 + 1))) else (some false)))) else (some false)) = some r := H
                    have A77 := Aside0.mk A770
                    clear A770
                    by_cases c78 : t476 = true
                    · subst c78
                      have H1 : ((monitor_Miss.f ((rd_T28 x9_45 x10_3).f0) ((rd_T28 x9_45 x10_3).f1) ((rd_T28 x9_45 x10_3).f2) ((rd_T28 x9_45 x10_3).f3) ((rd_T28 x9_45 x10_3).f4) ((rd_T28 x9_45 x10_3).f5) ((rd_T28 x9_45 x10_3).f6)).bind fun bt477 => ((monitor_Valid.f bt477.1 bt477.2.1 bt477.2.2.1 bt477.2.2.2.1 bt477.2.2.2.2.1 bt477.2.2.2.2.2.1 bt477.2.2.2.2.2.2).bind fun t484 => (if t484 = true then (wireloomlaw45_MonitorMatchesReference.l0 k3 a2 true x9_45 (wrap64 (x10_3 + 1))) else (some false)))) = some r := by rw [if_pos rfl] at H; exact H
                      clear H
                      have H := H1
                      clear H1
                      replace H := Option.bind_eq_some_iff.mp H
                      obtain ⟨⟨t477, t478, t479, t480, t481, t482, t483⟩, A790, H⟩ := H
                      replace H : ((monitor_Valid.f t477 t478 t479 t480 t481 t482 t483).bind fun t484 => (if t484 = true then (wireloomlaw45_MonitorMatchesReference.l0 k3 a2 true x9_45 (wrap64 (x10_3 + 1))) else (some false))) = some r := H
                      have A79 := Aside0.mk A790
                      clear A790
                      replace H := Option.bind_eq_some_iff.mp H
                      obtain ⟨t484, A800, H⟩ := H
                      replace H : (if t484 = true then (wireloomlaw45_MonitorMatchesReference.l0 k3 a2 true x9_45 (wrap64 (x10_3 + 1))) else (some false)) = some r := H
                      have A80 := Aside0.mk A800
                      clear A800
                      by_cases c81 : t484 = true
                      · subst c81
                        have H1 : (wireloomlaw45_MonitorMatchesReference.l0 k3 a2 true x9_45 (wrap64 (x10_3 + 1))) = some r := by rw [if_pos rfl] at H; exact H
                        clear H
                        have H := H1
                        clear H1
                        have H' := Aside0.mk H
                        clear H
                        obtain ⟨Ao82, co82, eo82⟩ := Kd.R_slice HO_9.out
                        subst eo82
                        have p433 : 0 ≤ (x10_3 : Int) := of_decide_eq_true (by first | (with_reducible assumption) | assumption)
                        have q433 : x10_3 < (x9_45.length : Int) := of_decide_eq_true (by first | (with_reducible assumption) | assumption)
                        obtain ⟨ad433, e433, hx433_0, hx433_1, hx433_2, hx433_3, hx433_4, hx433_5, hx433_6⟩ := at_T28 (Kd.R_reads' HO_9.out).2.2 x10_3 p433 q433
                        cases e433
                        replace p433 := eq_true p433
                        replace q433 := eq_true q433
                        try go_wp2_with (first | ((with_reducible refine gate_dst (N := 11) rfl ?_); refine box_event ?hg (N := 11) ?hd (cs := #[.int .i64 0, .int .i64 0, .int .i64 0, .int .i64 0, .int .i64 0, .int .i64 0, .bool false]) (t := 28) ?hr ?_; (case hd => rfl); (case hg => rfl); (case hr => first | (go_simp; done) | (go_simp; rfl)); intro gb434 hg w83 hbox hb; have n0_ := Aside0.mk (Kd.R_below (Kd.R_elderB (by (with_reducible repeat (first | apply Kd.R_alloc | apply Kd.R_drewN | apply Kd.R_drew)); exact HO_9.out) gb434 (Nat.le_of_eq hg.symm)) hb); have n1_ := bxb BK382 hb; have n2_ := bxb BK383 hb; have n3_ := bxb BK392 hb; have n4_ := Aside0.mk (below_step (bwt HB) hb); have n5_ := Aside0.mk (hbox); have n6_ := Aside0.mk ((by rw [hg]; exact (below_size (bwt HB)) : w.heap.size ≤ gb434)); have n7_ := Aside0.mk ((by rw [hg]; exact (below_size (bwt HB)) : w.heap.size ≤ gb434)); have n8_ := nlt_ BK382 hg; have n9_ := ngt_ BK382 hg; have n10_ := nlt_ BK383 hg; have n11_ := ngt_ BK383 hg; have n12_ := nlt_ BK392 hg; have n13_ := ngt_ BK392 hg; clear HO_9; clear BK382; clear BK383; clear BK392; clear HB; have HO_9 := n0_; have BK382 := n1_; have BK383 := n2_; have BK392 := n3_; have HB := n4_; have BK434 := n5_; have GW434 := n6_; have GE434 := n7_; have NB382_434 := n8_; have NB434_382 := n9_; have NB383_434 := n10_; have NB434_383 := n11_; have NB392_434 := n12_; have NB434_392 := n13_; clear n0_ n1_ n2_ n3_ n4_ n5_ n6_ n7_ n8_ n9_ n10_ n11_ n12_ n13_; clear hb hbox hg; have hnb84 := NB434_382.out; have hnc84 := NB382_434.out; have hnb85 := NB434_383.out; have hnc85 := NB383_434.out; have hnb86 := NB434_392.out; have hnc86 := NB392_434.out; have hcz87_0 : w83.cell? ⟨gb434, 0, none⟩ = some (.int .i64 0) := bc BK434 0; have hcz87_1 : w83.cell? ⟨gb434, 1, none⟩ = some (.int .i64 0) := bc BK434 1; have hcz87_2 : w83.cell? ⟨gb434, 2, none⟩ = some (.int .i64 0) := bc BK434 2; have hcz87_3 : w83.cell? ⟨gb434, 3, none⟩ = some (.int .i64 0) := bc BK434 3; have hcz87_4 : w83.cell? ⟨gb434, 4, none⟩ = some (.int .i64 0) := bc BK434 4; have hcz87_5 : w83.cell? ⟨gb434, 5, none⟩ = some (.int .i64 0) := bc BK434 5; have hcz87_6 : w83.cell? ⟨gb434, 6, none⟩ = some (.bool false) := bc BK434 6; have hfz87_0 := blk_frozen BK434.out 0; have hfz87_1 := blk_frozen BK434.out 1; have hfz87_2 := blk_frozen BK434.out 2; have hfz87_3 := blk_frozen BK434.out 3; have hfz87_4 := blk_frozen BK434.out 4; have hfz87_5 := blk_frozen BK434.out 5; have hfz87_6 := blk_frozen BK434.out 6))
                        have n0_ : Aside0 (Kd.R k28 28 (((((((w83.setCell ⟨gb434, 0, none⟩ (.int .i64 ((rd_T28 x9_45 x10_3).f0))).setCell ⟨gb434, 1, none⟩ (.int .i64 ((rd_T28 x9_45 x10_3).f1))).setCell ⟨gb434, 2, none⟩ (.int .i64 ((rd_T28 x9_45 x10_3).f2))).setCell ⟨gb434, 3, none⟩ (.int .i64 ((rd_T28 x9_45 x10_3).f3))).setCell ⟨gb434, 4, none⟩ (.int .i64 ((rd_T28 x9_45 x10_3).f4))).setCell ⟨gb434, 5, none⟩ (.int .i64 ((rd_T28 x9_45 x10_3).f5))).setCell ⟨gb434, 6, none⟩ (.bool ((rd_T28 x9_45 x10_3).f6))) w.heap.size (fun k_ => k_ ≠ gb383 ∧ k_ ≠ gb392 ∧ k_ ≠ gb434) (.slice (some ad433) x9_45.length co82) x9_45) := ⟨by (with_reducible repeat (first | apply Kd.R_alloc | apply Kd.R_drewN | apply Kd.R_drew)); exact Kd.R_mono (Kd.R_far (p := ⟨gb434, 6, none⟩) (Kd.R_far (p := ⟨gb434, 5, none⟩) (Kd.R_far (p := ⟨gb434, 4, none⟩) (Kd.R_far (p := ⟨gb434, 3, none⟩) (Kd.R_far (p := ⟨gb434, 2, none⟩) (Kd.R_far (p := ⟨gb434, 1, none⟩) (Kd.R_far (p := ⟨gb434, 0, none⟩) (Kd.R_mono HO_9.out (fun k_ hk => (⟨hk, hk.2⟩ : _ ∧ k_ ≠ gb434))) (fun _ hk => hk.2) (.int .i64 ((rd_T28 x9_45 x10_3).f0))) (fun _ hk => hk.2) (.int .i64 ((rd_T28 x9_45 x10_3).f1))) (fun _ hk => hk.2) (.int .i64 ((rd_T28 x9_45 x10_3).f2))) (fun _ hk => hk.2) (.int .i64 ((rd_T28 x9_45 x10_3).f3))) (fun _ hk => hk.2) (.int .i64 ((rd_T28 x9_45 x10_3).f4))) (fun _ hk => hk.2) (.int .i64 ((rd_T28 x9_45 x10_3).f5))) (fun _ hk => hk.2) (.bool ((rd_T28 x9_45 x10_3).f6))) (fun _ hk => ⟨hk.1.1.1, ⟨hk.1.1.2, hk.1.2⟩⟩)⟩
                        have n1_ : Aside0 ((((((((w83.setCell ⟨gb434, 0, none⟩ (.int .i64 ((rd_T28 x9_45 x10_3).f0))).setCell ⟨gb434, 1, none⟩ (.int .i64 ((rd_T28 x9_45 x10_3).f1))).setCell ⟨gb434, 2, none⟩ (.int .i64 ((rd_T28 x9_45 x10_3).f2))).setCell ⟨gb434, 3, none⟩ (.int .i64 ((rd_T28 x9_45 x10_3).f3))).setCell ⟨gb434, 4, none⟩ (.int .i64 ((rd_T28 x9_45 x10_3).f4))).setCell ⟨gb434, 5, none⟩ (.int .i64 ((rd_T28 x9_45 x10_3).f5))).setCell ⟨gb434, 6, none⟩ (.bool ((rd_T28 x9_45 x10_3).f6))).heap[gb382]? = some (.cells #[.int .u8 a0_0, .int .u8 a0_1, .int .u8 a0_2, .int .u8 a0_3, .slice A0_4 l0_4.length c0_4, .int .u8 a0_5, .int .u8 a0_6] 26 (0, 0))) := ⟨by (with_reducible repeat refine bp_ ?_); refine blk_far ?_ NB382_434.out _; (with_reducible repeat refine bp_ ?_); refine blk_far ?_ NB382_434.out _; (with_reducible repeat refine bp_ ?_); refine blk_far ?_ NB382_434.out _; (with_reducible repeat refine bp_ ?_); refine blk_far ?_ NB382_434.out _; (with_reducible repeat refine bp_ ?_); refine blk_far ?_ NB382_434.out _; (with_reducible repeat refine bp_ ?_); refine blk_far ?_ NB382_434.out _; (with_reducible repeat refine bp_ ?_); refine blk_far ?_ NB382_434.out _; (with_reducible repeat refine bp_ ?_); exact BK382.out⟩
                        have n2_ : Aside0 ((((((((w83.setCell ⟨gb434, 0, none⟩ (.int .i64 ((rd_T28 x9_45 x10_3).f0))).setCell ⟨gb434, 1, none⟩ (.int .i64 ((rd_T28 x9_45 x10_3).f1))).setCell ⟨gb434, 2, none⟩ (.int .i64 ((rd_T28 x9_45 x10_3).f2))).setCell ⟨gb434, 3, none⟩ (.int .i64 ((rd_T28 x9_45 x10_3).f3))).setCell ⟨gb434, 4, none⟩ (.int .i64 ((rd_T28 x9_45 x10_3).f4))).setCell ⟨gb434, 5, none⟩ (.int .i64 ((rd_T28 x9_45 x10_3).f5))).setCell ⟨gb434, 6, none⟩ (.bool ((rd_T28 x9_45 x10_3).f6))).heap[gb383]? = some (.cells #[.int .i64 a1_0, .int .i64 a1_1, .int .i64 a1_2, .int .i64 a1_3, .int .i64 a1_4, .int .i64 a1_5, .bool a1_6] 28 (0, 0))) := ⟨by (with_reducible repeat refine bp_ ?_); refine blk_far ?_ NB383_434.out _; (with_reducible repeat refine bp_ ?_); refine blk_far ?_ NB383_434.out _; (with_reducible repeat refine bp_ ?_); refine blk_far ?_ NB383_434.out _; (with_reducible repeat refine bp_ ?_); refine blk_far ?_ NB383_434.out _; (with_reducible repeat refine bp_ ?_); refine blk_far ?_ NB383_434.out _; (with_reducible repeat refine bp_ ?_); refine blk_far ?_ NB383_434.out _; (with_reducible repeat refine bp_ ?_); refine blk_far ?_ NB383_434.out _; (with_reducible repeat refine bp_ ?_); exact BK383.out⟩
                        have n3_ : Aside0 ((((((((w83.setCell ⟨gb434, 0, none⟩ (.int .i64 ((rd_T28 x9_45 x10_3).f0))).setCell ⟨gb434, 1, none⟩ (.int .i64 ((rd_T28 x9_45 x10_3).f1))).setCell ⟨gb434, 2, none⟩ (.int .i64 ((rd_T28 x9_45 x10_3).f2))).setCell ⟨gb434, 3, none⟩ (.int .i64 ((rd_T28 x9_45 x10_3).f3))).setCell ⟨gb434, 4, none⟩ (.int .i64 ((rd_T28 x9_45 x10_3).f4))).setCell ⟨gb434, 5, none⟩ (.int .i64 ((rd_T28 x9_45 x10_3).f5))).setCell ⟨gb434, 6, none⟩ (.bool ((rd_T28 x9_45 x10_3).f6))).heap[gb392]? = some (.cells #[.int .i64 t385, .int .i64 t386, .int .i64 t387, .int .i64 t388, .int .i64 t389, .int .i64 t390, .bool t391] 28 (0, 0))) := ⟨by (with_reducible repeat refine bp_ ?_); refine blk_far ?_ NB392_434.out _; (with_reducible repeat refine bp_ ?_); refine blk_far ?_ NB392_434.out _; (with_reducible repeat refine bp_ ?_); refine blk_far ?_ NB392_434.out _; (with_reducible repeat refine bp_ ?_); refine blk_far ?_ NB392_434.out _; (with_reducible repeat refine bp_ ?_); refine blk_far ?_ NB392_434.out _; (with_reducible repeat refine bp_ ?_); refine blk_far ?_ NB392_434.out _; (with_reducible repeat refine bp_ ?_); refine blk_far ?_ NB392_434.out _; (with_reducible repeat refine bp_ ?_); exact BK392.out⟩
                        have n4_ : Aside0 ((((((((w83.setCell ⟨gb434, 0, none⟩ (.int .i64 ((rd_T28 x9_45 x10_3).f0))).setCell ⟨gb434, 1, none⟩ (.int .i64 ((rd_T28 x9_45 x10_3).f1))).setCell ⟨gb434, 2, none⟩ (.int .i64 ((rd_T28 x9_45 x10_3).f2))).setCell ⟨gb434, 3, none⟩ (.int .i64 ((rd_T28 x9_45 x10_3).f3))).setCell ⟨gb434, 4, none⟩ (.int .i64 ((rd_T28 x9_45 x10_3).f4))).setCell ⟨gb434, 5, none⟩ (.int .i64 ((rd_T28 x9_45 x10_3).f5))).setCell ⟨gb434, 6, none⟩ (.bool ((rd_T28 x9_45 x10_3).f6))).heap[gb434]? = some (.cells #[.int .i64 ((rd_T28 x9_45 x10_3).f0), .int .i64 ((rd_T28 x9_45 x10_3).f1), .int .i64 ((rd_T28 x9_45 x10_3).f2), .int .i64 ((rd_T28 x9_45 x10_3).f3), .int .i64 ((rd_T28 x9_45 x10_3).f4), .int .i64 ((rd_T28 x9_45 x10_3).f5), .bool ((rd_T28 x9_45 x10_3).f6)] 28 (0, 0))) := ⟨by (with_reducible repeat refine bp_ ?_); refine blk_put (cs := #[.int .i64 ((rd_T28 x9_45 x10_3).f0), .int .i64 ((rd_T28 x9_45 x10_3).f1), .int .i64 ((rd_T28 x9_45 x10_3).f2), .int .i64 ((rd_T28 x9_45 x10_3).f3), .int .i64 ((rd_T28 x9_45 x10_3).f4), .int .i64 ((rd_T28 x9_45 x10_3).f5), .bool false]) ?_ 6 _ rfl; (with_reducible repeat refine bp_ ?_); refine blk_put (cs := #[.int .i64 ((rd_T28 x9_45 x10_3).f0), .int .i64 ((rd_T28 x9_45 x10_3).f1), .int .i64 ((rd_T28 x9_45 x10_3).f2), .int .i64 ((rd_T28 x9_45 x10_3).f3), .int .i64 ((rd_T28 x9_45 x10_3).f4), .int .i64 0, .bool false]) ?_ 5 _ rfl; (with_reducible repeat refine bp_ ?_); refine blk_put (cs := #[.int .i64 ((rd_T28 x9_45 x10_3).f0), .int .i64 ((rd_T28 x9_45 x10_3).f1), .int .i64 ((rd_T28 x9_45 x10_3).f2), .int .i64 ((rd_T28 x9_45 x10_3).f3), .int .i64 0, .int .i64 0, .bool false]) ?_ 4 _ rfl; (with_reducible repeat refine bp_ ?_); refine blk_put (cs := #[.int .i64 ((rd_T28 x9_45 x10_3).f0), .int .i64 ((rd_T28 x9_45 x10_3).f1), .int .i64 ((rd_T28 x9_45 x10_3).f2), .int .i64 0, .int .i64 0, .int .i64 0, .bool false]) ?_ 3 _ rfl; (with_reducible repeat refine bp_ ?_); refine blk_put (cs := #[.int .i64 ((rd_T28 x9_45 x10_3).f0), .int .i64 ((rd_T28 x9_45 x10_3).f1), .int .i64 0, .int .i64 0, .int .i64 0, .int .i64 0, .bool false]) ?_ 2 _ rfl; (with_reducible repeat refine bp_ ?_); refine blk_put (cs := #[.int .i64 ((rd_T28 x9_45 x10_3).f0), .int .i64 0, .int .i64 0, .int .i64 0, .int .i64 0, .int .i64 0, .bool false]) ?_ 1 _ rfl; (with_reducible repeat refine bp_ ?_); refine blk_put (cs := #[.int .i64 0, .int .i64 0, .int .i64 0, .int .i64 0, .int .i64 0, .int .i64 0, .bool false]) ?_ 0 _ rfl; (with_reducible repeat refine bp_ ?_); exact BK434.out⟩
                        have n5_ : Aside0 (Below w.heap.size w (((((((w83.setCell ⟨gb434, 0, none⟩ (.int .i64 ((rd_T28 x9_45 x10_3).f0))).setCell ⟨gb434, 1, none⟩ (.int .i64 ((rd_T28 x9_45 x10_3).f1))).setCell ⟨gb434, 2, none⟩ (.int .i64 ((rd_T28 x9_45 x10_3).f2))).setCell ⟨gb434, 3, none⟩ (.int .i64 ((rd_T28 x9_45 x10_3).f3))).setCell ⟨gb434, 4, none⟩ (.int .i64 ((rd_T28 x9_45 x10_3).f4))).setCell ⟨gb434, 5, none⟩ (.int .i64 ((rd_T28 x9_45 x10_3).f5))).setCell ⟨gb434, 6, none⟩ (.bool ((rd_T28 x9_45 x10_3).f6)))) := ⟨by repeat (first | (with_reducible first | exact HB.out | apply below_alloc | apply pw_below_drewN | apply below_drew1 | refine below_set ?_ GE382.out | refine below_set ?_ GE383.out | refine below_set ?_ GE392.out | refine below_set ?_ GE434.out) | exact HB.out)⟩
                        (try clear HO_9)
                        (try clear BK382)
                        (try clear BK383)
                        (try clear BK392)
                        (try clear BK434)
                        (try clear HB)
                        generalize (((((((w83.setCell ⟨gb434, 0, none⟩ (.int .i64 ((rd_T28 x9_45 x10_3).f0))).setCell ⟨gb434, 1, none⟩ (.int .i64 ((rd_T28 x9_45 x10_3).f1))).setCell ⟨gb434, 2, none⟩ (.int .i64 ((rd_T28 x9_45 x10_3).f2))).setCell ⟨gb434, 3, none⟩ (.int .i64 ((rd_T28 x9_45 x10_3).f3))).setCell ⟨gb434, 4, none⟩ (.int .i64 ((rd_T28 x9_45 x10_3).f4))).setCell ⟨gb434, 5, none⟩ (.int .i64 ((rd_T28 x9_45 x10_3).f5))).setCell ⟨gb434, 6, none⟩ (.bool ((rd_T28 x9_45 x10_3).f6))) = w88 at n0_ n1_ n2_ n3_ n4_ n5_ ⊢
                        have HO_9 := n0_
                        have BK382 := n1_
                        have BK383 := n2_
                        have BK392 := n3_
                        have BK434 := n4_
                        have HB := n5_
                        clear n0_ n1_ n2_ n3_ n4_ n5_
                        have n0_ := Aside0.mk (Kd.R_drew HO_9.out)
                        have n1_ := Aside0.mk (blk_drew BK382.out)
                        have n2_ := Aside0.mk (blk_drew BK383.out)
                        have n3_ := Aside0.mk (blk_drew BK392.out)
                        have n4_ := Aside0.mk (blk_drew BK434.out)
                        have n5_ := Aside0.mk (below_drew1 HB.out)
                        clear HO_9
                        clear BK382
                        clear BK383
                        clear BK392
                        clear BK434
                        clear HB
                        have HO_9 := n0_
                        have BK382 := n1_
                        have BK383 := n2_
                        have BK392 := n3_
                        have BK434 := n4_
                        have HB := n5_
                        clear n0_ n1_ n2_ n3_ n4_ n5_
                        refine start_ (n := 43) (S := fun w' => w'.cell? ⟨gb434, 0, none⟩ = some (.int .i64 ((rd_T28 x9_45 x10_3).f0)) ∧ w'.cell? ⟨gb434, 1, none⟩ = some (.int .i64 ((rd_T28 x9_45 x10_3).f1)) ∧ w'.cell? ⟨gb434, 2, none⟩ = some (.int .i64 ((rd_T28 x9_45 x10_3).f2)) ∧ w'.cell? ⟨gb434, 3, none⟩ = some (.int .i64 ((rd_T28 x9_45 x10_3).f3)) ∧ w'.cell? ⟨gb434, 4, none⟩ = some (.int .i64 ((rd_T28 x9_45 x10_3).f4)) ∧ w'.cell? ⟨gb434, 5, none⟩ = some (.int .i64 ((rd_T28 x9_45 x10_3).f5)) ∧ w'.cell? ⟨gb434, 6, none⟩ = some (.bool ((rd_T28 x9_45 x10_3).f6))) (ds := []) #[false, false, false, false, false, false, false, false, false, false, false, false, false, false, false, false, false, false, false, false, false, false, false, false, false, false, false, false, false, false, false, false, false, false, false, false, false, false, false, false, false, false, false] (by kernel_rfl) rfl rfl ⟨bc BK434 0, bc BK434 1, bc BK434 2, bc BK434 3, bc BK434 4, bc BK434 5, bc BK434 6⟩ (fun hHeld => ?_); refine with_tabW wireloomlaw45_MonitorMatchesReference.tab14 wireloomlaw45_MonitorMatchesReference.bits14 (fun HT_ HW_ => ?_)
                        generalize w88.drew = w89 at HO_9 BK382 BK383 BK392 BK434 HB hHeld ⊢
                        refine take_ (i := 0) (N := some 57) (v := ?_) (a' := ?_) #[true, false, false, false, false, false, false, false, false, false, false, false, false, false, false, false, false, false, false, false, false, false, false, false, false, false, false, false, false, false, false, false, false, false, false, false, false, false, false, false, false, false, false] rfl rfl (take_ofW HT_.out HW_.out (by kernel_rfl)) (fun _ _ _ h => h) (Or.inl ⟨by rfl, ?_⟩) hHeld ?_ ?_
                        rotate_left
                        · rintro w' ⟨s0, s1, s2, s3, s4, s5, s6⟩
                          go_simp
                          with_reducible rfl
                        rotate_left
                        · simp only [Act.put, List.setIfInBounds_toArray, List.set_cons_zero, List.set_cons_succ, i64_w, i32_w]
                          rfl
                        refine take_ (i := 2) (N := some 59) (v := ?_) (a' := ?_) #[true, false, true, false, false, false, false, false, false, false, false, false, false, false, false, false, false, false, false, false, false, false, false, false, false, false, false, false, false, false, false, false, false, false, false, false, false, false, false, false, false, false, false] rfl rfl (take_ofW HT_.out HW_.out (by kernel_rfl)) (fun _ _ _ h => h) (Or.inl ⟨by rfl, ?_⟩) hHeld ?_ ?_
                        rotate_left
                        · rintro w' ⟨s0, s1, s2, s3, s4, s5, s6⟩
                          go_simp
                          with_reducible rfl
                        rotate_left
                        · simp only [Act.put, List.setIfInBounds_toArray, List.set_cons_zero, List.set_cons_succ, i64_w, i32_w]
                          rfl
                        refine one_ (i := 1) (N := some 58) #[true, true, true, false, false, false, false, false, false, false, false, false, false, false, false, false, false, false, false, false, false, false, false, false, false, false, false, false, false, false, false, false, false, false, false, false, false, false, false, false, false, false, false] rfl rfl (one_of HT_.out (by kernel_rfl)) (by decide) (fun K hK => ?_)
                        refine goes_ Try.func17 (by kernel_rfl) rfl #[.agg #[.int .i64 ((rd_T28 x9_45 x10_3).f0), .int .i64 ((rd_T28 x9_45 x10_3).f1), .int .i64 ((rd_T28 x9_45 x10_3).f2), .int .i64 ((rd_T28 x9_45 x10_3).f3), .int .i64 ((rd_T28 x9_45 x10_3).f4), .int .i64 ((rd_T28 x9_45 x10_3).f5), .bool ((rd_T28 x9_45 x10_3).f6)]] (by rfl) rfl rfl (by (try simp only [List.map_toArray, List.map_cons, List.map_nil]); first | done | rfl | (simp only [List.length_drop, List.length_take]; rfl)) ?_
                        with_reducible refine (wireloomlaw45_outlook.calls ((rd_T28 x9_45 x10_3).f0) ((rd_T28 x9_45 x10_3).f1) ((rd_T28 x9_45 x10_3).f2) ((rd_T28 x9_45 x10_3).f3) ((rd_T28 x9_45 x10_3).f4) ((rd_T28 x9_45 x10_3).f5) ((rd_T28 x9_45 x10_3).f6) t435 t436 _ A64.out).mono ?_
                        rintro e w90 ⟨rfl, hb⟩
                        refine ⟨_, rfl, ?_⟩
                        have n0_ := Aside0.mk (Kd.R_below (by (with_reducible repeat (first | apply Kd.R_alloc | apply Kd.R_drewN | apply Kd.R_drew)); exact HO_9.out) hb)
                        have n1_ := bxb BK382 hb
                        have n2_ := bxb BK383 hb
                        have n3_ := bxb BK392 hb
                        have n4_ := bxb BK434 hb
                        have n5_ := Aside0.mk (below_step (bwt HB) hb)
                        clear HO_9
                        clear BK382
                        clear BK383
                        clear BK392
                        clear BK434
                        clear HB
                        have HO_9 := n0_
                        have BK382 := n1_
                        have BK383 := n2_
                        have BK392 := n3_
                        have BK434 := n4_
                        have HB := n5_
                        clear n0_ n1_ n2_ n3_ n4_ n5_
                        (try clear hb)
                        (try clear hb2)
                        (try clear hk)
                        (try clear hi)
                        refine hK.out _ _ ⟨bc BK434 0, bc BK434 1, bc BK434 2, bc BK434 3, bc BK434 4, bc BK434 5, bc BK434 6⟩ (fun hHeld => ?_)
                        clear hK K
                        refine norm_ (a' := ?_) ?_ ?_
                        rotate_left
                        · show Act.put _ (some 58) _ = _
                          simp only [Act.put, List.setIfInBounds_toArray, List.set_cons_zero, List.set_cons_succ, i64_w, i32_w]
                          rfl
                        refine one_ (i := 3) (N := some 60) #[true, true, true, true, false, false, false, false, false, false, false, false, false, false, false, false, false, false, false, false, false, false, false, false, false, false, false, false, false, false, false, false, false, false, false, false, false, false, false, false, false, false, false] rfl rfl (one_of HT_.out (by kernel_rfl)) (by decide) (fun K hK => ?_)
                        refine goes_ Try.func18 (by kernel_rfl) rfl #[.agg #[.int .i64 ((rd_T28 x9_45 x10_3).f0), .int .i64 ((rd_T28 x9_45 x10_3).f1), .int .i64 ((rd_T28 x9_45 x10_3).f2), .int .i64 ((rd_T28 x9_45 x10_3).f3), .int .i64 ((rd_T28 x9_45 x10_3).f4), .int .i64 ((rd_T28 x9_45 x10_3).f5), .bool ((rd_T28 x9_45 x10_3).f6)]] (by rfl) rfl rfl (by (try simp only [List.map_toArray, List.map_cons, List.map_nil]); first | done | rfl | (simp only [List.length_drop, List.length_take]; rfl)) ?_
                        with_reducible refine (wireloomref45_Outlook.calls ((rd_T28 x9_45 x10_3).f0) ((rd_T28 x9_45 x10_3).f1) ((rd_T28 x9_45 x10_3).f2) ((rd_T28 x9_45 x10_3).f3) ((rd_T28 x9_45 x10_3).f4) ((rd_T28 x9_45 x10_3).f5) ((rd_T28 x9_45 x10_3).f6) t437 t438 _ A65.out).mono ?_
                        rintro e w91 ⟨rfl, hb⟩
                        refine ⟨_, rfl, ?_⟩
                        have n0_ := Aside0.mk (Kd.R_below (by (with_reducible repeat (first | apply Kd.R_alloc | apply Kd.R_drewN | apply Kd.R_drew)); exact HO_9.out) hb)
                        have n1_ := bxb BK382 hb
                        have n2_ := bxb BK383 hb
                        have n3_ := bxb BK392 hb
                        have n4_ := bxb BK434 hb
                        have n5_ := Aside0.mk (below_step (bwt HB) hb)
                        clear HO_9
                        clear BK382
                        clear BK383
                        clear BK392
                        clear BK434
                        clear HB
                        have HO_9 := n0_
                        have BK382 := n1_
                        have BK383 := n2_
                        have BK392 := n3_
                        have BK434 := n4_
                        have HB := n5_
                        clear n0_ n1_ n2_ n3_ n4_ n5_
                        (try clear hb)
                        (try clear hb2)
                        (try clear hk)
                        (try clear hi)
                        refine hK.out _ _ ⟨bc BK434 0, bc BK434 1, bc BK434 2, bc BK434 3, bc BK434 4, bc BK434 5, bc BK434 6⟩ (fun hHeld => ?_)
                        clear hK K
                        refine norm_ (a' := ?_) ?_ ?_
                        rotate_left
                        · show Act.put _ (some 60) _ = _
                          simp only [Act.put, List.setIfInBounds_toArray, List.set_cons_zero, List.set_cons_succ, i64_w, i32_w]
                          rfl
                        refine pure_ (i := 4) (N := some 61) (v := ?_) (a' := ?_) #[true, true, true, true, true, false, false, false, false, false, false, false, false, false, false, false, false, false, false, false, false, false, false, false, false, false, false, false, false, false, false, false, false, false, false, false, false, false, false, false, false, false, false] rfl rfl (any_of HT_.out (by kernel_rfl)) (fun _ _ _ h => h) (Or.inl ⟨by rfl, ?_⟩) ?_ ?_
                        rotate_left
                        · intro w'
                          go_simp
                          with_reducible rfl
                        rotate_left
                        · simp only [Act.put, List.setIfInBounds_toArray, List.set_cons_zero, List.set_cons_succ, i64_w, i32_w]
                          rfl
                        refine pure_ (i := 5) (N := some 62) (v := ?_) (a' := ?_) #[true, true, true, true, true, true, false, false, false, false, false, false, false, false, false, false, false, false, false, false, false, false, false, false, false, false, false, false, false, false, false, false, false, false, false, false, false, false, false, false, false, false, false] rfl rfl (any_of HT_.out (by kernel_rfl)) (fun _ _ _ h => h) (Or.inl ⟨by rfl, ?_⟩) ?_ ?_
                        rotate_left
                        · intro w'
                          go_simp
                          with_reducible rfl
                        rotate_left
                        · simp only [Act.put, List.setIfInBounds_toArray, List.set_cons_zero, List.set_cons_succ, i64_w, i32_w]
                          rfl
                        refine pure_ (i := 7) (N := some 64) (v := ?_) (a' := ?_) #[true, true, true, true, true, true, false, true, false, false, false, false, false, false, false, false, false, false, false, false, false, false, false, false, false, false, false, false, false, false, false, false, false, false, false, false, false, false, false, false, false, false, false] rfl rfl (any_of HT_.out (by kernel_rfl)) (fun _ _ _ h => h) (Or.inl ⟨by rfl, ?_⟩) ?_ ?_
                        rotate_left
                        · intro w'
                          go_simp
                          with_reducible rfl
                        rotate_left
                        · simp only [Act.put, List.setIfInBounds_toArray, List.set_cons_zero, List.set_cons_succ, i64_w, i32_w]
                          rfl
                        refine pure_ (i := 10) (N := some 67) (v := ?_) (a' := ?_) #[true, true, true, true, true, true, false, true, false, false, true, false, false, false, false, false, false, false, false, false, false, false, false, false, false, false, false, false, false, false, false, false, false, false, false, false, false, false, false, false, false, false, false] rfl rfl (any_of HT_.out (by kernel_rfl)) (fun _ _ _ h => h) (Or.inl ⟨by rfl, ?_⟩) ?_ ?_
                        rotate_left
                        · intro w'
                          go_simp
                          with_reducible rfl
                        rotate_left
                        · simp only [Act.put, List.setIfInBounds_toArray, List.set_cons_zero, List.set_cons_succ, i64_w, i32_w]
                          rfl
                        refine take_ (i := 6) (N := some 63) (v := ?_) (a' := ?_) #[true, true, true, true, true, true, true, true, false, false, true, false, false, false, false, false, false, false, false, false, false, false, false, false, false, false, false, false, false, false, false, false, false, false, false, false, false, false, false, false, false, false, false] rfl rfl (take_ofW HT_.out HW_.out (by kernel_rfl)) (fun _ _ _ h => h) (Or.inl ⟨by rfl, ?_⟩) hHeld ?_ ?_
                        rotate_left
                        · rintro w' ⟨s0, s1, s2, s3, s4, s5, s6⟩
                          go_simp
                          with_reducible rfl
                        rotate_left
                        · simp only [Act.put, List.setIfInBounds_toArray, List.set_cons_zero, List.set_cons_succ, i64_w, i32_w]
                          rfl
                        refine take_ (i := 9) (N := some 66) (v := ?_) (a' := ?_) #[true, true, true, true, true, true, true, true, false, true, true, false, false, false, false, false, false, false, false, false, false, false, false, false, false, false, false, false, false, false, false, false, false, false, false, false, false, false, false, false, false, false, false] rfl rfl (take_ofW HT_.out HW_.out (by kernel_rfl)) (fun _ _ _ h => h) (Or.inl ⟨by rfl, ?_⟩) hHeld ?_ ?_
                        rotate_left
                        · rintro w' ⟨s0, s1, s2, s3, s4, s5, s6⟩
                          go_simp
                          with_reducible rfl
                        rotate_left
                        · simp only [Act.put, List.setIfInBounds_toArray, List.set_cons_zero, List.set_cons_succ, i64_w, i32_w]
                          rfl
                        refine one_ (i := 8) (N := some 65) #[true, true, true, true, true, true, true, true, true, true, true, false, false, false, false, false, false, false, false, false, false, false, false, false, false, false, false, false, false, false, false, false, false, false, false, false, false, false, false, false, false, false, false] rfl rfl (one_of HT_.out (by kernel_rfl)) (by decide) (fun K hK => ?_)
                        refine goes_ Try.func19 (by kernel_rfl) rfl #[.agg #[.int .i64 ((rd_T28 x9_45 x10_3).f0), .int .i64 ((rd_T28 x9_45 x10_3).f1), .int .i64 ((rd_T28 x9_45 x10_3).f2), .int .i64 ((rd_T28 x9_45 x10_3).f3), .int .i64 ((rd_T28 x9_45 x10_3).f4), .int .i64 ((rd_T28 x9_45 x10_3).f5), .bool ((rd_T28 x9_45 x10_3).f6)], .int .i64 a2] (by rfl) rfl rfl (by (try simp only [List.map_toArray, List.map_cons, List.map_nil]); first | done | rfl | (simp only [List.length_drop, List.length_take]; rfl)) ?_
                        with_reducible refine (monitor_Agrees.calls ((rd_T28 x9_45 x10_3).f0) ((rd_T28 x9_45 x10_3).f1) ((rd_T28 x9_45 x10_3).f2) ((rd_T28 x9_45 x10_3).f3) ((rd_T28 x9_45 x10_3).f4) ((rd_T28 x9_45 x10_3).f5) ((rd_T28 x9_45 x10_3).f6) a2 t439 _ A67.out).mono ?_
                        rintro e w92 ⟨rfl, hb⟩
                        refine ⟨_, rfl, ?_⟩
                        have n0_ := Aside0.mk (Kd.R_below (by (with_reducible repeat (first | apply Kd.R_alloc | apply Kd.R_drewN | apply Kd.R_drew)); exact HO_9.out) hb)
                        have n1_ := bxb BK382 hb
                        have n2_ := bxb BK383 hb
                        have n3_ := bxb BK392 hb
                        have n4_ := bxb BK434 hb
                        have n5_ := Aside0.mk (below_step (bwt HB) hb)
                        clear HO_9
                        clear BK382
                        clear BK383
                        clear BK392
                        clear BK434
                        clear HB
                        have HO_9 := n0_
                        have BK382 := n1_
                        have BK383 := n2_
                        have BK392 := n3_
                        have BK434 := n4_
                        have HB := n5_
                        clear n0_ n1_ n2_ n3_ n4_ n5_
                        (try clear hb)
                        (try clear hb2)
                        (try clear hk)
                        (try clear hi)
                        refine hK.out _ _ ⟨bc BK434 0, bc BK434 1, bc BK434 2, bc BK434 3, bc BK434 4, bc BK434 5, bc BK434 6⟩ (fun hHeld => ?_)
                        clear hK K
                        refine norm_ (a' := ?_) ?_ ?_
                        rotate_left
                        · show Act.put _ (some 65) _ = _
                          simp only [Act.put, List.setIfInBounds_toArray, List.set_cons_zero, List.set_cons_succ, i64_w, i32_w]
                          rfl
                        refine one_ (i := 11) (N := some 68) #[true, true, true, true, true, true, true, true, true, true, true, true, false, false, false, false, false, false, false, false, false, false, false, false, false, false, false, false, false, false, false, false, false, false, false, false, false, false, false, false, false, false, false] rfl rfl (one_of HT_.out (by kernel_rfl)) (by decide) (fun K hK => ?_)
                        refine goes_ Try.func20 (by kernel_rfl) rfl #[.agg #[.int .i64 ((rd_T28 x9_45 x10_3).f0), .int .i64 ((rd_T28 x9_45 x10_3).f1), .int .i64 ((rd_T28 x9_45 x10_3).f2), .int .i64 ((rd_T28 x9_45 x10_3).f3), .int .i64 ((rd_T28 x9_45 x10_3).f4), .int .i64 ((rd_T28 x9_45 x10_3).f5), .bool ((rd_T28 x9_45 x10_3).f6)], .int .i64 a2] (by rfl) rfl rfl (by (try simp only [List.map_toArray, List.map_cons, List.map_nil]); first | done | rfl | (simp only [List.length_drop, List.length_take]; rfl)) ?_
                        with_reducible refine (wireloomref45_Agrees.calls ((rd_T28 x9_45 x10_3).f0) ((rd_T28 x9_45 x10_3).f1) ((rd_T28 x9_45 x10_3).f2) ((rd_T28 x9_45 x10_3).f3) ((rd_T28 x9_45 x10_3).f4) ((rd_T28 x9_45 x10_3).f5) ((rd_T28 x9_45 x10_3).f6) a2 t440 _ A68.out).mono ?_
                        rintro e w93 ⟨rfl, hb⟩
                        refine ⟨_, rfl, ?_⟩
                        have n0_ := Aside0.mk (Kd.R_below (by (with_reducible repeat (first | apply Kd.R_alloc | apply Kd.R_drewN | apply Kd.R_drew)); exact HO_9.out) hb)
                        have n1_ := bxb BK382 hb
                        have n2_ := bxb BK383 hb
                        have n3_ := bxb BK392 hb
                        have n4_ := bxb BK434 hb
                        have n5_ := Aside0.mk (below_step (bwt HB) hb)
                        clear HO_9
                        clear BK382
                        clear BK383
                        clear BK392
                        clear BK434
                        clear HB
                        have HO_9 := n0_
                        have BK382 := n1_
                        have BK383 := n2_
                        have BK392 := n3_
                        have BK434 := n4_
                        have HB := n5_
                        clear n0_ n1_ n2_ n3_ n4_ n5_
                        (try clear hb)
                        (try clear hb2)
                        (try clear hk)
                        (try clear hi)
                        refine hK.out _ _ ⟨bc BK434 0, bc BK434 1, bc BK434 2, bc BK434 3, bc BK434 4, bc BK434 5, bc BK434 6⟩ (fun hHeld => ?_)
                        clear hK K
                        refine norm_ (a' := ?_) ?_ ?_
                        rotate_left
                        · show Act.put _ (some 68) _ = _
                          simp only [Act.put, List.setIfInBounds_toArray, List.set_cons_zero, List.set_cons_succ, i64_w, i32_w]
                          rfl
                        refine pure_ (i := 12) (N := some 69) (v := ?_) (a' := ?_) #[true, true, true, true, true, true, true, true, true, true, true, true, true, false, false, false, false, false, false, false, false, false, false, false, false, false, false, false, false, false, false, false, false, false, false, false, false, false, false, false, false, false, false] rfl rfl (any_of HT_.out (by kernel_rfl)) (fun _ _ _ h => h) (Or.inl ⟨by rfl, ?_⟩) ?_ ?_
                        rotate_left
                        · intro w'
                          go_simp
                          with_reducible rfl
                        rotate_left
                        · simp only [Act.put, List.setIfInBounds_toArray, List.set_cons_zero, List.set_cons_succ, i64_w, i32_w]
                          rfl
                        refine pure_ (i := 13) (N := some 70) (v := ?_) (a' := ?_) #[true, true, true, true, true, true, true, true, true, true, true, true, true, true, false, false, false, false, false, false, false, false, false, false, false, false, false, false, false, false, false, false, false, false, false, false, false, false, false, false, false, false, false] rfl rfl (any_of HT_.out (by kernel_rfl)) (fun _ _ _ h => h) (Or.inl ⟨by rfl, ?_⟩) ?_ ?_
                        rotate_left
                        · intro w'
                          go_simp
                          with_reducible rfl
                        rotate_left
                        · simp only [Act.put, List.setIfInBounds_toArray, List.set_cons_zero, List.set_cons_succ, i64_w, i32_w]
                          rfl
                        refine pure_ (i := 14) (N := some 71) (v := ?_) (a' := ?_) #[true, true, true, true, true, true, true, true, true, true, true, true, true, true, true, false, false, false, false, false, false, false, false, false, false, false, false, false, false, false, false, false, false, false, false, false, false, false, false, false, false, false, false] rfl rfl (any_of HT_.out (by kernel_rfl)) (fun _ _ _ h => h) (Or.inl ⟨by rfl, ?_⟩) ?_ ?_
                        rotate_left
                        · intro w'
                          go_simp
                          with_reducible rfl
                        rotate_left
                        · simp only [Act.put, List.setIfInBounds_toArray, List.set_cons_zero, List.set_cons_succ, i64_w, i32_w]
                          rfl
                        refine pure_ (i := 16) (N := some 73) (v := ?_) (a' := ?_) #[true, true, true, true, true, true, true, true, true, true, true, true, true, true, true, false, true, false, false, false, false, false, false, false, false, false, false, false, false, false, false, false, false, false, false, false, false, false, false, false, false, false, false] rfl rfl (any_of HT_.out (by kernel_rfl)) (fun _ _ _ h => h) (Or.inl ⟨by rfl, ?_⟩) ?_ ?_
                        rotate_left
                        · intro w'
                          go_simp
                          with_reducible rfl
                        rotate_left
                        · simp only [Act.put, List.setIfInBounds_toArray, List.set_cons_zero, List.set_cons_succ, i64_w, i32_w]
                          rfl
                        refine pure_ (i := 19) (N := some 76) (v := ?_) (a' := ?_) #[true, true, true, true, true, true, true, true, true, true, true, true, true, true, true, false, true, false, false, true, false, false, false, false, false, false, false, false, false, false, false, false, false, false, false, false, false, false, false, false, false, false, false] rfl rfl (any_of HT_.out (by kernel_rfl)) (fun _ _ _ h => h) (Or.inl ⟨by rfl, ?_⟩) ?_ ?_
                        rotate_left
                        · intro w'
                          go_simp
                          with_reducible rfl
                        rotate_left
                        · simp only [Act.put, List.setIfInBounds_toArray, List.set_cons_zero, List.set_cons_succ, i64_w, i32_w]
                          rfl
                        refine take_ (i := 15) (N := some 72) (v := ?_) (a' := ?_) #[true, true, true, true, true, true, true, true, true, true, true, true, true, true, true, true, true, false, false, true, false, false, false, false, false, false, false, false, false, false, false, false, false, false, false, false, false, false, false, false, false, false, false] rfl rfl (take_ofW HT_.out HW_.out (by kernel_rfl)) (fun _ _ _ h => h) (Or.inl ⟨by rfl, ?_⟩) hHeld ?_ ?_
                        rotate_left
                        · rintro w' ⟨s0, s1, s2, s3, s4, s5, s6⟩
                          go_simp
                          with_reducible rfl
                        rotate_left
                        · simp only [Act.put, List.setIfInBounds_toArray, List.set_cons_zero, List.set_cons_succ, i64_w, i32_w]
                          rfl
                        refine take_ (i := 18) (N := some 75) (v := ?_) (a' := ?_) #[true, true, true, true, true, true, true, true, true, true, true, true, true, true, true, true, true, false, true, true, false, false, false, false, false, false, false, false, false, false, false, false, false, false, false, false, false, false, false, false, false, false, false] rfl rfl (take_ofW HT_.out HW_.out (by kernel_rfl)) (fun _ _ _ h => h) (Or.inl ⟨by rfl, ?_⟩) hHeld ?_ ?_
                        rotate_left
                        · rintro w' ⟨s0, s1, s2, s3, s4, s5, s6⟩
                          go_simp
                          with_reducible rfl
                        rotate_left
                        · simp only [Act.put, List.setIfInBounds_toArray, List.set_cons_zero, List.set_cons_succ, i64_w, i32_w]
                          rfl
                        refine one_ (i := 17) (N := some 74) #[true, true, true, true, true, true, true, true, true, true, true, true, true, true, true, true, true, true, true, true, false, false, false, false, false, false, false, false, false, false, false, false, false, false, false, false, false, false, false, false, false, false, false] rfl rfl (one_of HT_.out (by kernel_rfl)) (by decide) (fun K hK => ?_)
                        refine goes_ Try.func21 (by kernel_rfl) rfl #[.agg #[.int .i64 ((rd_T28 x9_45 x10_3).f0), .int .i64 ((rd_T28 x9_45 x10_3).f1), .int .i64 ((rd_T28 x9_45 x10_3).f2), .int .i64 ((rd_T28 x9_45 x10_3).f3), .int .i64 ((rd_T28 x9_45 x10_3).f4), .int .i64 ((rd_T28 x9_45 x10_3).f5), .bool ((rd_T28 x9_45 x10_3).f6)], .int .i64 a2] (by rfl) rfl rfl (by (try simp only [List.map_toArray, List.map_cons, List.map_nil]); first | done | rfl | (simp only [List.length_drop, List.length_take]; rfl)) ?_
                        with_reducible refine (monitor_See.calls ((rd_T28 x9_45 x10_3).f0) ((rd_T28 x9_45 x10_3).f1) ((rd_T28 x9_45 x10_3).f2) ((rd_T28 x9_45 x10_3).f3) ((rd_T28 x9_45 x10_3).f4) ((rd_T28 x9_45 x10_3).f5) ((rd_T28 x9_45 x10_3).f6) a2 t441 t442 t443 t444 t445 t446 t447 _ A70.out).mono ?_
                        rintro e w94 ⟨rfl, hb⟩
                        refine ⟨_, rfl, ?_⟩
                        have n0_ := Aside0.mk (Kd.R_below (by (with_reducible repeat (first | apply Kd.R_alloc | apply Kd.R_drewN | apply Kd.R_drew)); exact HO_9.out) hb)
                        have n1_ := bxb BK382 hb
                        have n2_ := bxb BK383 hb
                        have n3_ := bxb BK392 hb
                        have n4_ := bxb BK434 hb
                        have n5_ := Aside0.mk (below_step (bwt HB) hb)
                        clear HO_9
                        clear BK382
                        clear BK383
                        clear BK392
                        clear BK434
                        clear HB
                        have HO_9 := n0_
                        have BK382 := n1_
                        have BK383 := n2_
                        have BK392 := n3_
                        have BK434 := n4_
                        have HB := n5_
                        clear n0_ n1_ n2_ n3_ n4_ n5_
                        (try clear hb)
                        (try clear hb2)
                        (try clear hk)
                        (try clear hi)
                        refine hK.out _ _ ⟨bc BK434 0, bc BK434 1, bc BK434 2, bc BK434 3, bc BK434 4, bc BK434 5, bc BK434 6⟩ (fun hHeld => ?_)
                        clear hK K
                        refine norm_ (a' := ?_) ?_ ?_
                        rotate_left
                        · show Act.put _ (some 74) _ = _
                          simp only [Act.put, List.setIfInBounds_toArray, List.set_cons_zero, List.set_cons_succ, i64_w, i32_w]
                          rfl
                        refine one_ (i := 20) (N := some 77) #[true, true, true, true, true, true, true, true, true, true, true, true, true, true, true, true, true, true, true, true, true, false, false, false, false, false, false, false, false, false, false, false, false, false, false, false, false, false, false, false, false, false, false] rfl rfl (one_of HT_.out (by kernel_rfl)) (by decide) (fun K hK => ?_)
                        refine goes_ Try.func15 (by kernel_rfl) rfl #[.agg #[.int .i64 ((rd_T28 x9_45 x10_3).f0), .int .i64 ((rd_T28 x9_45 x10_3).f1), .int .i64 ((rd_T28 x9_45 x10_3).f2), .int .i64 ((rd_T28 x9_45 x10_3).f3), .int .i64 ((rd_T28 x9_45 x10_3).f4), .int .i64 ((rd_T28 x9_45 x10_3).f5), .bool ((rd_T28 x9_45 x10_3).f6)], .int .i64 a2] (by rfl) rfl rfl (by (try simp only [List.map_toArray, List.map_cons, List.map_nil]); first | done | rfl | (simp only [List.length_drop, List.length_take]; rfl)) ?_
                        with_reducible refine (wireloomref45_See.calls ((rd_T28 x9_45 x10_3).f0) ((rd_T28 x9_45 x10_3).f1) ((rd_T28 x9_45 x10_3).f2) ((rd_T28 x9_45 x10_3).f3) ((rd_T28 x9_45 x10_3).f4) ((rd_T28 x9_45 x10_3).f5) ((rd_T28 x9_45 x10_3).f6) a2 t448 t449 t450 t451 t452 t453 t454 _ A71.out).mono ?_
                        rintro e w95 ⟨rfl, hb⟩
                        refine ⟨_, rfl, ?_⟩
                        have n0_ := Aside0.mk (Kd.R_below (by (with_reducible repeat (first | apply Kd.R_alloc | apply Kd.R_drewN | apply Kd.R_drew)); exact HO_9.out) hb)
                        have n1_ := bxb BK382 hb
                        have n2_ := bxb BK383 hb
                        have n3_ := bxb BK392 hb
                        have n4_ := bxb BK434 hb
                        have n5_ := Aside0.mk (below_step (bwt HB) hb)
                        clear HO_9
                        clear BK382
                        clear BK383
                        clear BK392
                        clear BK434
                        clear HB
                        have HO_9 := n0_
                        have BK382 := n1_
                        have BK383 := n2_
                        have BK392 := n3_
                        have BK434 := n4_
                        have HB := n5_
                        clear n0_ n1_ n2_ n3_ n4_ n5_
                        (try clear hb)
                        (try clear hb2)
                        (try clear hk)
                        (try clear hi)
                        refine hK.out _ _ ⟨bc BK434 0, bc BK434 1, bc BK434 2, bc BK434 3, bc BK434 4, bc BK434 5, bc BK434 6⟩ (fun hHeld => ?_)
                        clear hK K
                        refine norm_ (a' := ?_) ?_ ?_
                        rotate_left
                        · show Act.put _ (some 77) _ = _
                          simp only [Act.put, List.setIfInBounds_toArray, List.set_cons_zero, List.set_cons_succ, i64_w, i32_w]
                          rfl
                        refine pure_ (i := 21) (N := some 78) (v := ?_) (a' := ?_) #[true, true, true, true, true, true, true, true, true, true, true, true, true, true, true, true, true, true, true, true, true, true, false, false, false, false, false, false, false, false, false, false, false, false, false, false, false, false, false, false, false, false, false] rfl rfl (any_of HT_.out (by kernel_rfl)) (fun _ _ _ h => h) (Or.inl ⟨by rfl, ?_⟩) ?_ ?_
                        rotate_left
                        · intro w'
                          go_simp
                          with_reducible rfl
                        rotate_left
                        · simp only [Act.put, List.setIfInBounds_toArray, List.set_cons_zero, List.set_cons_succ, i64_w, i32_w]
                          rfl
                        refine pure_ (i := 22) (N := some 79) (v := ?_) (a' := ?_) #[true, true, true, true, true, true, true, true, true, true, true, true, true, true, true, true, true, true, true, true, true, true, true, false, false, false, false, false, false, false, false, false, false, false, false, false, false, false, false, false, false, false, false] rfl rfl (any_of HT_.out (by kernel_rfl)) (fun _ _ _ h => h) (Or.inl ⟨by rfl, ?_⟩) ?_ ?_
                        rotate_left
                        · intro w'
                          go_simp
                          with_reducible rfl
                        rotate_left
                        · simp only [Act.put, List.setIfInBounds_toArray, List.set_cons_zero, List.set_cons_succ, i64_w, i32_w]
                          rfl
                        refine pure_ (i := 23) (N := some 80) (v := ?_) (a' := ?_) #[true, true, true, true, true, true, true, true, true, true, true, true, true, true, true, true, true, true, true, true, true, true, true, true, false, false, false, false, false, false, false, false, false, false, false, false, false, false, false, false, false, false, false] rfl rfl (any_of HT_.out (by kernel_rfl)) (fun _ _ _ h => h) (Or.inl ⟨by rfl, ?_⟩) ?_ ?_
                        rotate_left
                        · intro w'
                          go_simp
                          with_reducible rfl
                        rotate_left
                        · simp only [Act.put, List.setIfInBounds_toArray, List.set_cons_zero, List.set_cons_succ, i64_w, i32_w]
                          rfl
                        refine take_ (i := 24) (N := some 81) (v := ?_) (a' := ?_) #[true, true, true, true, true, true, true, true, true, true, true, true, true, true, true, true, true, true, true, true, true, true, true, true, true, false, false, false, false, false, false, false, false, false, false, false, false, false, false, false, false, false, false] rfl rfl (take_ofW HT_.out HW_.out (by kernel_rfl)) (fun _ _ _ h => h) (Or.inl ⟨by rfl, ?_⟩) hHeld ?_ ?_
                        rotate_left
                        · rintro w' ⟨s0, s1, s2, s3, s4, s5, s6⟩
                          go_simp
                          with_reducible rfl
                        rotate_left
                        · simp only [Act.put, List.setIfInBounds_toArray, List.set_cons_zero, List.set_cons_succ, i64_w, i32_w]
                          rfl
                        refine take_ (i := 26) (N := some 83) (v := ?_) (a' := ?_) #[true, true, true, true, true, true, true, true, true, true, true, true, true, true, true, true, true, true, true, true, true, true, true, true, true, false, true, false, false, false, false, false, false, false, false, false, false, false, false, false, false, false, false] rfl rfl (take_ofW HT_.out HW_.out (by kernel_rfl)) (fun _ _ _ h => h) (Or.inl ⟨by rfl, ?_⟩) hHeld ?_ ?_
                        rotate_left
                        · rintro w' ⟨s0, s1, s2, s3, s4, s5, s6⟩
                          go_simp
                          with_reducible rfl
                        rotate_left
                        · simp only [Act.put, List.setIfInBounds_toArray, List.set_cons_zero, List.set_cons_succ, i64_w, i32_w]
                          rfl
                        refine one_ (i := 25) (N := some 82) #[true, true, true, true, true, true, true, true, true, true, true, true, true, true, true, true, true, true, true, true, true, true, true, true, true, true, true, false, false, false, false, false, false, false, false, false, false, false, false, false, false, false, false] rfl rfl (one_of HT_.out (by kernel_rfl)) (by decide) (fun K hK => ?_)
                        refine goes_ Try.func22 (by kernel_rfl) rfl #[.agg #[.int .i64 ((rd_T28 x9_45 x10_3).f0), .int .i64 ((rd_T28 x9_45 x10_3).f1), .int .i64 ((rd_T28 x9_45 x10_3).f2), .int .i64 ((rd_T28 x9_45 x10_3).f3), .int .i64 ((rd_T28 x9_45 x10_3).f4), .int .i64 ((rd_T28 x9_45 x10_3).f5), .bool ((rd_T28 x9_45 x10_3).f6)]] (by rfl) rfl rfl (by (try simp only [List.map_toArray, List.map_cons, List.map_nil]); first | done | rfl | (simp only [List.length_drop, List.length_take]; rfl)) ?_
                        with_reducible refine (monitor_Miss.calls ((rd_T28 x9_45 x10_3).f0) ((rd_T28 x9_45 x10_3).f1) ((rd_T28 x9_45 x10_3).f2) ((rd_T28 x9_45 x10_3).f3) ((rd_T28 x9_45 x10_3).f4) ((rd_T28 x9_45 x10_3).f5) ((rd_T28 x9_45 x10_3).f6) t455 t456 t457 t458 t459 t460 t461 _ A73.out).mono ?_
                        rintro e w96 ⟨rfl, hb⟩
                        refine ⟨_, rfl, ?_⟩
                        have n0_ := Aside0.mk (Kd.R_below (by (with_reducible repeat (first | apply Kd.R_alloc | apply Kd.R_drewN | apply Kd.R_drew)); exact HO_9.out) hb)
                        have n1_ := bxb BK382 hb
                        have n2_ := bxb BK383 hb
                        have n3_ := bxb BK392 hb
                        have n4_ := bxb BK434 hb
                        have n5_ := Aside0.mk (below_step (bwt HB) hb)
                        clear HO_9
                        clear BK382
                        clear BK383
                        clear BK392
                        clear BK434
                        clear HB
                        have HO_9 := n0_
                        have BK382 := n1_
                        have BK383 := n2_
                        have BK392 := n3_
                        have BK434 := n4_
                        have HB := n5_
                        clear n0_ n1_ n2_ n3_ n4_ n5_
                        (try clear hb)
                        (try clear hb2)
                        (try clear hk)
                        (try clear hi)
                        refine hK.out _ _ ⟨bc BK434 0, bc BK434 1, bc BK434 2, bc BK434 3, bc BK434 4, bc BK434 5, bc BK434 6⟩ (fun hHeld => ?_)
                        clear hK K
                        refine norm_ (a' := ?_) ?_ ?_
                        rotate_left
                        · show Act.put _ (some 82) _ = _
                          simp only [Act.put, List.setIfInBounds_toArray, List.set_cons_zero, List.set_cons_succ, i64_w, i32_w]
                          rfl
                        refine one_ (i := 27) (N := some 84) #[true, true, true, true, true, true, true, true, true, true, true, true, true, true, true, true, true, true, true, true, true, true, true, true, true, true, true, true, false, false, false, false, false, false, false, false, false, false, false, false, false, false, false] rfl rfl (one_of HT_.out (by kernel_rfl)) (by decide) (fun K hK => ?_)
                        refine goes_ Try.func16 (by kernel_rfl) rfl #[.agg #[.int .i64 ((rd_T28 x9_45 x10_3).f0), .int .i64 ((rd_T28 x9_45 x10_3).f1), .int .i64 ((rd_T28 x9_45 x10_3).f2), .int .i64 ((rd_T28 x9_45 x10_3).f3), .int .i64 ((rd_T28 x9_45 x10_3).f4), .int .i64 ((rd_T28 x9_45 x10_3).f5), .bool ((rd_T28 x9_45 x10_3).f6)]] (by rfl) rfl rfl (by (try simp only [List.map_toArray, List.map_cons, List.map_nil]); first | done | rfl | (simp only [List.length_drop, List.length_take]; rfl)) ?_
                        with_reducible refine (wireloomref45_Miss.calls ((rd_T28 x9_45 x10_3).f0) ((rd_T28 x9_45 x10_3).f1) ((rd_T28 x9_45 x10_3).f2) ((rd_T28 x9_45 x10_3).f3) ((rd_T28 x9_45 x10_3).f4) ((rd_T28 x9_45 x10_3).f5) ((rd_T28 x9_45 x10_3).f6) t462 t463 t464 t465 t466 t467 t468 _ A74.out).mono ?_
                        rintro e w97 ⟨rfl, hb⟩
                        refine ⟨_, rfl, ?_⟩
                        have n0_ := Aside0.mk (Kd.R_below (by (with_reducible repeat (first | apply Kd.R_alloc | apply Kd.R_drewN | apply Kd.R_drew)); exact HO_9.out) hb)
                        have n1_ := bxb BK382 hb
                        have n2_ := bxb BK383 hb
                        have n3_ := bxb BK392 hb
                        have n4_ := bxb BK434 hb
                        have n5_ := Aside0.mk (below_step (bwt HB) hb)
                        clear HO_9
                        clear BK382
                        clear BK383
                        clear BK392
                        clear BK434
                        clear HB
                        have HO_9 := n0_
                        have BK382 := n1_
                        have BK383 := n2_
                        have BK392 := n3_
                        have BK434 := n4_
                        have HB := n5_
                        clear n0_ n1_ n2_ n3_ n4_ n5_
                        (try clear hb)
                        (try clear hb2)
                        (try clear hk)
                        (try clear hi)
                        refine hK.out _ _ ⟨bc BK434 0, bc BK434 1, bc BK434 2, bc BK434 3, bc BK434 4, bc BK434 5, bc BK434 6⟩ (fun hHeld => ?_)
                        clear hK K
                        refine norm_ (a' := ?_) ?_ ?_
                        rotate_left
                        · show Act.put _ (some 84) _ = _
                          simp only [Act.put, List.setIfInBounds_toArray, List.set_cons_zero, List.set_cons_succ, i64_w, i32_w]
                          rfl
                        refine pure_ (i := 28) (N := some 85) (v := ?_) (a' := ?_) #[true, true, true, true, true, true, true, true, true, true, true, true, true, true, true, true, true, true, true, true, true, true, true, true, true, true, true, true, true, false, false, false, false, false, false, false, false, false, false, false, false, false, false] rfl rfl (any_of HT_.out (by kernel_rfl)) (fun _ _ _ h => h) (Or.inl ⟨by rfl, ?_⟩) ?_ ?_
                        rotate_left
                        · intro w'
                          go_simp
                          with_reducible rfl
                        rotate_left
                        · simp only [Act.put, List.setIfInBounds_toArray, List.set_cons_zero, List.set_cons_succ, i64_w, i32_w]
                          rfl
                        refine pure_ (i := 29) (N := some 86) (v := ?_) (a' := ?_) #[true, true, true, true, true, true, true, true, true, true, true, true, true, true, true, true, true, true, true, true, true, true, true, true, true, true, true, true, true, true, false, false, false, false, false, false, false, false, false, false, false, false, false] rfl rfl (any_of HT_.out (by kernel_rfl)) (fun _ _ _ h => h) (Or.inl ⟨by rfl, ?_⟩) ?_ ?_
                        rotate_left
                        · intro w'
                          go_simp
                          with_reducible rfl
                        rotate_left
                        · simp only [Act.put, List.setIfInBounds_toArray, List.set_cons_zero, List.set_cons_succ, i64_w, i32_w]
                          rfl
                        refine pure_ (i := 30) (N := some 87) (v := ?_) (a' := ?_) #[true, true, true, true, true, true, true, true, true, true, true, true, true, true, true, true, true, true, true, true, true, true, true, true, true, true, true, true, true, true, true, false, false, false, false, false, false, false, false, false, false, false, false] rfl rfl (any_of HT_.out (by kernel_rfl)) (fun _ _ _ h => h) (Or.inl ⟨by rfl, ?_⟩) ?_ ?_
                        rotate_left
                        · intro w'
                          go_simp
                          with_reducible rfl
                        rotate_left
                        · simp only [Act.put, List.setIfInBounds_toArray, List.set_cons_zero, List.set_cons_succ, i64_w, i32_w]
                          rfl
                        refine pure_ (i := 32) (N := some 89) (v := ?_) (a' := ?_) #[true, true, true, true, true, true, true, true, true, true, true, true, true, true, true, true, true, true, true, true, true, true, true, true, true, true, true, true, true, true, true, false, true, false, false, false, false, false, false, false, false, false, false] rfl rfl (any_of HT_.out (by kernel_rfl)) (fun _ _ _ h => h) (Or.inl ⟨by rfl, ?_⟩) ?_ ?_
                        rotate_left
                        · intro w'
                          go_simp
                          with_reducible rfl
                        rotate_left
                        · simp only [Act.put, List.setIfInBounds_toArray, List.set_cons_zero, List.set_cons_succ, i64_w, i32_w]
                          rfl
                        refine take_ (i := 31) (N := some 88) (v := ?_) (a' := ?_) #[true, true, true, true, true, true, true, true, true, true, true, true, true, true, true, true, true, true, true, true, true, true, true, true, true, true, true, true, true, true, true, true, true, false, false, false, false, false, false, false, false, false, false] rfl rfl (take_ofW HT_.out HW_.out (by kernel_rfl)) (fun _ _ _ h => h) (Or.inl ⟨by rfl, ?_⟩) hHeld ?_ ?_
                        rotate_left
                        · rintro w' ⟨s0, s1, s2, s3, s4, s5, s6⟩
                          go_simp
                          with_reducible rfl
                        rotate_left
                        · simp only [Act.put, List.setIfInBounds_toArray, List.set_cons_zero, List.set_cons_succ, i64_w, i32_w]
                          rfl
                        refine one_ (i := 33) (N := some 90) #[true, true, true, true, true, true, true, true, true, true, true, true, true, true, true, true, true, true, true, true, true, true, true, true, true, true, true, true, true, true, true, true, true, true, false, false, false, false, false, false, false, false, false] rfl rfl (one_of HT_.out (by kernel_rfl)) (by decide) (fun K hK => ?_)
                        refine goes_ Try.func21 (by kernel_rfl) rfl #[.agg #[.int .i64 ((rd_T28 x9_45 x10_3).f0), .int .i64 ((rd_T28 x9_45 x10_3).f1), .int .i64 ((rd_T28 x9_45 x10_3).f2), .int .i64 ((rd_T28 x9_45 x10_3).f3), .int .i64 ((rd_T28 x9_45 x10_3).f4), .int .i64 ((rd_T28 x9_45 x10_3).f5), .bool ((rd_T28 x9_45 x10_3).f6)], .int .i64 a2] (by rfl) rfl rfl (by (try simp only [List.map_toArray, List.map_cons, List.map_nil]); first | done | rfl | (simp only [List.length_drop, List.length_take]; rfl)) ?_
                        with_reducible refine (monitor_See.calls ((rd_T28 x9_45 x10_3).f0) ((rd_T28 x9_45 x10_3).f1) ((rd_T28 x9_45 x10_3).f2) ((rd_T28 x9_45 x10_3).f3) ((rd_T28 x9_45 x10_3).f4) ((rd_T28 x9_45 x10_3).f5) ((rd_T28 x9_45 x10_3).f6) a2 t469 t470 t471 t472 t473 t474 t475 _ A76.out).mono ?_
                        rintro e w98 ⟨rfl, hb⟩
                        refine ⟨_, rfl, ?_⟩
                        have n0_ := Aside0.mk (Kd.R_below (by (with_reducible repeat (first | apply Kd.R_alloc | apply Kd.R_drewN | apply Kd.R_drew)); exact HO_9.out) hb)
                        have n1_ := bxb BK382 hb
                        have n2_ := bxb BK383 hb
                        have n3_ := bxb BK392 hb
                        have n4_ := bxb BK434 hb
                        have n5_ := Aside0.mk (below_step (bwt HB) hb)
                        clear HO_9
                        clear BK382
                        clear BK383
                        clear BK392
                        clear BK434
                        clear HB
                        have HO_9 := n0_
                        have BK382 := n1_
                        have BK383 := n2_
                        have BK392 := n3_
                        have BK434 := n4_
                        have HB := n5_
                        clear n0_ n1_ n2_ n3_ n4_ n5_
                        (try clear hb)
                        (try clear hb2)
                        (try clear hk)
                        (try clear hi)
                        refine hK.out _ _ ⟨bc BK434 0, bc BK434 1, bc BK434 2, bc BK434 3, bc BK434 4, bc BK434 5, bc BK434 6⟩ (fun hHeld => ?_)
                        clear hK K
                        refine norm_ (a' := ?_) ?_ ?_
                        rotate_left
                        · show Act.put _ (some 90) _ = _
                          simp only [Act.put, List.setIfInBounds_toArray, List.set_cons_zero, List.set_cons_succ, i64_w, i32_w]
                          rfl
                        refine one_ (i := 34) (N := some 91) #[true, true, true, true, true, true, true, true, true, true, true, true, true, true, true, true, true, true, true, true, true, true, true, true, true, true, true, true, true, true, true, true, true, true, true, false, false, false, false, false, false, false, false] rfl rfl (one_of HT_.out (by kernel_rfl)) (by decide) (fun K hK => ?_)
                        refine goes_ Try.func11 (by kernel_rfl) rfl #[.agg #[.int .i64 t469, .int .i64 t470, .int .i64 t471, .int .i64 t472, .int .i64 t473, .int .i64 t474, .bool t475]] (by rfl) rfl rfl (by (try simp only [List.map_toArray, List.map_cons, List.map_nil]); first | done | rfl | (simp only [List.length_drop, List.length_take]; rfl)) ?_
                        with_reducible refine (monitor_Valid.calls t469 t470 t471 t472 t473 t474 t475 true _ A77.out).mono ?_
                        rintro e w99 ⟨rfl, hb⟩
                        refine ⟨_, rfl, ?_⟩
                        have n0_ := Aside0.mk (Kd.R_below (by (with_reducible repeat (first | apply Kd.R_alloc | apply Kd.R_drewN | apply Kd.R_drew)); exact HO_9.out) hb)
                        have n1_ := bxb BK382 hb
                        have n2_ := bxb BK383 hb
                        have n3_ := bxb BK392 hb
                        have n4_ := bxb BK434 hb
                        have n5_ := Aside0.mk (below_step (bwt HB) hb)
                        clear HO_9
                        clear BK382
                        clear BK383
                        clear BK392
                        clear BK434
                        clear HB
                        have HO_9 := n0_
                        have BK382 := n1_
                        have BK383 := n2_
                        have BK392 := n3_
                        have BK434 := n4_
                        have HB := n5_
                        clear n0_ n1_ n2_ n3_ n4_ n5_
                        (try clear hb)
                        (try clear hb2)
                        (try clear hk)
                        (try clear hi)
                        refine hK.out _ _ ⟨bc BK434 0, bc BK434 1, bc BK434 2, bc BK434 3, bc BK434 4, bc BK434 5, bc BK434 6⟩ (fun hHeld => ?_)
                        clear hK K
                        refine norm_ (a' := ?_) ?_ ?_
                        rotate_left
                        · show Act.put _ (some 91) _ = _
                          simp only [Act.put, List.setIfInBounds_toArray, List.set_cons_zero, List.set_cons_succ, i64_w, i32_w]
                          rfl
                        refine pure_ (i := 35) (N := some 92) (v := ?_) (a' := ?_) #[true, true, true, true, true, true, true, true, true, true, true, true, true, true, true, true, true, true, true, true, true, true, true, true, true, true, true, true, true, true, true, true, true, true, true, true, false, false, false, false, false, false, false] rfl rfl (any_of HT_.out (by kernel_rfl)) (fun _ _ _ h => h) (Or.inl ⟨by rfl, ?_⟩) ?_ ?_
                        rotate_left
                        · intro w'
                          go_simp
                          with_reducible rfl
                        rotate_left
                        · simp only [Act.put, List.setIfInBounds_toArray, List.set_cons_zero, List.set_cons_succ, i64_w, i32_w]
                          rfl
                        refine pure_ (i := 36) (N := some 93) (v := ?_) (a' := ?_) #[true, true, true, true, true, true, true, true, true, true, true, true, true, true, true, true, true, true, true, true, true, true, true, true, true, true, true, true, true, true, true, true, true, true, true, true, true, false, false, false, false, false, false] rfl rfl (any_of HT_.out (by kernel_rfl)) (fun _ _ _ h => h) (Or.inl ⟨by rfl, ?_⟩) ?_ ?_
                        rotate_left
                        · intro w'
                          go_simp
                          with_reducible rfl
                        rotate_left
                        · simp only [Act.put, List.setIfInBounds_toArray, List.set_cons_zero, List.set_cons_succ, i64_w, i32_w]
                          rfl
                        refine pure_ (i := 37) (N := some 94) (v := ?_) (a' := ?_) #[true, true, true, true, true, true, true, true, true, true, true, true, true, true, true, true, true, true, true, true, true, true, true, true, true, true, true, true, true, true, true, true, true, true, true, true, true, true, false, false, false, false, false] rfl rfl (any_of HT_.out (by kernel_rfl)) (fun _ _ _ h => h) (Or.inl ⟨by rfl, ?_⟩) ?_ ?_
                        rotate_left
                        · intro w'
                          go_simp
                          with_reducible rfl
                        rotate_left
                        · simp only [Act.put, List.setIfInBounds_toArray, List.set_cons_zero, List.set_cons_succ, i64_w, i32_w]
                          rfl
                        refine take_ (i := 38) (N := some 95) (v := ?_) (a' := ?_) #[true, true, true, true, true, true, true, true, true, true, true, true, true, true, true, true, true, true, true, true, true, true, true, true, true, true, true, true, true, true, true, true, true, true, true, true, true, true, true, false, false, false, false] rfl rfl (take_ofW HT_.out HW_.out (by kernel_rfl)) (fun _ _ _ h => h) (Or.inl ⟨by rfl, ?_⟩) hHeld ?_ ?_
                        rotate_left
                        · rintro w' ⟨s0, s1, s2, s3, s4, s5, s6⟩
                          go_simp
                          with_reducible rfl
                        rotate_left
                        · simp only [Act.put, List.setIfInBounds_toArray, List.set_cons_zero, List.set_cons_succ, i64_w, i32_w]
                          rfl
                        refine one_ (i := 39) (N := some 96) #[true, true, true, true, true, true, true, true, true, true, true, true, true, true, true, true, true, true, true, true, true, true, true, true, true, true, true, true, true, true, true, true, true, true, true, true, true, true, true, true, false, false, false] rfl rfl (one_of HT_.out (by kernel_rfl)) (by decide) (fun K hK => ?_)
                        refine goes_ Try.func22 (by kernel_rfl) rfl #[.agg #[.int .i64 ((rd_T28 x9_45 x10_3).f0), .int .i64 ((rd_T28 x9_45 x10_3).f1), .int .i64 ((rd_T28 x9_45 x10_3).f2), .int .i64 ((rd_T28 x9_45 x10_3).f3), .int .i64 ((rd_T28 x9_45 x10_3).f4), .int .i64 ((rd_T28 x9_45 x10_3).f5), .bool ((rd_T28 x9_45 x10_3).f6)]] (by rfl) rfl rfl (by (try simp only [List.map_toArray, List.map_cons, List.map_nil]); first | done | rfl | (simp only [List.length_drop, List.length_take]; rfl)) ?_
                        with_reducible refine (monitor_Miss.calls ((rd_T28 x9_45 x10_3).f0) ((rd_T28 x9_45 x10_3).f1) ((rd_T28 x9_45 x10_3).f2) ((rd_T28 x9_45 x10_3).f3) ((rd_T28 x9_45 x10_3).f4) ((rd_T28 x9_45 x10_3).f5) ((rd_T28 x9_45 x10_3).f6) t477 t478 t479 t480 t481 t482 t483 _ A79.out).mono ?_
                        rintro e w100 ⟨rfl, hb⟩
                        refine ⟨_, rfl, ?_⟩
                        have n0_ := Aside0.mk (Kd.R_below (by (with_reducible repeat (first | apply Kd.R_alloc | apply Kd.R_drewN | apply Kd.R_drew)); exact HO_9.out) hb)
                        have n1_ := bxb BK382 hb
                        have n2_ := bxb BK383 hb
                        have n3_ := bxb BK392 hb
                        have n4_ := bxb BK434 hb
                        have n5_ := Aside0.mk (below_step (bwt HB) hb)
                        clear HO_9
                        clear BK382
                        clear BK383
                        clear BK392
                        clear BK434
                        clear HB
                        have HO_9 := n0_
                        have BK382 := n1_
                        have BK383 := n2_
                        have BK392 := n3_
                        have BK434 := n4_
                        have HB := n5_
                        clear n0_ n1_ n2_ n3_ n4_ n5_
                        (try clear hb)
                        (try clear hb2)
                        (try clear hk)
                        (try clear hi)
                        refine hK.out _ _ ⟨bc BK434 0, bc BK434 1, bc BK434 2, bc BK434 3, bc BK434 4, bc BK434 5, bc BK434 6⟩ (fun hHeld => ?_)
                        clear hK K
                        refine norm_ (a' := ?_) ?_ ?_
                        rotate_left
                        · show Act.put _ (some 96) _ = _
                          simp only [Act.put, List.setIfInBounds_toArray, List.set_cons_zero, List.set_cons_succ, i64_w, i32_w]
                          rfl
                        refine one_ (i := 40) (N := some 97) #[true, true, true, true, true, true, true, true, true, true, true, true, true, true, true, true, true, true, true, true, true, true, true, true, true, true, true, true, true, true, true, true, true, true, true, true, true, true, true, true, true, false, false] rfl rfl (one_of HT_.out (by kernel_rfl)) (by decide) (fun K hK => ?_)
                        refine goes_ Try.func11 (by kernel_rfl) rfl #[.agg #[.int .i64 t477, .int .i64 t478, .int .i64 t479, .int .i64 t480, .int .i64 t481, .int .i64 t482, .bool t483]] (by rfl) rfl rfl (by (try simp only [List.map_toArray, List.map_cons, List.map_nil]); first | done | rfl | (simp only [List.length_drop, List.length_take]; rfl)) ?_
                        with_reducible refine (monitor_Valid.calls t477 t478 t479 t480 t481 t482 t483 true _ A80.out).mono ?_
                        rintro e w101 ⟨rfl, hb⟩
                        refine ⟨_, rfl, ?_⟩
                        have n0_ := Aside0.mk (Kd.R_below (by (with_reducible repeat (first | apply Kd.R_alloc | apply Kd.R_drewN | apply Kd.R_drew)); exact HO_9.out) hb)
                        have n1_ := bxb BK382 hb
                        have n2_ := bxb BK383 hb
                        have n3_ := bxb BK392 hb
                        have n4_ := bxb BK434 hb
                        have n5_ := Aside0.mk (below_step (bwt HB) hb)
                        clear HO_9
                        clear BK382
                        clear BK383
                        clear BK392
                        clear BK434
                        clear HB
                        have HO_9 := n0_
                        have BK382 := n1_
                        have BK383 := n2_
                        have BK392 := n3_
                        have BK434 := n4_
                        have HB := n5_
                        clear n0_ n1_ n2_ n3_ n4_ n5_
                        (try clear hb)
                        (try clear hb2)
                        (try clear hk)
                        (try clear hi)
                        refine hK.out _ _ ⟨bc BK434 0, bc BK434 1, bc BK434 2, bc BK434 3, bc BK434 4, bc BK434 5, bc BK434 6⟩ (fun hHeld => ?_)
                        clear hK K
                        refine norm_ (a' := ?_) ?_ ?_
                        rotate_left
                        · show Act.put _ (some 97) _ = _
                          simp only [Act.put, List.setIfInBounds_toArray, List.set_cons_zero, List.set_cons_succ, i64_w, i32_w]
                          rfl
                        refine pure_ (i := 41) (N := some 98) (v := ?_) (a' := ?_) #[true, true, true, true, true, true, true, true, true, true, true, true, true, true, true, true, true, true, true, true, true, true, true, true, true, true, true, true, true, true, true, true, true, true, true, true, true, true, true, true, true, true, false] rfl rfl (any_of HT_.out (by kernel_rfl)) (fun _ _ _ h => h) (Or.inl ⟨by rfl, ?_⟩) ?_ ?_
                        rotate_left
                        · intro w'
                          go_simp
                          with_reducible rfl
                        rotate_left
                        · simp only [Act.put, List.setIfInBounds_toArray, List.set_cons_zero, List.set_cons_succ, i64_w, i32_w]
                          rfl
                        refine pure_ (i := 42) (N := some 99) (v := ?_) (a' := ?_) #[true, true, true, true, true, true, true, true, true, true, true, true, true, true, true, true, true, true, true, true, true, true, true, true, true, true, true, true, true, true, true, true, true, true, true, true, true, true, true, true, true, true, true] rfl rfl (any_of HT_.out (by kernel_rfl)) (fun _ _ _ h => h) (Or.inl ⟨by rfl, ?_⟩) ?_ ?_
                        rotate_left
                        · intro w'
                          go_simp
                          with_reducible rfl
                        rotate_left
                        · simp only [Act.put, List.setIfInBounds_toArray, List.set_cons_zero, List.set_cons_succ, i64_w, i32_w]
                          rfl
                        refine done_ (done_of HT_.out (by kernel_rfl)) ?_
                        try go_wp2
                        go_roundg k3
                        case measure => have := HJ6.out; have := HJ45.out; have := HK3.out; omega
                        case rel => exact ⟨(wrap64 (x10_3 + 1)), (by first | rfl | (simp; done) | (simp [*]; done)), H', ⟨by have := HJ6.out; have := HJ45.out; have := HK3.out; omega⟩, ⟨by (with_reducible repeat (first | apply Kd.R_alloc | apply Kd.R_drewN | apply Kd.R_drew)); exact Kd.R_mono HO_9.out (fun _ hk => ⟨hk.1, hk.2.1⟩)⟩, ⟨by (with_reducible repeat refine bp_ ?_); exact BK382.out⟩, ⟨by (with_reducible repeat refine bp_ ?_); exact BK383.out⟩, ⟨by (with_reducible repeat refine bp_ ?_); exact BK392.out⟩, ⟨by repeat (first | (with_reducible first | exact HB.out | apply below_alloc | apply pw_below_drewN | apply below_drew1 | refine below_set ?_ GE382.out | refine below_set ?_ GE383.out | refine below_set ?_ GE392.out | refine below_set ?_ GE434.out) | exact HB.out)⟩⟩
                      · replace c81 := Bool.eq_false_iff.mpr c81
                        subst c81
                        have H1 : (some false) = some r := by rw [if_neg (show ¬ (false = true) by decide)] at H; exact H
                        clear H
                        have H := H1
                        clear H1
                        exact absurd ((Option.some.inj H).trans HRT.out) Bool.false_ne_true
                    · replace c78 := Bool.eq_false_iff.mpr c78
                      subst c78
                      have H1 : (some false) = some r := by rw [if_neg (show ¬ (false = true) by decide)] at H; exact H
                      clear H
                      have H := H1
                      clear H1
                      exact absurd ((Option.some.inj H).trans HRT.out) Bool.false_ne_true
                  · rw [if_neg c62] at H
                    have c62b0 : decide (x10_3 < (x9_45.length : Int)) = false := decide_eq_false c62
                    clear c62
                    obtain rfl := Option.some.inj H
                    obtain ⟨Ao102, co102, eo102⟩ := Kd.R_slice HO_9.out
                    subst eo102
                    go_wp2
                    go_ret
                    exact ⟨by first | rfl | (simp [errW_none, errW_some] <;> rfl) | (simp [*, errW_none, errW_some] <;> rfl), by repeat (first | (with_reducible first | exact HB.out | apply below_alloc | apply pw_below_drewN | apply below_drew1 | refine below_set ?_ GE382.out | refine below_set ?_ GE383.out | refine below_set ?_ GE392.out) | exact HB.out)⟩
  · replace c5 := Bool.eq_false_iff.mpr c5
    subst c5
    have H1 : (some false) = some r := by rw [if_neg (show ¬ (false = true) by decide)] at H; exact H
    clear H
    have H := H1
    clear H1
    exact absurd ((Option.some.inj H).trans HRT.out) Bool.false_ne_true

end Go.Proofs.Ytlofmgdjnaajjaa.Q

/- Own words: what came in as an argument, read by its type: a value of the print's kind, and what is known of it. -/
namespace Go.Proofs.Ytlofmgdjnaajjaa.Q
open Go.RowKit Go.Deep Go.WideShapes Go.ChangeShapes Go.Proofs.YtlofmgdjnaajjaaW.PrintWords Go.Proofs.YtlofmgdjnaajjaaW.PrintLast Go.Proofs.YtlofmgdjnaajjaaW.PrintMore
set_option linter.unusedVariables false
set_option linter.unusedSimpArgs false
/-- What reads as data of type t is a value of kind d, of which 'ok' holds. -/
def Rd (P : Program) (w : World) (t : TypeId) {α : Type} (d : Kd α) (ok : α → Prop) : Prop :=
  ∀ {H : Type} {enc : TypeId × Value → H} {base : Nat} {spare : Nat → Bool} {held : Bool} {fuel : Nat} {cs : List Value} {x : DataW H × List MemPlace},
    DataW.trod enc P w base spare held fuel t cs = some x → ∃ a, d.K w a cs ∧ ok a
theorem Rd.int {P : Program} {w : World} {t : TypeId} {k : IntKind} (ht : P.underlying t = some (.int k)) : Rd P w t (Kd.int k) (fun n => (Lit.int k n).wf = true) := by
  intro H enc base spare held fuel cs x h
  obtain ⟨n, e, _, hw⟩ := DataW.trod_int ht h
  exact ⟨n, e, hw⟩
theorem Rd.bool {P : Program} {w : World} {t : TypeId} (ht : P.underlying t = some .bool) : Rd P w t Kd.bool (fun _ => True) := by
  intro H enc base spare held fuel cs x h
  obtain ⟨n, e, _⟩ := DataW.trod_bool ht h
  exact ⟨n, e, trivial⟩
theorem Rd.string {P : Program} {w : World} {t : TypeId} (ht : P.underlying t = some .string) : Rd P w t Kd.string (fun s => s.size ≤ maxLen) := by
  intro H enc base spare held fuel cs x h
  obtain ⟨n, e, _, hs⟩ := DataW.trod_string ht h
  exact ⟨n, e, hs⟩
theorem Rd.slice {P : Program} {w : World} {t e : TypeId} {α : Type} {d : Kd α} {ok : α → Prop} (ht : P.underlying t = some (.slice e)) (hsz : P.cellsOf e = d.sz) (he : Rd P w e d ok) : Rd P w t (Kd.slice e d) (fun xs => xs.length ≤ maxLen ∧ ∀ x ∈ xs, ok x) := by
  intro H enc base spare held fuel cs x h
  rcases open_slice ht h with ⟨rfl, _⟩ | ⟨a, len, cap, m, n, D, Pl, rfl, hb, hl, hm, hmm, hx, hi⟩
  · exact ⟨[], ⟨none, 0, rfl, Nat.le_refl _, rfl, by simp, fun h => absurd h (by simp)⟩, by simp, fun x hx => by simp at hx⟩
  · have hlm : len ≤ m := by rw [hmm]; split <;> omega
    have hex : ∀ i : Nat, ∃ z : Option (α × List Value), i < len → ∃ a' c, z = some (a', c) ∧ w.cells? base (a.add (i * P.cellsOf e)) (P.cellsOf e) = some c ∧ d.K w a' c ∧ ok a' := by
      intro i
      by_cases hlt : i < len
      · obtain ⟨cs', hc, ht'⟩ := hi i (by omega)
        obtain ⟨a', hk, ho⟩ := he ht'
        exact ⟨some (a', cs'), fun _ => ⟨a', cs', rfl, hc, hk, ho⟩⟩
      · exact ⟨none, fun h => absurd h hlt⟩
    have hch := Classical.axiomOfChoice hex
    obtain ⟨f, hf⟩ := hch
    have hg : ∀ i, i < len → ∃ a', (f i).map (·.1) = some a' := by
      intro i hlt
      obtain ⟨a', c, e1, _⟩ := hf i hlt
      exact ⟨a', by rw [e1]; rfl⟩
    let xs : List α := (List.range len).filterMap (fun i => (f i).map (·.1))
    have key : ∀ k, k ≤ len → ((List.range k).filterMap (fun i => (f i).map (·.1))).length = k ∧ ∀ i, i < k → ((List.range k).filterMap (fun i => (f i).map (·.1)))[i]? = (f i).map (·.1) := by
      intro k
      induction k with
      | zero => intro _; exact ⟨rfl, fun i hi => absurd hi (by omega)⟩
      | succ k ih =>
        intro hk
        obtain ⟨h1, h2⟩ := ih (by omega)
        obtain ⟨a', ha⟩ := hg k (by omega)
        rw [List.range_succ, List.filterMap_append]
        have e1 : List.filterMap (fun i => (f i).map (·.1)) [k] = [a'] := by simp [ha]
        rw [e1]
        refine ⟨by rw [List.length_append, h1]; rfl, fun i hi => ?_⟩
        rcases Nat.lt_or_ge i k with hlt | hge
        · rw [List.getElem?_append_left (by omega)]; exact h2 i hlt
        · have : i = k := by omega
          subst this
          rw [List.getElem?_append_right (by omega), h1, Nat.sub_self, ha]; rfl
    obtain ⟨hlen, hget⟩ := key len (Nat.le_refl _)
    refine ⟨xs, ⟨some a, cap, by rw [show xs.length = len from hlen], by rw [show xs.length = len from hlen]; exact hl, rfl, ?_, fun _ => ⟨a, rfl, fun j p hj => ?_⟩⟩, ?_, fun x hx => ?_⟩
    · rw [show xs.length = len from hlen]; unfold maxLen at hm; omega
    · have hjl : j < len := by
        have := (List.getElem?_eq_some_iff.1 hj).1
        rw [show xs.length = len from hlen] at this; exact this
      obtain ⟨a', c, e1, hc, hk, _⟩ := hf j hjl
      have e2 : xs[j]? = some a' := by rw [show xs[j]? = _ from hget j hjl, e1]; rfl
      rw [e2] at hj
      injection hj with hj
      subst hj
      obtain ⟨_, hcl, hcell⟩ := World.cells?_some hc
      refine ⟨c, by rw [hcl, hsz], hk, fun i u hu => ?_⟩
      have hil : i < P.cellsOf e := by
        have := (List.getElem?_eq_some_iff.1 hu).1
        omega
      have := hcell i hil
      rw [hu, Go.Deep.add_add, hsz] at this
      exact this
    · rw [show xs.length = len from hlen]; omega
    · obtain ⟨i, hi1, hi2⟩ := List.mem_iff_getElem.1 hx
      have hil : i < len := by rw [show xs.length = len from hlen] at hi1; exact hi1
      obtain ⟨a', c, e1, _, _, ho⟩ := hf i hil
      have e2 : xs[i]? = some a' := by rw [show xs[i]? = _ from hget i hil, e1]; rfl
      rw [List.getElem?_eq_getElem hi1, hi2] at e2
      injection e2 with e2
      rw [e2]
      exact ho
theorem okWide_array {P : Program} {w : World} {r : Reach} {base : Nat} {t e : TypeId} {n : Nat} {v : Value} (ht : P.underlying t = some (.array n e)) (h : Value.okWide P w r base t v) : ∃ cs, v = .agg cs ∧ cs.size = P.cellsOf t := by
  simp only [Value.okWide, ht] at h
  obtain ⟨cs, h1, h2, _⟩ := h
  exact ⟨cs, h1, h2⟩
end Go.Proofs.Ytlofmgdjnaajjaa.Q

namespace Go.Proofs.Ytlofmgdjnaajjaa.Q
open Go.RowKit Go.Deep Go.WideShapes Go.ChangeShapes Go.Proofs.YtlofmgdjnaajjaaW.PrintWords
set_option linter.unusedVariables false
set_option linter.unusedSimpArgs false
def ok24 (x : S24) : Prop := (Lit.int .u8 x.f0).wf = true ∧ (Lit.int .u8 x.f1).wf = true ∧ (Lit.int .u8 x.f2).wf = true ∧ (Lit.int .u8 x.f3).wf = true ∧ (x.f4.length ≤ maxLen ∧ ∀ y_ ∈ x.f4, (Lit.int .u8 y_).wf = true)
theorem rdT24 (w : World) : Rd Try.prog w 24 k24 ok24 := by
  intro H enc base spare held fuel cs x h
  obtain ⟨ys, n, _, _, hlen, hyl, hf⟩ := DataW.trod_struct Try.underlying24 h
  have hC : Try.prog.cellsOf 24 = 5 := by kernel_rfl
  rw [hC] at hlen
  have hy : ys.length = 5 := hyl
  match cs, hlen with
  | [c0, c1, c2, c3, c4], _ =>
    have hc5 : Try.prog.cellsOf 5 = 1 := by kernel_rfl
    have hc22 : Try.prog.cellsOf 22 = 1 := by kernel_rfl
    have g0 : DataW.trod enc Try.prog w base spare held n 5 (([c0, c1, c2, c3, c4].drop 0).take (Try.prog.cellsOf 5)) = ys[0]? := hf 0 _ rfl
    rw [hc5, List.getElem?_eq_getElem (by omega)] at g0
    obtain ⟨a0, K0, o0⟩ := (Rd.int Try.underlying5) g0
    have g1 : DataW.trod enc Try.prog w base spare held n 5 (([c0, c1, c2, c3, c4].drop 1).take (Try.prog.cellsOf 5)) = ys[1]? := hf 1 _ rfl
    rw [hc5, List.getElem?_eq_getElem (by omega)] at g1
    obtain ⟨a1, K1, o1⟩ := (Rd.int Try.underlying5) g1
    have g2 : DataW.trod enc Try.prog w base spare held n 5 (([c0, c1, c2, c3, c4].drop 2).take (Try.prog.cellsOf 5)) = ys[2]? := hf 2 _ rfl
    rw [hc5, List.getElem?_eq_getElem (by omega)] at g2
    obtain ⟨a2, K2, o2⟩ := (Rd.int Try.underlying5) g2
    have g3 : DataW.trod enc Try.prog w base spare held n 5 (([c0, c1, c2, c3, c4].drop 3).take (Try.prog.cellsOf 5)) = ys[3]? := hf 3 _ rfl
    rw [hc5, List.getElem?_eq_getElem (by omega)] at g3
    obtain ⟨a3, K3, o3⟩ := (Rd.int Try.underlying5) g3
    have g4 : DataW.trod enc Try.prog w base spare held n 22 (([c0, c1, c2, c3, c4].drop 4).take (Try.prog.cellsOf 22)) = ys[4]? := hf 4 _ rfl
    rw [hc22, List.getElem?_eq_getElem (by omega)] at g4
    obtain ⟨a4, K4, o4⟩ := (Rd.slice Try.underlying22 (by kernel_rfl) (Rd.int Try.underlying5)) g4
    exact ⟨⟨a0, a1, a2, a3, a4⟩, ⟨[c0], [c1, c2, c3, c4], rfl, K0, ⟨[c1], [c2, c3, c4], rfl, K1, ⟨[c2], [c3, c4], rfl, K2, ⟨[c3], [c4], rfl, K3, K4⟩⟩⟩⟩, ⟨o0, o1, o2, o3, o4⟩⟩
def ok26 (x : S26) : Prop := ok24 x.f0 ∧ (Lit.int .u8 x.f1).wf = true ∧ (Lit.int .u8 x.f2).wf = true
theorem rdT26 (w : World) : Rd Try.prog w 26 k26 ok26 := by
  intro H enc base spare held fuel cs x h
  obtain ⟨ys, n, _, _, hlen, hyl, hf⟩ := DataW.trod_struct Try.underlying26 h
  have hC : Try.prog.cellsOf 26 = 7 := by kernel_rfl
  rw [hC] at hlen
  have hy : ys.length = 3 := hyl
  match cs, hlen with
  | [c0, c1, c2, c3, c4, c5, c6], _ =>
    have hc24 : Try.prog.cellsOf 24 = 5 := by kernel_rfl
    have hc5 : Try.prog.cellsOf 5 = 1 := by kernel_rfl
    have g0 : DataW.trod enc Try.prog w base spare held n 24 (([c0, c1, c2, c3, c4, c5, c6].drop 0).take (Try.prog.cellsOf 24)) = ys[0]? := hf 0 _ rfl
    rw [hc24, List.getElem?_eq_getElem (by omega)] at g0
    obtain ⟨a0, K0, o0⟩ := (rdT24 w) g0
    have g1 : DataW.trod enc Try.prog w base spare held n 5 (([c0, c1, c2, c3, c4, c5, c6].drop 5).take (Try.prog.cellsOf 5)) = ys[1]? := hf 1 _ rfl
    rw [hc5, List.getElem?_eq_getElem (by omega)] at g1
    obtain ⟨a1, K1, o1⟩ := (Rd.int Try.underlying5) g1
    have g2 : DataW.trod enc Try.prog w base spare held n 5 (([c0, c1, c2, c3, c4, c5, c6].drop 6).take (Try.prog.cellsOf 5)) = ys[2]? := hf 2 _ rfl
    rw [hc5, List.getElem?_eq_getElem (by omega)] at g2
    obtain ⟨a2, K2, o2⟩ := (Rd.int Try.underlying5) g2
    exact ⟨⟨a0, a1, a2⟩, ⟨[c0, c1, c2, c3, c4], [c5, c6], rfl, K0, ⟨[c5], [c6], rfl, K1, K2⟩⟩, ⟨o0, o1, o2⟩⟩
def ok28 (x : S28) : Prop := (Lit.int .i64 x.f0).wf = true ∧ (Lit.int .i64 x.f1).wf = true ∧ (Lit.int .i64 x.f2).wf = true ∧ (Lit.int .i64 x.f3).wf = true ∧ (Lit.int .i64 x.f4).wf = true ∧ (Lit.int .i64 x.f5).wf = true ∧ True
theorem rdT28 (w : World) : Rd Try.prog w 28 k28 ok28 := by
  intro H enc base spare held fuel cs x h
  obtain ⟨ys, n, _, _, hlen, hyl, hf⟩ := DataW.trod_struct Try.underlying28 h
  have hC : Try.prog.cellsOf 28 = 7 := by kernel_rfl
  rw [hC] at hlen
  have hy : ys.length = 7 := hyl
  match cs, hlen with
  | [c0, c1, c2, c3, c4, c5, c6], _ =>
    have hc3 : Try.prog.cellsOf 3 = 1 := by kernel_rfl
    have hc4 : Try.prog.cellsOf 4 = 1 := by kernel_rfl
    have g0 : DataW.trod enc Try.prog w base spare held n 3 (([c0, c1, c2, c3, c4, c5, c6].drop 0).take (Try.prog.cellsOf 3)) = ys[0]? := hf 0 _ rfl
    rw [hc3, List.getElem?_eq_getElem (by omega)] at g0
    obtain ⟨a0, K0, o0⟩ := (Rd.int Try.underlying3) g0
    have g1 : DataW.trod enc Try.prog w base spare held n 3 (([c0, c1, c2, c3, c4, c5, c6].drop 1).take (Try.prog.cellsOf 3)) = ys[1]? := hf 1 _ rfl
    rw [hc3, List.getElem?_eq_getElem (by omega)] at g1
    obtain ⟨a1, K1, o1⟩ := (Rd.int Try.underlying3) g1
    have g2 : DataW.trod enc Try.prog w base spare held n 3 (([c0, c1, c2, c3, c4, c5, c6].drop 2).take (Try.prog.cellsOf 3)) = ys[2]? := hf 2 _ rfl
    rw [hc3, List.getElem?_eq_getElem (by omega)] at g2
    obtain ⟨a2, K2, o2⟩ := (Rd.int Try.underlying3) g2
    have g3 : DataW.trod enc Try.prog w base spare held n 3 (([c0, c1, c2, c3, c4, c5, c6].drop 3).take (Try.prog.cellsOf 3)) = ys[3]? := hf 3 _ rfl
    rw [hc3, List.getElem?_eq_getElem (by omega)] at g3
    obtain ⟨a3, K3, o3⟩ := (Rd.int Try.underlying3) g3
    have g4 : DataW.trod enc Try.prog w base spare held n 3 (([c0, c1, c2, c3, c4, c5, c6].drop 4).take (Try.prog.cellsOf 3)) = ys[4]? := hf 4 _ rfl
    rw [hc3, List.getElem?_eq_getElem (by omega)] at g4
    obtain ⟨a4, K4, o4⟩ := (Rd.int Try.underlying3) g4
    have g5 : DataW.trod enc Try.prog w base spare held n 3 (([c0, c1, c2, c3, c4, c5, c6].drop 5).take (Try.prog.cellsOf 3)) = ys[5]? := hf 5 _ rfl
    rw [hc3, List.getElem?_eq_getElem (by omega)] at g5
    obtain ⟨a5, K5, o5⟩ := (Rd.int Try.underlying3) g5
    have g6 : DataW.trod enc Try.prog w base spare held n 4 (([c0, c1, c2, c3, c4, c5, c6].drop 6).take (Try.prog.cellsOf 4)) = ys[6]? := hf 6 _ rfl
    rw [hc4, List.getElem?_eq_getElem (by omega)] at g6
    obtain ⟨a6, K6, o6⟩ := (Rd.bool Try.underlying4) g6
    exact ⟨⟨a0, a1, a2, a3, a4, a5, a6⟩, ⟨[c0], [c1, c2, c3, c4, c5, c6], rfl, K0, ⟨[c1], [c2, c3, c4, c5, c6], rfl, K1, ⟨[c2], [c3, c4, c5, c6], rfl, K2, ⟨[c3], [c4, c5, c6], rfl, K3, ⟨[c4], [c5, c6], rfl, K4, ⟨[c5], [c6], rfl, K5, K6⟩⟩⟩⟩⟩⟩, ⟨o0, o1, o2, o3, o4, o5, o6⟩⟩
end Go.Proofs.Ytlofmgdjnaajjaa.Q

namespace Go.Proofs.Ytlofmgdjnaajjaa.Q
open Go.RowKit Go.Proofs.YtlofmgdjnaajjaaW.PrintWords
/-- THE PURE STATEMENT of wireloomlaw45_MonitorMatchesReference. -/
def wireloomlaw45_MonitorMatchesReference.Pure : Prop := ∀ (x0 : S26) (x1 : S28) (x2 : Int), ok26 x0 → ok28 x1 → (Lit.int .i64 x2).wf = true → ∃ k, wireloomlaw45_MonitorMatchesReference.f k x0.f0.f0 x0.f0.f1 x0.f0.f2 x0.f0.f3 x0.f0.f4 x0.f1 x0.f2 x1.f0 x1.f1 x1.f2 x1.f3 x1.f4 x1.f5 x1.f6 x2 = some true
end Go.Proofs.Ytlofmgdjnaajjaa.Q

/- The monitor's functions in plain Lean: what each printed function answers. -/
namespace Go.Proofs.Ytlofmgdjnaajjaa.Q
open Go.RowKit Go.Proofs.YtlofmgdjnaajjaaW.PrintWords Go.Proofs.YtlofmgdjnaajjaaW.PrintMore
set_option linter.unusedVariables false
set_option linter.unusedSimpArgs false
namespace Mon
def olo (lo st : Int) : Int := mx 1 (wrap64 (lo - st))
def ohi (hi st : Int) : Int := wrap64 (hi + st)
def inR (lo hi st le mo : Int) : Bool := decide (le ≤ olo lo st) && decide (ohi hi st ≤ mo)
def base (lo hi st er le mo : Int) : Prop := 1 ≤ le ∧ le ≤ mo ∧ mo ≤ 1000000 ∧ 1 ≤ lo ∧ lo ≤ hi ∧ hi ≤ 1000000 ∧ 0 ≤ st ∧ st ≤ 1000000 ∧ 0 ≤ er ∧ er ≤ 1000000
instance (lo hi st er le mo : Int) : Decidable (base lo hi st er le mo) := by unfold base; infer_instance
def vld (lo hi st er le mo : Int) (sp : Bool) : Bool := if base lo hi st er le mo then sp || inR lo hi st le mo else false
def slo (lo st er r : Int) : Int := mx (olo lo st) (wrap64 (r - er))
def shi (hi st er r : Int) : Int := mn (ohi hi st) (wrap64 (r + er))
def agr (lo hi st er r : Int) : Bool := decide (-4000000 ≤ r) && decide (r ≤ 4000000) && decide (slo lo st er r ≤ shi hi st er r)
abbrev M := Int × Int × Int × Int × Int × Int × Bool
def see (lo hi st er le mo : Int) (sp : Bool) (r : Int) : M :=
  if sp then (lo, hi, st, er, le, mo, sp) else if agr lo hi st er r then (slo lo st er r, shi hi st er r, st, er, le, mo, !inR (slo lo st er r) (shi hi st er r) st le mo) else (lo, hi, st, er, le, mo, true)
def miss (lo hi st er le mo : Int) (sp : Bool) : M :=
  if sp then (lo, hi, st, er, le, mo, sp) else (olo lo st, ohi hi st, st, er, le, mo, !inR (olo lo st) (ohi hi st) st le mo)
end Mon
open Mon
theorem inRange_ref (lo hi st er le mo : Int) (sp : Bool) : wireloomref45_InRange.f lo hi st er le mo sp = some (inR lo hi st le mo) := by
  unfold wireloomref45_InRange.f wireloomref45_Outlook.f inR olo ohi
  simp only [Option.bind_some]
  split
  · rename_i h; simp [show le ≤ mx 1 (wrap64 (lo - st)) from h]
  · rename_i h; simp [show ¬ le ≤ mx 1 (wrap64 (lo - st)) from h]
theorem inRange_own (lo hi st er le mo : Int) (sp : Bool) : monitor_view_inRange.f lo hi st er le mo sp (olo lo st) (ohi hi st) = some (inR lo hi st le mo) := by
  unfold monitor_view_inRange.f monitor_span_within.f inR
  split
  · rename_i h; simp [show le ≤ olo lo st from h]
  · rename_i h; simp [show ¬ le ≤ olo lo st from h]
theorem look_own (lo hi st er le mo : Int) (sp : Bool) : monitor_look.f lo hi st er le mo sp = some (lo, hi, st, er, le, mo, sp, olo lo st, ohi hi st) := rfl
theorem valid_own (lo hi st er le mo : Int) (sp : Bool) : monitor_Valid.f lo hi st er le mo sp = some (vld lo hi st er le mo sp) := by
  have tail : (if sp = true then some true else ((monitor_look.f lo hi st er le mo sp).bind fun b => ((monitor_view_inRange.f b.1 b.2.1 b.2.2.1 b.2.2.2.1 b.2.2.2.2.1 b.2.2.2.2.2.1 b.2.2.2.2.2.2.1 b.2.2.2.2.2.2.2.1 b.2.2.2.2.2.2.2.2).bind fun t => some t))) = some (sp || inR lo hi st le mo) := by
    cases sp with
    | true => rfl
    | false => rw [if_neg (by simp), look_own]; simp only [Option.bind_some]; rw [inRange_own]; simp
  unfold monitor_Valid.f
  rw [tail]
  unfold vld
  by_cases hb0 : base lo hi st er le mo
  · rw [if_pos hb0]
    obtain ⟨h1, h2, h3, h4, h5, h6, h7, h8, h9, h10⟩ := hb0
    simp only [h1, h2, h3, h4, h5, h6, h7, h8, h9, h10, if_true]
  · rw [if_neg hb0]
    have hb : ¬ (1 ≤ le ∧ le ≤ mo ∧ mo ≤ 1000000 ∧ 1 ≤ lo ∧ lo ≤ hi ∧ hi ≤ 1000000 ∧ 0 ≤ st ∧ st ≤ 1000000 ∧ 0 ≤ er ∧ er ≤ 1000000) := hb0
    repeat' split
    all_goals first | rfl | (exact absurd ⟨by assumption, by assumption, by assumption, by assumption, by assumption, by assumption, by assumption, by assumption, by assumption, by assumption⟩ hb)
theorem valid_ref (k : Nat) (lo hi st er le mo : Int) (sp : Bool) : wireloomref45_Valid.f (k + 1) lo hi st er le mo sp = some (vld lo hi st er le mo sp) := by
  have j0t : wireloomref45_Valid.j0 (k + 1) true lo hi st er le mo sp = some false := by simp only [wireloomref45_Valid.j0, if_true]
  have tail : (if sp = true then some true else ((wireloomref45_InRange.f lo hi st er le mo sp).bind fun t => some t)) = some (sp || inR lo hi st le mo) := by
    cases sp with
    | true => rfl
    | false => rw [if_neg (by simp), inRange_ref]; simp
  unfold wireloomref45_Valid.f vld
  have nb : ¬ (1 ≤ le ∧ le ≤ mo ∧ mo ≤ 1000000 ∧ 1 ≤ lo ∧ lo ≤ hi ∧ hi ≤ 1000000 ∧ 0 ≤ st ∧ st ≤ 1000000 ∧ 0 ≤ er ∧ er ≤ 1000000) → ¬ base lo hi st er le mo := fun h => h
  have pb : (1 ≤ le ∧ le ≤ mo ∧ mo ≤ 1000000 ∧ 1 ≤ lo ∧ lo ≤ hi ∧ hi ≤ 1000000 ∧ 0 ≤ st ∧ st ≤ 1000000 ∧ 0 ≤ er ∧ er ≤ 1000000) → base lo hi st er le mo := fun h => h
  rw [j0t]
  by_cases h1 : le < 1
  · rw [if_pos h1, if_neg (nb (by omega))]
  rw [if_neg h1]
  by_cases h2 : mo < le
  · rw [if_pos h2, if_neg (nb (by omega))]
  rw [if_neg h2]
  by_cases h3 : mo > 1000000
  · rw [if_pos h3, if_neg (nb (by omega))]
  rw [if_neg h3]
  by_cases h4 : lo < 1
  · rw [if_pos h4, if_neg (nb (by omega))]
  rw [if_neg h4]
  by_cases h5 : hi < lo
  · rw [if_pos h5, if_neg (nb (by omega))]
  rw [if_neg h5]
  simp only [wireloomref45_Valid.j0]
  rw [tail]
  by_cases h6 : hi > 1000000
  · rw [if_pos (by simp [h6]), if_neg (nb (by omega))]
  rw [if_neg (by simp [h6])]
  by_cases h7 : st < 0
  · rw [if_pos h7, if_neg (nb (by omega))]
  rw [if_neg h7]
  by_cases h8 : st > 1000000
  · rw [if_pos h8, if_neg (nb (by omega))]
  rw [if_neg h8]
  by_cases h9 : er < 0
  · rw [if_pos h9, if_neg (nb (by omega))]
  rw [if_neg h9]
  by_cases h10 : er > 1000000
  · rw [if_pos h10, if_neg (nb (by omega))]
  rw [if_neg h10, if_pos (pb (by omega))]
theorem made_own (lo hi st er le mo : Int) (sp : Bool) : wireloomlaw45_made.f lo hi st er le mo sp = if base lo hi st er le mo then some (lo, hi, st, er, le, mo, !inR lo hi st le mo, 0) else some (0, 0, 0, 0, 0, 0, false, 1) := by
  unfold wireloomlaw45_made.f monitor_New.f
  rw [valid_own]
  simp only [Option.bind_some]
  unfold vld
  by_cases hb : base lo hi st er le mo
  · rw [if_pos hb, if_pos hb, Bool.true_or, if_pos rfl, look_own]
    simp only [Option.bind_some]
    rw [inRange_own]
    rfl
  · rw [if_neg hb, if_neg hb, if_neg (by simp)]
    rfl
theorem newIn_ref (k : Nat) (lo hi st er le mo : Int) (sp : Bool) : wireloomref45_NewIn.f (k + 1) lo hi st er le mo sp = if base lo hi st er le mo then some (lo, hi, st, er, le, mo, !inR lo hi st le mo, 0) else some (0, 0, 0, 0, 0, 0, false, 1) := by
  unfold wireloomref45_NewIn.f
  rw [valid_ref]
  simp only [Option.bind_some]
  unfold vld
  by_cases hb : base lo hi st er le mo
  · rw [if_pos hb, if_pos hb, Bool.true_or, if_pos rfl, inRange_ref]
    rfl
  · rw [if_neg hb, if_neg hb, if_neg (by simp)]
theorem outlook_own (lo hi st er le mo : Int) (sp : Bool) : wireloomlaw45_outlook.f lo hi st er le mo sp = some (olo lo st, ohi hi st) := rfl
theorem outlook_ref (lo hi st er le mo : Int) (sp : Bool) : wireloomref45_Outlook.f lo hi st er le mo sp = some (olo lo st, ohi hi st) := rfl
theorem explained_own (lo hi st er le mo : Int) (sp : Bool) (r : Int) : monitor_view_explained.f lo hi st er le mo sp (olo lo st) (ohi hi st) r = if -4000000 ≤ r ∧ r ≤ 4000000 then some (slo lo st er r, shi hi st er r) else some (1, 0) := by
  unfold monitor_view_explained.f
  by_cases h1 : r < -4000000
  · rw [if_pos h1, if_neg (by omega)]
  rw [if_neg h1]
  by_cases h2 : r > 4000000
  · rw [if_pos h2, if_neg (by omega)]
  rw [if_neg h2, if_pos (by omega)]
  rfl
theorem agrees_own (lo hi st er le mo : Int) (sp : Bool) (r : Int) : monitor_Agrees.f lo hi st er le mo sp r = some (agr lo hi st er r) := by
  unfold monitor_Agrees.f
  rw [look_own]
  simp only [Option.bind_some]
  rw [explained_own]
  unfold agr
  by_cases h : -4000000 ≤ r ∧ r ≤ 4000000
  · rw [if_pos h]
    simp only [Option.bind_some, h.1, h.2, decide_true, Bool.true_and]
    split
    · rfl
    · rename_i h2
      simp only [Bool.or_eq_true, Bool.not_eq_true', beq_eq_false_iff_ne, not_or, Decidable.not_not] at h2
      rw [h2.1, h2.2]
      rfl
  · rw [if_neg h]
    simp only [Option.bind_some]
    have : (decide (-4000000 ≤ r) && decide (r ≤ 4000000)) = false := by
      rw [Bool.and_eq_false_iff, decide_eq_false_iff_not, decide_eq_false_iff_not]; omega
    rw [this]
    rfl
theorem seen_ref (lo hi st er le mo : Int) (sp : Bool) (r : Int) : wireloomref45_seen.f lo hi st er le mo sp r = if -4000000 ≤ r ∧ r ≤ 4000000 then some (slo lo st er r, shi hi st er r, decide (slo lo st er r ≤ shi hi st er r)) else some (0, 0, false) := by
  unfold wireloomref45_seen.f
  rw [outlook_ref]
  simp only [Option.bind_some]
  by_cases h1 : r < -4000000
  · rw [if_pos h1, if_neg (by omega)]
  rw [if_neg h1]
  by_cases h2 : r > 4000000
  · rw [if_pos h2, if_neg (by omega)]
  rw [if_neg h2, if_pos (by omega)]
  rfl
theorem agrees_ref (lo hi st er le mo : Int) (sp : Bool) (r : Int) : wireloomref45_Agrees.f lo hi st er le mo sp r = some (agr lo hi st er r) := by
  unfold wireloomref45_Agrees.f agr
  rw [seen_ref]
  by_cases h : -4000000 ≤ r ∧ r ≤ 4000000
  · rw [if_pos h]
    simp [h.1, h.2]
  · rw [if_neg h]
    have : (decide (-4000000 ≤ r) && decide (r ≤ 4000000)) = false := by
      rw [Bool.and_eq_false_iff, decide_eq_false_iff_not, decide_eq_false_iff_not]; omega
    rw [this]
    rfl
theorem agr_far {lo hi st er r : Int} (h : ¬ (-4000000 ≤ r ∧ r ≤ 4000000)) : agr lo hi st er r = false := by
  unfold agr
  have : (decide (-4000000 ≤ r) && decide (r ≤ 4000000)) = false := by
    rw [Bool.and_eq_false_iff, decide_eq_false_iff_not, decide_eq_false_iff_not]; omega
  rw [this]
  rfl
theorem agr_near {lo hi st er r : Int} (h : -4000000 ≤ r ∧ r ≤ 4000000) : agr lo hi st er r = decide (slo lo st er r ≤ shi hi st er r) := by
  unfold agr
  simp [h.1, h.2]
theorem see_ref (lo hi st er le mo : Int) (sp : Bool) (r : Int) : wireloomref45_See.f lo hi st er le mo sp r = some (see lo hi st er le mo sp r) := by
  unfold wireloomref45_See.f see
  cases sp with
  | true => rfl
  | false =>
    rw [if_neg (show ¬ (false = true) by simp), if_neg (show ¬ (false = true) by simp), seen_ref]
    by_cases h : -4000000 ≤ r ∧ r ≤ 4000000
    · rw [if_pos h, agr_near h]
      simp only [Option.bind_some]
      split
      · rw [inRange_ref]; rfl
      · rfl
    · rw [if_neg h, agr_far h]
      rfl
theorem see_own (lo hi st er le mo : Int) (sp : Bool) (r : Int) : monitor_See.f lo hi st er le mo sp r = some (see lo hi st er le mo sp r) := by
  unfold monitor_See.f monitor_update_monitor_view_explained.f see
  rw [look_own]
  simp only [Option.bind_some]
  cases sp with
  | true => rfl
  | false =>
    rw [if_neg (show ¬ (false = true) by simp), if_neg (show ¬ (false = true) by simp), explained_own]
    by_cases h : -4000000 ≤ r ∧ r ≤ 4000000
    · rw [if_pos h, agr_near h]
      simp only [Option.bind_some, look_own, decide_eq_true_eq]
      by_cases h2 : slo lo st er r ≤ shi hi st er r
      · rw [if_neg (by omega), if_pos h2, inRange_own]; rfl
      · rw [if_pos (by omega), if_neg h2]; rfl
    · rw [if_neg h, agr_far h]
      rfl
theorem miss_ref (lo hi st er le mo : Int) (sp : Bool) : wireloomref45_Miss.f lo hi st er le mo sp = some (miss lo hi st er le mo sp) := by
  unfold wireloomref45_Miss.f miss
  cases sp with
  | true => rfl
  | false =>
    rw [if_neg (show ¬ (false = true) by simp), if_neg (show ¬ (false = true) by simp), outlook_ref]
    simp only [Option.bind_some]
    rw [inRange_ref]
    rfl
/-- As long as the outlook isn't empty. -/
theorem miss_own (lo hi st er le mo : Int) (sp : Bool) (h : sp = true ∨ olo lo st ≤ ohi hi st) : monitor_Miss.f lo hi st er le mo sp = some (miss lo hi st er le mo sp) := by
  unfold monitor_Miss.f monitor_update_monitor_view_all.f miss
  rw [look_own]
  simp only [Option.bind_some]
  cases sp with
  | true => rfl
  | false =>
    have h2 : olo lo st ≤ ohi hi st := by simpa using h
    rw [if_neg (show ¬ (false = true) by simp), if_neg (show ¬ (false = true) by simp)]
    unfold monitor_view_all.f
    simp only [Option.bind_some, look_own]
    rw [if_neg (by omega), inRange_own]
    rfl
/-! ### valid monitors -/
theorem olo_eq {lo st : Int} (h1 : 1 ≤ lo) (h2 : lo ≤ 1000000) (h3 : 0 ≤ st) (h4 : st ≤ 1000000) : olo lo st = if lo - st < 1 then 1 else lo - st := by
  unfold olo mx wrap64
  split <;> split <;> omega
theorem ohi_eq {hi st : Int} (h1 : 1 ≤ hi) (h2 : hi ≤ 1000000) (h3 : 0 ≤ st) (h4 : st ≤ 1000000) : ohi hi st = hi + st := by
  unfold ohi wrap64
  omega
theorem slo_eq {lo st er r : Int} (h1 : 1 ≤ lo) (h2 : lo ≤ 1000000) (h3 : 0 ≤ st) (h4 : st ≤ 1000000) (h5 : 0 ≤ er) (h6 : er ≤ 1000000) (hr : -4000000 ≤ r ∧ r ≤ 4000000) : slo lo st er r = if olo lo st < r - er then r - er else olo lo st := by
  unfold slo mx
  have : wrap64 (r - er) = r - er := by unfold wrap64; omega
  rw [this]
theorem shi_eq {hi st er r : Int} (h5 : 0 ≤ er) (h6 : er ≤ 1000000) (hr : -4000000 ≤ r ∧ r ≤ 4000000) : shi hi st er r = if r + er < ohi hi st then r + er else ohi hi st := by
  unfold shi mn
  have : wrap64 (r + er) = r + er := by unfold wrap64; omega
  rw [this]
def vldM (m : M) : Bool := vld m.1 m.2.1 m.2.2.1 m.2.2.2.1 m.2.2.2.2.1 m.2.2.2.2.2.1 m.2.2.2.2.2.2
theorem vld_base {lo hi st er le mo : Int} {sp : Bool} (h : vld lo hi st er le mo sp = true) : base lo hi st er le mo ∧ (sp = true ∨ inR lo hi st le mo = true) := by
  unfold vld at h
  by_cases hb : base lo hi st er le mo
  · rw [if_pos hb] at h
    exact ⟨hb, by simpa using h⟩
  · rw [if_neg hb] at h
    exact absurd h (by simp)
theorem vld_mk {lo hi st er le mo : Int} {sp : Bool} (hb : base lo hi st er le mo) (h : sp = true ∨ inR lo hi st le mo = true) : vld lo hi st er le mo sp = true := by
  unfold vld
  rw [if_pos hb]
  simpa using h
theorem inR_out {lo hi st le mo : Int} (h : inR lo hi st le mo = true) : le ≤ olo lo st ∧ ohi hi st ≤ mo := by
  unfold inR at h
  simpa using h
/-- A valid monitor stays valid. -/
theorem see_valid {lo hi st er le mo : Int} {sp : Bool} (r : Int) (h : vld lo hi st er le mo sp = true) : vldM (see lo hi st er le mo sp r) = true := by
  obtain ⟨hb, hs⟩ := vld_base h
  unfold see vldM
  cases sp with
  | true => exact h
  | false =>
    rw [if_neg (show ¬ (false = true) by simp)]
    have hi_ := inR_out (show inR lo hi st le mo = true by simpa using hs)
    by_cases hr : -4000000 ≤ r ∧ r ≤ 4000000
    · rw [agr_near hr]
      by_cases h2 : slo lo st er r ≤ shi hi st er r
      · rw [if_pos (by simpa using h2)]
        have hb' := hb
        unfold base at hb'
        have e1 := slo_eq (lo := lo) (st := st) (er := er) (r := r) (by omega) (by omega) (by omega) (by omega) (by omega) (by omega) hr
        have e2 := shi_eq (hi := hi) (st := st) (er := er) (r := r) (by omega) (by omega) hr
        have e3 := olo_eq (lo := lo) (st := st) (by omega) (by omega) (by omega) (by omega)
        refine vld_mk ?_ (by cases inR (slo lo st er r) (shi hi st er r) st le mo <;> simp)
        unfold base
        have e4 : 1 ≤ slo lo st er r := by
          rw [e1]; split <;> (rw [e3] at *; split at * <;> omega)
        have e5 : shi hi st er r ≤ ohi hi st := by rw [e2]; split <;> omega
        show 1 ≤ le ∧ le ≤ mo ∧ mo ≤ 1000000 ∧ 1 ≤ slo lo st er r ∧ slo lo st er r ≤ shi hi st er r ∧ shi hi st er r ≤ 1000000 ∧ 0 ≤ st ∧ st ≤ 1000000 ∧ 0 ≤ er ∧ er ≤ 1000000
        omega
      · rw [if_neg (by simpa using h2)]
        exact vld_mk hb (.inl rfl)
    · rw [agr_far hr]
      exact vld_mk hb (.inl rfl)
theorem outlook_some {lo hi st er le mo : Int} (hb : base lo hi st er le mo) : olo lo st ≤ ohi hi st := by
  unfold base at hb
  have e3 := olo_eq (lo := lo) (st := st) (by omega) (by omega) (by omega) (by omega)
  have e4 := ohi_eq (hi := hi) (st := st) (by omega) (by omega) (by omega) (by omega)
  rw [e3, e4]
  split <;> omega
theorem miss_valid {lo hi st er le mo : Int} {sp : Bool} (h : vld lo hi st er le mo sp = true) : vldM (miss lo hi st er le mo sp) = true := by
  obtain ⟨hb, hs⟩ := vld_base h
  unfold miss vldM
  cases sp with
  | true => exact h
  | false =>
    rw [if_neg (show ¬ (false = true) by simp)]
    have hi_ := inR_out (show inR lo hi st le mo = true by simpa using hs)
    refine vld_mk ?_ (by cases inR (olo lo st) (ohi hi st) st le mo <;> simp)
    have h2 := outlook_some hb
    unfold base at hb
    have e3 := olo_eq (lo := lo) (st := st) (by omega) (by omega) (by omega) (by omega)
    have e4 : 1 ≤ olo lo st := by rw [e3]; split <;> omega
    show 1 ≤ le ∧ le ≤ mo ∧ mo ≤ 1000000 ∧ 1 ≤ olo lo st ∧ olo lo st ≤ ohi hi st ∧ ohi hi st ≤ 1000000 ∧ 0 ≤ st ∧ st ≤ 1000000 ∧ 0 ≤ er ∧ er ≤ 1000000
    omega
end Go.Proofs.Ytlofmgdjnaajjaa.Q

/- What the reference makes of a description (layer 44): a valid drift, a path of it, and readings. -/
namespace Go.Proofs.Ytlofmgdjnaajjaa.Q
open Go.RowKit Go.Proofs.YtlofmgdjnaajjaaW.PrintWords Go.Proofs.YtlofmgdjnaajjaaW.PrintMore
set_option linter.unusedVariables false
set_option linter.unusedSimpArgs false
/-- A path of a drift, with its readings: the first j steps. -/
structure Walks (lo hi st er : Int) (P L : List Int) : Prop where
  len : P.length = L.length + 1
  few : L.length ≤ 12
  first : lo ≤ P.getD 0 0 ∧ P.getD 0 0 ≤ hi
  step : ∀ i, i < L.length → 1 ≤ P.getD (i + 1) 0 ∧ P.getD (i + 1) 0 ≤ P.getD i 0 + st ∧ P.getD i 0 - st ≤ P.getD (i + 1) 0 ∧ L.getD i 0 - er ≤ P.getD (i + 1) 0 ∧ P.getD (i + 1) 0 ≤ L.getD i 0 + er
  small : ∀ i, i ≤ L.length → 1 ≤ P.getD i 0 ∧ P.getD i 0 ≤ 47 + 5 * (i : Int)
/-- What is known of a drift that was made. -/
structure Drifts (lo hi st er : Int) : Prop where
  lo1 : 1 ≤ lo
  lo2 : lo ≤ 40
  hi1 : lo ≤ hi
  hi2 : hi ≤ lo + 7
  st1 : 0 ≤ st
  st2 : st ≤ 5
  er1 : 0 ≤ er
  er2 : er ≤ 5
def bytesOk (l : List Int) : Prop := ∀ x ∈ l, (Lit.int .u8 x).wf = true
theorem wf_u8 {n : Int} (h : (Lit.int .u8 n).wf = true) : 0 ≤ n ∧ n ≤ 255 := by
  have h1 : (IntKind.u8.min ≤ n) ∧ n ≤ IntKind.u8.max := by simpa [Lit.wf] using h
  have e1 : IntKind.u8.min = 0 := rfl
  have e2 : IntKind.u8.max = 255 := rfl
  omega
theorem rd_u8 {l : List Int} (h : bytesOk l) (i : Int) : 0 ≤ rd l i ∧ rd l i ≤ 255 := by
  unfold rd
  rw [List.getD_eq_getElem?_getD]
  cases hq : l[i.toNat]? with
  | none => simp
  | some v => exact wf_u8 (h v (List.mem_of_getElem? hq))
theorem getD_snoc_lt {l : List Int} {x : Int} {i : Nat} (h : i < l.length) : (l ++ [x]).getD i 0 = l.getD i 0 := by
  rw [List.getD_eq_getElem?_getD, List.getD_eq_getElem?_getD, List.getElem?_append_left h]
theorem getD_snoc_eq {l : List Int} {x : Int} {i : Nat} (h : i = l.length) : (l ++ [x]).getD i 0 = x := by
  subst h
  rw [List.getD_eq_getElem?_getD, List.getElem?_append_right (Nat.le_refl _), Nat.sub_self]
  rfl
theorem tmod_small {a m : Int} (h : 0 ≤ a) (hm : 0 < m) : 0 ≤ Int.tmod a m ∧ Int.tmod a m < m := by
  rw [Int.tmod_eq_emod_of_nonneg h]
  exact ⟨Int.emod_nonneg _ (by omega), Int.emod_lt_of_pos _ hm⟩
theorem walk_loop (l : List Int) (hl : bytesOk l) (hl2 : l.length ≤ maxLen) (lo hi st er z0 z1 z2 z3 : Int) (hst : 0 ≤ st ∧ st ≤ 5) (her : 0 ≤ er ∧ er ≤ 5) (d : Nat) : ∀ (k : Nat) (x5 : Int) (P L : List Int), Walks lo hi st er P L → P.getD L.length 0 = x5 → L.length + d = 12 → d < k →
    ∃ P' L', wireloomref44_Made.l0 k x5 (2 * (L.length : Int)) z0 z1 z2 z3 l lo hi st er P L = some (lo, hi, st, er, P', L') ∧ Walks lo hi st er P' L' := by
  have hm : maxLen = 9223372036854775807 := rfl
  induction d with
  | zero =>
    intro k x5 P L hW hx hd hk
    obtain ⟨k, rfl⟩ : ∃ m, k = m + 1 := ⟨k - 1, by omega⟩
    refine ⟨P, L, ?_, hW⟩
    simp only [wireloomref44_Made.l0]
    split
    · rw [if_neg (by omega)]
    · rfl
  | succ d ih =>
    intro k x5 P L hW hx hd hk
    obtain ⟨k, rfl⟩ : ∃ m, k = m + 1 := ⟨k - 1, by omega⟩
    have hs := hW.small L.length (Nat.le_refl _)
    rw [hx] at hs
    have w1 : wrap64 (2 * (L.length : Int) + 1) = 2 * (L.length : Int) + 1 := by unfold wrap64; omega
    have w2 : wrap64 (2 * (L.length : Int) + 2) = 2 * (L.length : Int) + 2 := by unfold wrap64; omega
    have ws : wrap64 (wrap64 (2 * st) + 1) = 2 * st + 1 := by unfold wrap64; omega
    have we : wrap64 (wrap64 (2 * er) + 1) = 2 * er + 1 := by unfold wrap64; omega
    by_cases hlt : 2 * (L.length : Int) + 1 < (l.length : Int)
    · have b0 := rd_u8 hl (2 * (L.length : Int))
      have b1 := rd_u8 hl (2 * (L.length : Int) + 1)
      have wb0 : wrap64 (rd l (2 * (L.length : Int))) = rd l (2 * (L.length : Int)) := by unfold wrap64; omega
      have wb1 : wrap64 (rd l (2 * (L.length : Int) + 1)) = rd l (2 * (L.length : Int) + 1) := by unfold wrap64; omega
      have t0 := tmod_small (m := 2 * st + 1) b0.1 (by omega)
      have t1 := tmod_small (m := 2 * er + 1) b1.1 (by omega)
      obtain ⟨f, hf⟩ : ∃ f, f = mx 1 (wrap64 (wrap64 (x5 + Int.tmod (wrap64 (rd l (2 * (L.length : Int)))) (2 * st + 1)) - st)) := ⟨_, rfl⟩
      obtain ⟨g, hg⟩ : ∃ g, g = wrap64 (wrap64 (f + Int.tmod (wrap64 (rd l (2 * (L.length : Int) + 1))) (2 * er + 1)) - er) := ⟨_, rfl⟩
      have ef : 1 ≤ f ∧ f ≤ x5 + st ∧ x5 - st ≤ f := by
        rw [hf, wb0]
        have : wrap64 (wrap64 (x5 + Int.tmod (rd l (2 * (L.length : Int))) (2 * st + 1)) - st) = x5 + Int.tmod (rd l (2 * (L.length : Int))) (2 * st + 1) - st := by unfold wrap64; omega
        rw [this]
        unfold mx
        split <;> omega
      have eg : g - er ≤ f ∧ f ≤ g + er := by
        rw [hg, wb1]
        have : wrap64 (wrap64 (f + Int.tmod (rd l (2 * (L.length : Int) + 1)) (2 * er + 1)) - er) = f + Int.tmod (rd l (2 * (L.length : Int) + 1)) (2 * er + 1) - er := by unfold wrap64; omega
        rw [this]
        omega
      have hW' : Walks lo hi st er (P ++ [f]) (L ++ [g]) := by
        have hP := hW.len
        refine ⟨by simp [hP], by simp; omega, ?_, fun i hi => ?_, fun i hi => ?_⟩
        · rw [getD_snoc_lt (by omega)]; exact hW.first
        · rw [List.length_append, List.length_singleton] at hi
          by_cases hi2 : i < L.length
          · rw [getD_snoc_lt (l := P) (by omega), getD_snoc_lt (l := P) (by omega), getD_snoc_lt (l := L) hi2]
            exact hW.step i hi2
          · have : i = L.length := by omega
            subst this
            rw [getD_snoc_eq (l := P) (by omega), getD_snoc_lt (l := P) (by omega), getD_snoc_eq (l := L) rfl, hx]
            omega
        · rw [List.length_append, List.length_singleton] at hi
          by_cases hi2 : i ≤ L.length
          · rw [getD_snoc_lt (l := P) (by omega)]
            exact hW.small i hi2
          · have : i = L.length + 1 := by omega
            subst this
            rw [getD_snoc_eq (l := P) (by omega)]
            have := hW.small L.length (Nat.le_refl _)
            rw [hx] at this
            omega
      obtain ⟨P', L', he, hW2⟩ := ih k f (P ++ [f]) (L ++ [g]) hW' (by rw [List.length_append, List.length_singleton]; exact getD_snoc_eq (by have := hW.len; omega)) (by simp; omega) (by omega)
      refine ⟨P', L', ?_, hW2⟩
      simp only [wireloomref44_Made.l0]
      rw [w1, w2, ws, we]
      have hP := hW.len
      have hF := hW.few
      rw [if_pos hlt, if_pos (by omega), if_pos (by omega), if_pos (by omega), if_neg (by omega), if_pos (by omega), if_pos (by omega), if_neg (by omega), if_pos (by omega), ← hf, ← hg]
      have hlen : (2 * ((L ++ [g]).length : Int)) = 2 * (L.length : Int) + 2 := by rw [List.length_append, List.length_singleton]; omega
      rw [hlen] at he
      exact he
    · refine ⟨P, L, ?_, hW⟩
      simp only [wireloomref44_Made.l0]
      rw [w1, if_neg hlt]
/-- The description's drift, path and readings. -/
theorem made44 (k : Nat) (hk : 13 ≤ k) {a0 a1 a2 a3 : Int} {l : List Int} (h0 : (Lit.int .u8 a0).wf = true) (h1 : (Lit.int .u8 a1).wf = true) (h2 : (Lit.int .u8 a2).wf = true) (h3 : (Lit.int .u8 a3).wf = true) (hl : bytesOk l) (hl2 : l.length ≤ maxLen) :
    ∃ lo hi st er P L, wireloomref44_Made.f k a0 a1 a2 a3 l = some (lo, hi, st, er, P, L) ∧ Drifts lo hi st er ∧ Walks lo hi st er P L := by
  have b0 := wf_u8 h0
  have b1 := wf_u8 h1
  have b2 := wf_u8 h2
  have b3 := wf_u8 h3
  have t0 := tmod_small (m := 40) b0.1 (by omega)
  have t1 := tmod_small (m := 8) b1.1 (by omega)
  have t2 := tmod_small (m := 6) b2.1 (by omega)
  have t3 := tmod_small (m := 6) b3.1 (by omega)
  have e0 : wrap64 (1 + wrap64 (Int.tmod a0 40)) = 1 + Int.tmod a0 40 := by unfold wrap64; omega
  have e1 : wrap64 (1 + wrap64 (Int.tmod a1 8)) = 1 + Int.tmod a1 8 := by unfold wrap64; omega
  have e1' : wrap64 (Int.tmod a1 8) = Int.tmod a1 8 := by unfold wrap64; omega
  have e2 : wrap64 (Int.tmod a2 6) = Int.tmod a2 6 := by unfold wrap64; omega
  have e3 : wrap64 (Int.tmod a3 6) = Int.tmod a3 6 := by unfold wrap64; omega
  have ea : wrap64 a0 = a0 := by unfold wrap64; omega
  have tf := tmod_small (a := a0) (m := 1 + Int.tmod a1 8) b0.1 (by omega)
  obtain ⟨lo, hlo⟩ : ∃ lo, lo = 1 + Int.tmod a0 40 := ⟨_, rfl⟩
  obtain ⟨wd, hwd⟩ : ∃ wd, wd = Int.tmod a1 8 := ⟨_, rfl⟩
  obtain ⟨f, hf⟩ : ∃ f, f = wrap64 (lo + Int.tmod a0 (1 + wd)) := ⟨_, rfl⟩
  have ef : f = lo + Int.tmod a0 (1 + wd) := by rw [hf, hwd]; unfold wrap64; omega
  have eh : wrap64 (lo + wd) = lo + wd := by unfold wrap64; omega
  rw [← hwd] at tf t1 e1 e1'
  have hW : Walks lo (lo + wd) (Int.tmod a2 6) (Int.tmod a3 6) [f] [] := by
    refine ⟨rfl, by simp, ?_, fun i hi => absurd hi (by simp), fun i hi => ?_⟩
    · show lo ≤ f ∧ f ≤ lo + wd
      omega
    · have : i = 0 := by simpa using hi
      subst this
      show 1 ≤ f ∧ f ≤ 47 + 5 * ((0 : Nat) : Int)
      omega
  obtain ⟨P, L, he, hW2⟩ := walk_loop l hl hl2 lo (lo + wd) (Int.tmod a2 6) (Int.tmod a3 6) a0 a1 a2 a3 (by omega) (by omega) 12 k f [f] [] hW rfl rfl (by omega)
  refine ⟨lo, lo + wd, Int.tmod a2 6, Int.tmod a3 6, P, L, ?_, ⟨by omega, by omega, by omega, by omega, by omega, by omega, by omega, by omega⟩, hW2⟩
  unfold wireloomref44_Made.f
  rw [← hwd, e0, e1, e1', e2, e3, ea, ← hlo, if_neg (by omega), eh, ← hf]
  exact he
end Go.Proofs.Ytlofmgdjnaajjaa.Q

/- The monitor that the reference makes of a description (layer 45). -/
namespace Go.Proofs.Ytlofmgdjnaajjaa.Q
open Go.RowKit Go.Proofs.YtlofmgdjnaajjaaW.PrintWords Go.Proofs.YtlofmgdjnaajjaaW.PrintMore
set_option linter.unusedVariables false
set_option linter.unusedSimpArgs false
open Mon
/-- What is known of a monitor that was made. -/
structure Mades (lo hi st er le mo : Int) : Prop where
  b : base lo hi st er le mo
  le1 : le ≤ lo
  le2 : lo ≤ le + 29
  mo1 : hi ≤ mo
  mo2 : mo ≤ hi + 29
theorem made45 (k : Nat) (hk : 13 ≤ k) {a0 a1 a2 a3 b o : Int} {l : List Int} (h0 : (Lit.int .u8 a0).wf = true) (h1 : (Lit.int .u8 a1).wf = true) (h2 : (Lit.int .u8 a2).wf = true) (h3 : (Lit.int .u8 a3).wf = true) (hl : bytesOk l) (hl2 : l.length ≤ maxLen) (hb : (Lit.int .u8 b).wf = true) (ho : (Lit.int .u8 o).wf = true) :
    ∃ lo hi st er le mo P L, wireloomref44_Made.f k a0 a1 a2 a3 l = some (lo, hi, st, er, P, L) ∧ Drifts lo hi st er ∧ Walks lo hi st er P L ∧ wireloomref45_Made.f k a0 a1 a2 a3 l b o = some (lo, hi, st, er, le, mo, !inR lo hi st le mo) ∧ Mades lo hi st er le mo := by
  obtain ⟨lo, hi, st, er, P, L, hM, hD, hW⟩ := made44 k hk h0 h1 h2 h3 hl hl2
  have b1 := wf_u8 hb
  have b2 := wf_u8 ho
  have t1 := tmod_small (m := 30) b1.1 (by omega)
  have t2 := tmod_small (m := 30) b2.1 (by omega)
  obtain ⟨hlo1, hlo2, hhi1, hhi2, hst1, hst2, her1, her2⟩ := hD
  have e1 : wrap64 (lo - wrap64 (Int.tmod b 30)) = lo - Int.tmod b 30 := by unfold wrap64; omega
  have e2 : wrap64 (hi + wrap64 (Int.tmod o 30)) = hi + Int.tmod o 30 := by unfold wrap64; omega
  obtain ⟨k, rfl⟩ : ∃ m, k = m + 1 := ⟨k - 1, by omega⟩
  have e3 : mx 1 (lo - Int.tmod b 30) = if lo - Int.tmod b 30 < 1 then 1 else lo - Int.tmod b 30 := by unfold mx; split <;> split <;> omega
  have hbase : base lo hi st er (mx 1 (lo - Int.tmod b 30)) (hi + Int.tmod o 30) := by
    show 1 ≤ mx 1 (lo - Int.tmod b 30) ∧ mx 1 (lo - Int.tmod b 30) ≤ hi + Int.tmod o 30 ∧ hi + Int.tmod o 30 ≤ 1000000 ∧ 1 ≤ lo ∧ lo ≤ hi ∧ hi ≤ 1000000 ∧ 0 ≤ st ∧ st ≤ 1000000 ∧ 0 ≤ er ∧ er ≤ 1000000
    rw [e3]
    split <;> omega
  refine ⟨lo, hi, st, er, mx 1 (lo - Int.tmod b 30), hi + Int.tmod o 30, P, L, hM, ⟨hlo1, hlo2, hhi1, hhi2, hst1, hst2, her1, her2⟩, hW, ?_, ⟨hbase, ?_, ?_, by omega, by omega⟩⟩
  · unfold wireloomref45_Made.f
    rw [hM]
    simp only [Option.bind_some]
    rw [e1, e2, newIn_ref, if_pos hbase]
    rfl
  · rw [e3]; split <;> omega
  · rw [e3]; split <;> omega
end Go.Proofs.Ytlofmgdjnaajjaa.Q

/- What the law MonitorMatchesReference's plain function answers: true, whatever came in. -/
namespace Go.Proofs.Ytlofmgdjnaajjaa.Q
open Go.RowKit Go.Proofs.YtlofmgdjnaajjaaW.PrintWords Go.Proofs.YtlofmgdjnaajjaaW.PrintMore
set_option linter.unusedVariables false
set_option linter.unusedSimpArgs false
open Mon
def vldS (x : S28) : Prop := vld x.f0 x.f1 x.f2 x.f3 x.f4 x.f5 x.f6 = true
theorem ne_self7 {a b c d e f : Int} {g : Bool} : (!(a == a) || (!(b == b) || (!(c == c) || (!(d == d) || (!(e == e) || (!(f == f) || (!(g == g)))))))) = false := by simp
theorem matches_loop (r : Int) (xs : List S28) (hx : ∀ x ∈ xs, vldS x) (hm : xs.length ≤ 100) (d : Nat) : ∀ (k : Nat) (i : Nat), i + d = xs.length → d < k → wireloomlaw45_MonitorMatchesReference.l0 k r true xs (i : Int) = some true := by
  induction d with
  | zero =>
    intro k i hi hk
    obtain ⟨k, rfl⟩ : ∃ m, k = m + 1 := ⟨k - 1, by omega⟩
    simp only [wireloomlaw45_MonitorMatchesReference.l0]
    rw [if_neg (by omega)]
  | succ d ih =>
    intro k i hi hk
    obtain ⟨k, rfl⟩ : ∃ m, k = m + 1 := ⟨k - 1, by omega⟩
    have hlt : i < xs.length := by omega
    have he : vldS (rd_T28 xs (i : Int)) := by
      unfold rd_T28
      rw [List.getD_eq_getElem?_getD, Int.toNat_natCast, List.getElem?_eq_getElem hlt]
      exact hx _ (List.getElem_mem hlt)
    simp only [wireloomlaw45_MonitorMatchesReference.l0]
    generalize rd_T28 xs (i : Int) = e at he ⊢
    obtain ⟨lo, hi', st, er, le, mo, sp⟩ := e
    have hv : vld lo hi' st er le mo sp = true := he
    have hb := (vld_base hv).1
    have hm1 := miss_own lo hi' st er le mo sp (.inr (outlook_some hb))
    have hs2 := see_valid r hv
    have hm2 := miss_valid hv
    unfold vldM at hs2 hm2
    rw [if_pos (by omega), if_pos (by omega)]
    simp only [outlook_own, outlook_ref, Option.bind_some, agrees_own, agrees_ref, see_own, see_ref, hm1, miss_ref, valid_own, hs2, hm2, bne_self_eq_false, Bool.false_eq_true, beq_self_eq_true, Bool.not_true, Bool.or_self, if_false, if_true]
    have hw : wrap64 ((i : Int) + 1) = ((i + 1 : Nat) : Int) := by unfold wrap64; omega
    rw [hw]
    exact ih k (i + 1) (by omega) (by omega)
theorem Pure.MonitorMatchesReference : wireloomlaw45_MonitorMatchesReference.Pure := by
  intro x0 x1 r h0 h1 hr
  obtain ⟨⟨w0, w1, w2, w3, w4, w5⟩, wb, wo⟩ := h0
  obtain ⟨lo, hi, st, er, le, mo, P, L, hM, hD, hW, hN, hMa⟩ := made45 30 (by omega) w0 w1 w2 w3 w5 w4 wb wo
  refine ⟨30, ?_⟩
  obtain ⟨z0, z1, z2, z3, z4, z5, z6⟩ := x1
  have hown : vld lo hi st er le mo (!inR lo hi st le mo) = true := vld_mk hMa.b (by cases inR lo hi st le mo <;> simp)
  have hs2 := see_valid r hown
  have hm2 := miss_valid hown
  unfold wireloomlaw45_MonitorMatchesReference.f wireloomlaw45_examples.f
  simp only [Option.bind_some, if_true]
  rw [hN]
  simp only [Option.bind_some, valid_own, valid_ref 29, bne_self_eq_false, Bool.false_eq_true, if_false, made_own, newIn_ref 29]
  have hj : wireloomlaw45_MonitorMatchesReference.j0 30 r true (!vld lo hi st er le mo (!inR lo hi st le mo)) z0 z1 z2 z3 z4 z5 z6 lo hi st er le mo (!inR lo hi st le mo) = some true := by
    simp only [wireloomlaw45_MonitorMatchesReference.j0, hown, Bool.not_true, Bool.false_eq_true, if_false, see_ref, miss_ref, Option.bind_some, valid_ref 28]
    cases hz : vld z0 z1 z2 z3 z4 z5 z6 with
    | true =>
      rw [if_pos rfl, if_pos (by simp)]
      simp only [wireloomlaw45_MonitorMatchesReference.j1]
      refine matches_loop r _ ?_ (by simp) 4 28 0 rfl (by omega)
      intro x hx
      simp only [List.cons_append, List.nil_append, List.mem_cons, List.not_mem_nil, or_false] at hx
      rcases hx with rfl | rfl | rfl | rfl
      · exact hown
      · exact hs2
      · exact hm2
      · exact hz
    | false =>
      rw [if_neg (by simp)]
      simp only [wireloomlaw45_MonitorMatchesReference.j1]
      refine matches_loop r _ ?_ (by simp) 3 28 0 rfl (by omega)
      intro x hx
      simp only [List.mem_cons, List.not_mem_nil, or_false] at hx
      rcases hx with rfl | rfl | rfl
      · exact hown
      · exact hs2
      · exact hm2
  by_cases hb : base z0 z1 z2 z3 z4 z5
  · simp only [if_pos hb, Option.bind_some, beq_self_eq_true, Bool.not_true, Bool.or_self, Bool.false_eq_true, if_false]
    exact hj
  · simp only [if_neg hb, Option.bind_some, beq_self_eq_true, Bool.not_true, Bool.or_self, Bool.false_eq_true, if_false]
    exact hj
end Go.Proofs.Ytlofmgdjnaajjaa.Q

