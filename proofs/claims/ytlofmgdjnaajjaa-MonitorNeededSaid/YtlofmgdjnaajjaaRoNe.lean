/- The law MonitorNeeded holds for every input: the function returns true and each argument reads afterwards as it read before. Conditions: none. -/
import Derived.Test.YtlofmgdjnaajjaaRows
import Derived.WalkKit
import Derived.ProofKit
import Derived.OpenShut
import Derived.ShutString
import Derived.ChangeOld
import Derived.Below
import Derived.SizedLaws
import Derived.Test.YtlofmgdjnaajjaaNd
namespace Go.Proofs.Ytlofmgdjnaajjaa.monitorNeeded
open Go Go.ChangeShapes Go.WideShapes Go.ChangeAt Go.RowKit Go.Ev Go.Proofs Go.Proofs.Ytlofmgdjnaajjaa
set_option linter.unusedVariables false
set_option linter.unusedSimpArgs false
theorem own : ownKnob Try.prog.godebug = none := by kernel_rfl
theorem laidOut : laidOutB Try.prog = true := by kernel_rfl
theorem sh0 : shT Try.prog 20 26 = some [.int .u8, .int .u8, .int .u8, .int .u8, .slice [.int .u8], .int .u8, .int .u8] := by kernel_rfl
set_option maxRecDepth 100000 in
theorem lifted (os : Os) (started : os.Started) (H : Type) (enc : TypeId × Value → H) :
    ReturnsInHanded {} Try.checked os 8 .any (Rows.monitorNeededSpec.pre6 enc Try.prog Try.f8 Rows.monitorNeededRow.domain false) (Rows.monitorNeededSpec.post enc Try.prog Try.f8 false true false false) := by
  refine returnsInHanded_of_change_sized (C := Try.checked) own started (by kernel_rfl) Try.func8
    (ChangeSpec.witness6 (enc := enc) (C := Try.checked) false ⟨#[], #[.agg #[(.int .u8 0), (.int .u8 0), (.int .u8 0), (.int .u8 0), (.slice none 0 0), (.int .u8 0), (.int .u8 0)]], []⟩ 12 (by kernel_rfl) (by kernel_rfl) (by kernel_rfl) (by kernel_rfl)) ?_
  intro W base args ds gs before hval0 hW hcnd hsz0 _
  have hval : ∀ (j : Nat) t v, Try.f8.params[j]? = some t → args[j]? = some v → Value.okWide Try.prog W .any base t v := hval0
  have hW' := hW
  obtain ⟨p, q, hA0, hV, rfl, hfz, hnd⟩ := hW
  have hA : DataW.TrodAll enc Try.prog W 0 (fun _ => true) true Try.f8.params.toList args.toList ds p := hA0
  rw [Try.params8] at hA hval
  obtain ⟨v0, vs0, d0, ds0, p0, q0, hargs, rfl, rfl, h0, r0⟩ := trodAll_cons hA
  obtain ⟨rfl, rfl, rfl⟩ := trodAll_nil r0
  obtain rfl : args = #[v0] := by cases args; simp_all
  obtain ⟨rfl, rfl⟩ := trodVars_none hV
  have k0 := h0
  have lt0 : ∀ x ∈ p0, x.block < W.heap.size := by obtain ⟨m, hm⟩ := k0; exact DataW.trod_lt m _ _ _ hm
  obtain ⟨cs0, rfl, _⟩ := okWide_struct Try.underlying26 (hval 0 26 v0 rfl rfl)
  obtain ⟨m0, hf0⟩ := h0
  obtain ⟨as0, R0, ok0, ones0⟩ := readable 20 26 _ sh0 _ _ _ hf0
  have V0 : VRel W noOwn noEta (.agg as0) (.agg cs0) := by have := VRel.agg (w := W) (O := noOwn) noEta as0 cs0.toList R0 ones0; simpa using this
  obtain ⟨_, _, rfl, ⟨n0_0, rfl, w0_0⟩, _, _, rfl, ⟨n0_1, rfl, w0_1⟩, _, _, rfl, ⟨n0_2, rfl, w0_2⟩, _, _, rfl, ⟨n0_3, rfl, w0_3⟩, _, _, rfl, ⟨l0_4, f0_4, rfl, hl0_4, hr0_4⟩, _, _, rfl, ⟨n0_5, rfl, w0_5⟩, _, _, rfl, ⟨n0_6, rfl, w0_6⟩, rfl⟩ := ok0
  clear hA0 hval0 hsz0
  refine ((ok_Needed.2 [_] _ _ rfl ?cond) W noOwn _ (fun _ h => h.elim) (.cons _ _ _ _ _ V0 (.nil _))).mono fun e W' ⟨x, he, hv, bel⟩ => ?_
  case cond =>
    have hb : ∀ i, i < l0_4 → f0_4 i = [.v (.int .u8 (intAt (f0_4 i)))] := fun i hi => (row_int (hr0_4 i hi)).1
    exact ⟨hb, ⟨⟨fun i hi => bounds_u8 (row_int (hr0_4 i hi)).2, bounds_u8 w0_0, bounds_u8 w0_1, bounds_u8 w0_2, bounds_u8 w0_3⟩, bounds_u8 w0_5, bounds_u8 w0_6⟩⟩
  subst he
  cases vrel_v hv
  exact ⟨_, rfl, _, _, _, [], _, [], hW', trodAll_mk1 (shut_bool Try.underlying4 _), (trodAll_cons_mk (Below.trod laidOut (by kernel_rfl) (of_decide_eq_true (by kernel_rfl)) k0 bel lt0) trodAll_mk0), rfl, bel.frame _, fun h => by cases h⟩
theorem over : Rows.monitorNeededRow.holds Try.pinned (OpenSpec.ofChange Rows.monitorNeededSpec) :=
  OpenClaim.holds_of_wide 8 Try.f8 rfl rfl rfl rfl rfl rfl rfl ⟨rfl, rfl, rfl, rfl, rfl⟩ rfl rfl rfl rfl rfl (by kernel_rfl) Try.func8 (by kernel_rfl)
    (of_decide_eq_true (by kernel_rfl)) (by unfold Func.isWrapper; first | (rw [if_pos (by decide +kernel)]; kernel_rfl) | (rw [if_neg (by decide +kernel)]; exact ⟨rfl, rfl⟩))
    (fun os started H enc _ => lifted os started H enc)
theorem proved : Rows.MonitorNeededSaid := over
end Go.Proofs.Ytlofmgdjnaajjaa.monitorNeeded
namespace Go.Proofs.Ytlofmgdjnaajjaa
/-- The row, under a short name, for the claim. -/
theorem monitorNeeded_holds : Rows.MonitorNeededSaid := monitorNeeded.proved
#print axioms monitorNeeded_holds
end Go.Proofs.Ytlofmgdjnaajjaa
