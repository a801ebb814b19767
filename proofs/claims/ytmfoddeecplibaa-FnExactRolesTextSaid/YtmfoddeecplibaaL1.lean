/- FnExactRolesText returns true for every input; what it was handed reads as it did. -/
import Derived.Test.YtmfoddeecplibaaRows
import Derived.Test.YtmfoddeecplibaaR5
import Derived.Test.YtmfoddeecplibaaM4
import Derived.WalkKit
import Derived.ProofKit
import Derived.OpenShut
import Derived.ShutString
import Derived.ChangeOld
import Derived.Below
import Derived.SizedLaws
namespace Go.Proofs.Ytmfoddeecplibaa.fnExactRolesText
open Go.ChangeShapes Go.WideShapes Go.ChangeAt Go.RowKit Go.Ev
set_option linter.unusedVariables false
theorem own : ownKnob Try.prog.godebug = none := by kernel_rfl
theorem laidOut : laidOutB Try.prog = true := by kernel_rfl
theorem fitV_st {fs : List TD} {v : V} (h : FitV (.st fs) v) (hn : TD.ns fs ≠ 1) : ∃ cs, v = .agg cs ∧ FitT (.st fs) cs := by
  cases h with
  | one h => have := h.len; simp [TD.n] at this; omega
  | agg h => exact ⟨_, rfl, h⟩
set_option maxRecDepth 100000 in
theorem lifted (os : Os) (started : os.Started) (H : Type) (enc : TypeId × Value → H) :
    ReturnsInHanded {} Try.checked os 3 .any (Rows.fnExactRolesTextSpec.pre6 enc Try.prog Try.f3 Rows.fnExactRolesTextRow.domain false) (Rows.fnExactRolesTextSpec.post enc Try.prog Try.f3 false true false false) := by
  refine returnsInHanded_of_change_sized (C := Try.checked) own started (by kernel_rfl) Try.func3
    (ChangeSpec.witness6 (enc := enc) (C := Try.checked) false ⟨#[], #[.agg #[.int .i64 0, .string ByteArray.empty, .slice none 0 0, .slice none 0 0, .slice none 0 0, .slice none 0 0, .int .i64 0, .int .i64 0, .int .i64 0, .int .i64 0, .int .i64 0]], []⟩ 8 (by kernel_rfl) (by kernel_rfl) (by kernel_rfl) (by kernel_rfl)) ?_
  intro W base args ds gs before hval0 hW hcnd hsz0 _
  have hW' := hW
  obtain ⟨p, q, hA0, hV, rfl, hfz, hnd⟩ := hW
  have hA : DataW.TrodAll enc Try.prog W 0 (fun _ => true) true Try.f3.params.toList args.toList ds p := hA0
  obtain ⟨rfl, rfl⟩ := trodVars_none hV
  have hsz1 : (DataW.weightsEach Try.prog Try.f3.params.toList ds).all (· ≤ reachBytes) = true := by
    have hv0 : DataSpec.varTypes Try.checked.prog Rows.fnExactRolesTextSpec.plain = [] := rfl
    rw [hv0] at hsz0
    have h3 : (DataW.weightsEach Try.checked.prog Try.f3.params.toList ds).all (· ≤ reachBytes) = true := by simpa using hsz0
    exact h3
  obtain ⟨d0, rfl⟩ : ∃ d0, ds = [d0] := by
    have hB : DataW.TrodAll enc Try.prog W 0 (fun _ => true) true [29] args.toList ds p := hA
    obtain ⟨v0, vs0, d0, ds0, p0, q0, hargs, hds, hp, h0, r0⟩ := trodAll_cons hB
    obtain ⟨_, h2, _⟩ := trodAll_nil r0
    exact ⟨d0, by rw [hds, h2]⟩
  obtain ⟨us, hf, hr⟩ := args_read (m := 8) (tds := [td_Bridge]) (by kernel_rfl) hA (fun j t v h1 h2 => hval0 j t v (by simpa using h1) (by simpa using h2)) (fun n hn => of_decide_eq_true (List.all_eq_true.1 hsz1 n hn))
  obtain ⟨a, rfl, ha⟩ : ∃ a, us = [a] ∧ FitV td_Bridge a := by
    cases hf with
    | cons h1 h2 => cases h2; exact ⟨_, rfl, h1⟩
  obtain ⟨cs, rfl, hcs⟩ := fitV_st ha (by decide)
  obtain ⟨b, rfl, g1, g2, g3, g4, g5⟩ := fit_Bridge' hcs
  have hreach : reachBytes = 140737488351232 := rfl
  have run := Go.Ev.R.law_run 0 b.id b.name b.ports b.f b.v.rows b.v.pvid b.ticks b.parse b.word b.drops b.vers (by omega) (by omega) (by omega) (by omega) (by omega)
  refine (law_calls (P := Try.prog) (Checked.mixed Try.checked) joinExt_ok (m := Go.Ev.R.Md 0) run hr).mono fun e W' ⟨he, bel⟩ => ?_
  subst he
  exact ⟨_, rfl, _, _, _, [], _, [], hW', trodAll_mk1 (shut_bool Try.underlying4 _), trodAll_below laidOut bel (by kernel_rfl) hA, rfl, bel.frame _, fun h => by cases h⟩
theorem over : Rows.fnExactRolesTextRow.holds Try.pinned (OpenSpec.ofChange Rows.fnExactRolesTextSpec) :=
  OpenClaim.holds_of_wide 3 Try.f3 rfl rfl rfl rfl rfl rfl rfl ⟨rfl, rfl, rfl, rfl, rfl⟩ rfl rfl rfl rfl rfl (by kernel_rfl) Try.func3 (by kernel_rfl)
    (of_decide_eq_true (by kernel_rfl)) (by unfold Func.isWrapper; first | (rw [if_pos (by decide +kernel)]; kernel_rfl) | (rw [if_neg (by decide +kernel)]; exact ⟨rfl, rfl⟩))
    (fun os started H enc _ => lifted os started H enc)
theorem proved : Rows.FnExactRolesTextSaid := over
#print axioms proved
end Go.Proofs.Ytmfoddeecplibaa.fnExactRolesText
namespace Go.Proofs.Ytmfoddeecplibaa
theorem rolesText_holds : Rows.FnExactRolesTextSaid := fnExactRolesText.proved
end Go.Proofs.Ytmfoddeecplibaa
