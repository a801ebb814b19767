/- FnExactBindText returns true for every input; what it was handed reads as it did; the tables that strconv.Itoa reads are tied to the program's text. -/
import Derived.Test.YtmfoddeecplibaaDoorRows
import Derived.Test.YtmfoddeecplibaaDoorTie
import Derived.Test.YtmfoddeecplibaaDoorCards
import Derived.Test.YtmfoddeecplibaaDoorD7
import Derived.Test.YtmfoddeecplibaaDoorM4
import Derived.Test.YtmfoddeecplibaaDoorEM
import Derived.WalkKit
import Derived.ProofKit
import Derived.OpenShut
import Derived.ShutString
import Derived.ChangeOld
import Derived.Below
import Derived.SizedLaws
import Derived.LaidMore
import Derived.Stop.Joined
import Derived.Stop.LaidErr
import Derived.SevenTiedAt
namespace Go.Proofs.YtmfoddeecplibaaDoor.fnExactBindText
open Go.ChangeShapes Go.WideShapes Go.ChangeAt Go.RowKit Go.Ev
set_option linter.unusedVariables false
theorem own : ownKnob Tryd.prog.godebug = none := by kernel_rfl
theorem laidOut : laidOutB Tryd.prog = true := by kernel_rfl
theorem fitV_st {fs : List TD} {v : V} (h : FitV (.st fs) v) (hn : TD.ns fs ≠ 1) : ∃ cs, v = .agg cs ∧ FitT (.st fs) cs := by
  cases h with
  | one h => have := h.len; simp [TD.n] at this; omega
  | agg h => exact ⟨_, rfl, h⟩
theorem door_met (os : Os) (args : Array Value) : laidMetH Tryd.prog Rows.fnExactBindTextRow.laid ((World.doorLaid Tryd.prog 2000 os).forCall (fun _ _ => 0) ⟨#[], args, []⟩).memory :=
  laidMetH_of_parts3 (fuel := 8) (laidMet_of_run' 8 (by kernel_rfl) (by kernel_rfl)) (by kernel_rfl) (by kernel_rfl)
theorem tab_of {W : World} (h : laidMetH Tryd.prog Rows.fnExactBindTextRow.laid W) : TInv.T (fun r => r < W.heap.size) W := by
  rw [MakeChecks.laidMetH_plain _ _ _ (by kernel_rfl)] at h
  have h2 : laidMet Tryd.prog [("internal/strconv.uint64pow10", Lib.tabData .u64 Lib.pow10Tab)] W := by
    have e : Rows.laid_internal_strconv_uint64pow10 (H := Unit) = Lib.tabData .u64 Lib.pow10Tab := by kernel_rfl
    rw [← e]
    exact (laidMet.tail (laidMet.tail h))
  have h3 : Lib.TabIs Tryd.prog W "internal/strconv.uint64pow10" .u64 Lib.pow10Tab := Lib.tabIs_of_head (t := 86) (e := 79) (n := 20) gPow_named (by kernel_rfl) (by kernel_rfl) (by kernel_rfl) (by kernel_rfl) (by kernel_rfl) h2
  refine ⟨?_, h3⟩
  unfold Lib.TabIs World.var? at h3
  rw [gPow_named] at h3
  simp only [Option.bind_some] at h3
  split at h3
  · rename_i heq
    exact (Array.getElem?_eq_some_iff.1 heq).1
  · cases h3
set_option maxRecDepth 100000 in
theorem lifted (os : Os) (started : os.Started) (H : Type) (enc : TypeId × Value → H) :
    ReturnsInHanded {} Tryd.checked os 4 .any (fun w args => (Rows.fnExactBindTextSpec.pre enc Tryd.prog Tryd.f4 [] false w args ∧ laidMetH Tryd.prog Rows.fnExactBindTextRow.laid w) ∧ sizedMet enc Tryd.prog Tryd.f4 (OpenSpec.ofChange Rows.fnExactBindTextSpec) false w args)
      (Rows.fnExactBindTextSpec.post enc Tryd.prog Tryd.f4 false true false false) := by
  refine returnsInHanded_of_change_and (C := Tryd.checked) (X := fun w _ => laidMetH Tryd.prog Rows.fnExactBindTextRow.laid w) (fun _ _ _ hh h => h.of_heap hh) own started (by kernel_rfl) Tryd.func4
    (ChangeSpec.witness_shaped (enc := enc) (C := Tryd.checked) (os := os) (X := fun w _ => laidMetH Tryd.prog Rows.fnExactBindTextRow.laid w) false (World.doorLaid Tryd.prog 2000 os) #[.agg #[.slice none 0 0, .int .i64 0, .int .i64 0, .string ByteArray.empty, .slice none 0 0]] 8 rfl (World.shaped_of_RefB (by kernel_rfl) (by kernel_rfl)) (by kernel_rfl) (by kernel_rfl) (by kernel_rfl) (door_met os _)) ?_
  intro W base args ds gs before hval0 hW hcnd hsz0 hL _
  have hW' := hW
  obtain ⟨p, q, hA0, hV, rfl, hfz, hnd⟩ := hW
  have hA : DataW.TrodAll enc Tryd.prog W 0 (fun _ => true) true Tryd.f4.params.toList args.toList ds p := hA0
  obtain ⟨rfl, rfl⟩ := trodVars_none hV
  have hsz1 : (DataW.weightsEach Tryd.prog Tryd.f4.params.toList ds).all (· ≤ reachBytes) = true := by
    have hv0 : DataSpec.varTypes Tryd.checked.prog Rows.fnExactBindTextSpec.plain = [] := rfl
    rw [hv0] at hsz0
    have h3 : (DataW.weightsEach Tryd.checked.prog Tryd.f4.params.toList ds).all (· ≤ reachBytes) = true := by simpa using hsz0
    exact h3
  obtain ⟨d0, rfl⟩ : ∃ d0, ds = [d0] := by
    have hB : DataW.TrodAll enc Tryd.prog W 0 (fun _ => true) true [32] args.toList ds p := hA
    obtain ⟨v0, vs0, d0, ds0, p0, q0, hargs, hds, hp, h0, r0⟩ := trodAll_cons hB
    obtain ⟨_, h2, _⟩ := trodAll_nil r0
    exact ⟨d0, by rw [hds, h2]⟩
  obtain ⟨us, hf, hr⟩ := args_read (m := 8) (tds := [td_Bnd]) (by kernel_rfl) hA (fun j t v h1 h2 => hval0 j t v (by simpa using h1) (by simpa using h2)) (fun n hn => of_decide_eq_true (List.all_eq_true.1 hsz1 n hn))
  obtain ⟨a, rfl, ha⟩ : ∃ a, us = [a] ∧ FitV td_Bnd a := by
    cases hf with
    | cons h1 h2 => cases h2; exact ⟨_, rfl, h1⟩
  obtain ⟨cs, rfl, hcs⟩ := fitV_st ha (by decide)
  obtain ⟨b, rfl, g⟩ := fit_Bnd hcs
  have run := Go.Ev.D.laws_FnExactBindText_law 0 b.o b.v.k b.v.n b.v.s b.v.o g
  refine (law_calls (P := Tryd.prog) (Checked.mixed Tryd.checked) textExt_ok (m := Go.Ev.D.Md 0) run (tab_of hL) hr).mono fun e W' ⟨he, bel⟩ => ?_
  subst he
  exact ⟨_, rfl, _, _, _, [], _, [], hW', trodAll_mk1 (shut_bool Tryd.underlying4 _), trodAll_below laidOut bel (by kernel_rfl) hA, rfl, bel.frame _, fun h => by cases h⟩
theorem over : Rows.fnExactBindTextRow.holds Tryd.pinned (OpenSpec.ofChange Rows.fnExactBindTextSpec) :=
  OpenClaim.holds_of_wide 4 Tryd.f4 rfl rfl rfl rfl rfl rfl rfl ⟨rfl, rfl, rfl, rfl, rfl⟩ rfl rfl rfl rfl rfl (by kernel_rfl) Tryd.func4 (by kernel_rfl)
    (of_decide_eq_true (by kernel_rfl)) (by unfold Func.isWrapper; first | (rw [if_pos (by decide +kernel)]; kernel_rfl) | (rw [if_neg (by decide +kernel)]; exact ⟨rfl, rfl⟩))
    (fun os started H enc _ => lifted os started H enc)
theorem card : Rows.FnExactBindTextCardSaid :=
  Claim7.holds_tied_plain_at .later [] [.data, .data, .data] true (true, "b68b556c542a58586b148fee0b1dd6d0bdf69ffcaf7437fea257d1c9e441a51f") false
    over (fun _ h => by cases h) (by kernel_rfl) (fun _ h => by cases h) fnExactBindText_row_tie rfl ⟨rfl, rfl⟩ (by kernel_rfl) rfl
    (fun f fn hf hfn => by
      obtain rfl : f = 4 := Option.some.inj ((show Tryd.prog.funcNamed "loop.example/g00326/laws.FnExactBindText" = some 4 by kernel_rfl).symm.trans hf) |>.symm
      obtain rfl : fn = Tryd.f4 := (Option.some.inj (Tryd.func4.symm.trans hfn)).symm
      exact ⟨by kernel_rfl, fun j t ht => by
        rw [Tryd.params4] at ht
        have hm : t ∈ [32] := by simpa using Array.mem_of_getElem? ht
        have hall : ([32].all fun u => !Tryd.prog.wantsStandIn u) = true := by kernel_rfl
        exact (show Tryd.prog.wantsStandIn t = false by simpa using List.all_eq_true.1 hall t hm)⟩)
    (by kernel_rfl)
#print axioms card
end Go.Proofs.YtmfoddeecplibaaDoor.fnExactBindText
namespace Go.Proofs.YtmfoddeecplibaaDoor
theorem bindText_holds : Rows.FnExactBindTextCardSaid := fnExactBindText.card
end Go.Proofs.YtmfoddeecplibaaDoor
