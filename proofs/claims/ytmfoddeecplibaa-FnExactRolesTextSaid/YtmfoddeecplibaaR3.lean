/- What the laws' own functions answer of a bridge. -/
import Derived.Test.YtmfoddeecplibaaR1
import Derived.Test.YtmfoddeecplibaaR2
set_option maxRecDepth 100000
set_option maxHeartbeats 4000000
set_option linter.unusedVariables false
set_option linter.unusedSimpArgs false
namespace Go.Ev.R
open Go Go.Ev Go.Proofs
theorem szL_lo {left : Int} {n : Nat} (h : -1 ≤ left) : -1 ≤ szL left n := by unfold szL; split <;> omega
theorem szL_hi {left : Int} {n : Nat} (h : left ≤ 1048576) : szL left n ≤ 1048576 := by unfold szL; split <;> omega
theorem szL_neg {left : Int} {n : Nat} (h : left < 0) : szL left n = -1 := by unfold szL; split <;> omega
@[go_sem] theorem laws_szVtab_run (n : Nat) (a_rows : List Vrow) (a_pvid : List Int) (left : Int) (h1 : -1 ≤ left) (h2 : left ≤ 1048576) (h3 : a_rows.length ≤ 140737488355328) (h4 : a_pvid.length ≤ 140737488355328) : Pn (n+2) 11 [.agg [.sl 3 (a_rows.map Vrow.cs), .sl 1 (a_pvid.map intC)], .i64 left] = some (.i64 (szVtab ⟨a_rows, a_pvid⟩ left)) := by
  refine fnP rfl Try.func11 (by kernel_rfl) rfl (fun R hR => ?_)
  have b1 := szL_lo (n := a_rows.length) h1
  have b2 := szL_hi (n := a_rows.length) h2
  repeat' (first | simp (config := {contextual := true, maxSteps := 10000000}) (disch := first | assumption | omega) only [go_sem, Try.f11, ↓reduceIte, Nat.reduceEqDiff, Nat.reduceAdd, Nat.reduceSub, Nat.reduceMul, Nat.reduceLeDiff, Nat.reduceLT, Int.reduceNeg, Int.reduceToNat, Int.reduceLT, Int.reduceLE, Int.reduceEq, Int.reduceAdd, Int.reduceSub, reduceCtorEq, *] | intro _ | refine contC_split ?_ ?_ | refine contG_split ?_ ?_)
  all_goals (have hR2 : R = _ := hR; subst hR2)
  all_goals grind [szVtab, szL]
@[go_sem] theorem laws_szBridge_run (n : Nat) (a_id : Int) (a_name : ByteArray) (a_ports : List Pt) (a_f : List Fent) (a_v_rows : List Vrow) (a_v_pvid : List Int) (a_ticks : Int) (a_parse : Int) (a_word : Int) (a_drops : Int) (a_vers : Int) (left : Int) (h1 : -1 ≤ left) (h2 : left ≤ 1048576) (h3 : a_v_rows.length ≤ 140737488355328) (h4 : a_v_pvid.length ≤ 140737488355328) (h5 : a_ports.length ≤ 140737488355328) (h6 : a_f.length ≤ 140737488355328) (h7 : a_name.size ≤ 140737488355328) :
    Pn (n+3) 4 [.agg [.lit (.int .i64 a_id), .lit (.string a_name), .sl 8 (a_ports.map Pt.cs), .sl 5 (a_f.map Fent.cs), .sl 3 (a_v_rows.map Vrow.cs), .sl 1 (a_v_pvid.map intC), .lit (.int .i64 a_ticks), .lit (.int .i64 a_parse), .lit (.int .i64 a_word), .lit (.int .i64 a_drops), .lit (.int .i64 a_vers)], .i64 left] = some (.i64 (szBridge ⟨a_id, a_name, a_ports, a_f, ⟨a_v_rows, a_v_pvid⟩, a_ticks, a_parse, a_word, a_drops, a_vers⟩ left)) := by
  refine fnP rfl Try.func4 (by kernel_rfl) rfl (fun R hR => ?_)
  have b1 := szL_lo (n := a_ports.length) (szL_lo (n := a_name.size) h1)
  have b2 := szL_hi (n := a_ports.length) (szL_hi (n := a_name.size) h2)
  have b3 := szL_lo (n := a_f.length) b1
  have b4 := szL_hi (n := a_f.length) b2
  by_cases hn : left - a_name.size < 0
  · repeat' (first | simp (config := {contextual := true, maxSteps := 10000000}) (disch := first | assumption | omega) only [go_sem, Try.f4, ↓reduceIte, Nat.reduceEqDiff, Nat.reduceAdd, Nat.reduceSub, Nat.reduceMul, Nat.reduceLeDiff, Nat.reduceLT, Int.reduceNeg, Int.reduceToNat, Int.reduceLT, Int.reduceLE, Int.reduceEq, Int.reduceAdd, Int.reduceSub, reduceCtorEq, *] | intro _ | refine contC_split ?_ ?_ | refine contG_split ?_ ?_)
    all_goals (have hR2 : R = _ := hR; subst hR2)
    all_goals grind [szBridge, szVtab, szL]
  · have e : szL left a_name.size = left - a_name.size := by unfold szL; rw [if_neg hn]
    rw [e] at b1 b2 b3 b4
    repeat' (first | simp (config := {contextual := true, maxSteps := 10000000}) (disch := first | assumption | omega) only [go_sem, Try.f4, ↓reduceIte, Nat.reduceEqDiff, Nat.reduceAdd, Nat.reduceSub, Nat.reduceMul, Nat.reduceLeDiff, Nat.reduceLT, Int.reduceNeg, Int.reduceToNat, Int.reduceLT, Int.reduceLE, Int.reduceEq, Int.reduceAdd, Int.reduceSub, reduceCtorEq, *] | intro _ | refine contC_split ?_ ?_ | refine contG_split ?_ ?_)
    all_goals (have hR2 : R = _ := hR; subst hR2)
    all_goals grind [szBridge, szVtab, szL]
@[go_sem] theorem laws_toVtab_run (n : Nat) (a_rows : List Vrow) (a_pvid : List Int) (h3 : a_rows.length ≤ 1048576) (h4 : a_pvid.length ≤ 1048576) : Pn (n+3) 15 [.agg [.sl 3 (a_rows.map Vrow.cs), .sl 1 (a_pvid.map intC)]] = some (.agg [.sl 3 (a_rows.map Vrow.cs), .sl 1 (a_pvid.map intC)]) := by
  refine fnP rfl Try.func15 (by kernel_rfl) rfl (fun R hR => ?_)
  repeat' (first | simp (config := {contextual := true, maxSteps := 10000000}) (disch := first | assumption | omega) only [go_sem, Try.f15, ↓reduceIte, Nat.reduceEqDiff, Nat.reduceAdd, Nat.reduceSub, Nat.reduceMul, Nat.reduceLeDiff, Nat.reduceLT, Int.reduceNeg, Int.reduceToNat, Int.reduceLT, Int.reduceLE, Int.reduceEq, Int.reduceAdd, Int.reduceSub, reduceCtorEq, *] | intro _ | refine contC_split ?_ ?_ | refine contG_split ?_ ?_)
  all_goals (have hR2 : R = _ := hR; subst hR2)
  all_goals rfl
@[go_sem] theorem laws_toBridge_run (n : Nat) (a_id : Int) (a_name : ByteArray) (a_ports : List Pt) (a_f : List Fent) (a_v_rows : List Vrow) (a_v_pvid : List Int) (a_ticks : Int) (a_parse : Int) (a_word : Int) (a_drops : Int) (a_vers : Int) (h3 : a_v_rows.length ≤ 1048576) (h4 : a_v_pvid.length ≤ 1048576) (h5 : a_ports.length ≤ 1048576) (h6 : a_f.length ≤ 1048576) :
    Pn (n+4) 6 [.agg [.lit (.int .i64 a_id), .lit (.string a_name), .sl 8 (a_ports.map Pt.cs), .sl 5 (a_f.map Fent.cs), .sl 3 (a_v_rows.map Vrow.cs), .sl 1 (a_v_pvid.map intC), .lit (.int .i64 a_ticks), .lit (.int .i64 a_parse), .lit (.int .i64 a_word), .lit (.int .i64 a_drops), .lit (.int .i64 a_vers)]] = some (.agg [.lit (.int .i64 a_id), .lit (.string a_name), .sl 8 (a_ports.map Pt.cs), .sl 5 (a_f.map Fent.cs), .sl 3 (a_v_rows.map Vrow.cs), .sl 1 (a_v_pvid.map intC), .lit (.int .i64 a_ticks), .lit (.int .i64 a_parse), .lit (.int .i64 a_word), .lit (.int .i64 a_drops), .lit (.int .i64 a_vers)]) := by
  refine fnP rfl Try.func6 (by kernel_rfl) rfl (fun R hR => ?_)
  repeat' (first | simp (config := {contextual := true, maxSteps := 10000000}) (disch := first | assumption | omega) only [go_sem, Try.f6, ↓reduceIte, Nat.reduceEqDiff, Nat.reduceAdd, Nat.reduceSub, Nat.reduceMul, Nat.reduceLeDiff, Nat.reduceLT, Int.reduceNeg, Int.reduceToNat, Int.reduceLT, Int.reduceLE, Int.reduceEq, Int.reduceAdd, Int.reduceSub, reduceCtorEq, *] | intro _ | refine contC_split ?_ ?_ | refine contG_split ?_ ?_)
  all_goals (have hR2 : R = _ := hR; subst hR2)
  all_goals rfl
@[go_sem] theorem laws_eqVtab_run (n : Nat) (a_rows : List Vrow) (a_pvid : List Int) (h3 : a_rows.length ≤ 1048576) (h4 : a_pvid.length ≤ 1048576) : Pn (n+3) 20 [.agg [.sl 3 (a_rows.map Vrow.cs), .sl 1 (a_pvid.map intC)], .agg [.sl 3 (a_rows.map Vrow.cs), .sl 1 (a_pvid.map intC)]] = some (.bool true) := by
  refine fnP rfl Try.func20 (by kernel_rfl) rfl (fun R hR => ?_)
  repeat' (first | simp (config := {contextual := true, maxSteps := 10000000}) (disch := first | assumption | omega) only [go_sem, Try.f20, ↓reduceIte, Nat.reduceEqDiff, Nat.reduceAdd, Nat.reduceSub, Nat.reduceMul, Nat.reduceLeDiff, Nat.reduceLT, Int.reduceNeg, Int.reduceToNat, Int.reduceLT, Int.reduceLE, Int.reduceEq, Int.reduceAdd, Int.reduceSub, reduceCtorEq, beq_self_eq_true, *] | intro _ | refine contC_split ?_ ?_ | refine contG_split ?_ ?_)
  all_goals (have hR2 : R = _ := hR; subst hR2)
  all_goals rfl
@[go_sem] theorem laws_eqBridge_run (n : Nat) (a_id : Int) (a_name : ByteArray) (a_ports : List Pt) (a_f : List Fent) (a_v_rows : List Vrow) (a_v_pvid : List Int) (a_ticks : Int) (a_parse : Int) (a_word : Int) (a_drops : Int) (a_vers : Int) (h3 : a_v_rows.length ≤ 1048576) (h4 : a_v_pvid.length ≤ 1048576) (h5 : a_ports.length ≤ 1048576) (h6 : a_f.length ≤ 1048576) :
    Pn (n+4) 8 [.agg [.lit (.int .i64 a_id), .lit (.string a_name), .sl 8 (a_ports.map Pt.cs), .sl 5 (a_f.map Fent.cs), .sl 3 (a_v_rows.map Vrow.cs), .sl 1 (a_v_pvid.map intC), .lit (.int .i64 a_ticks), .lit (.int .i64 a_parse), .lit (.int .i64 a_word), .lit (.int .i64 a_drops), .lit (.int .i64 a_vers)], .agg [.lit (.int .i64 a_id), .lit (.string a_name), .sl 8 (a_ports.map Pt.cs), .sl 5 (a_f.map Fent.cs), .sl 3 (a_v_rows.map Vrow.cs), .sl 1 (a_v_pvid.map intC), .lit (.int .i64 a_ticks), .lit (.int .i64 a_parse), .lit (.int .i64 a_word), .lit (.int .i64 a_drops), .lit (.int .i64 a_vers)]] = some (.bool true) := by
  refine fnP rfl Try.func8 (by kernel_rfl) rfl (fun R hR => ?_)
  repeat' (first | simp (config := {contextual := true, maxSteps := 10000000}) (disch := first | assumption | omega) only [go_sem, Try.f8, ↓reduceIte, Nat.reduceEqDiff, Nat.reduceAdd, Nat.reduceSub, Nat.reduceMul, Nat.reduceLeDiff, Nat.reduceLT, Int.reduceNeg, Int.reduceToNat, Int.reduceLT, Int.reduceLE, Int.reduceEq, Int.reduceAdd, Int.reduceSub, reduceCtorEq, beq_self_eq_true, *] | intro _ | refine contC_split ?_ ?_ | refine contG_split ?_ ?_)
  all_goals (have hR2 : R = _ := hR; subst hR2)
  all_goals rfl
end Go.Ev.R
