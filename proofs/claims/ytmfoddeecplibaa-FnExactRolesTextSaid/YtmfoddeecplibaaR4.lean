/- The roles of a bridge's ports, as text: the program's and the reference's. -/
import Derived.Test.YtmfoddeecplibaaR3
import Derived.Test.YtmfoddeecplibaaM3
set_option maxRecDepth 100000
set_option maxHeartbeats 4000000
set_option linter.unusedVariables false
set_option linter.unusedSimpArgs false
namespace Go.Ev.R
open Go Go.Ev Go.Proofs
@[go_sem] theorem join_run (n : Nat) (args : List V) (h : Hp) : Rn (n+1) 17 args h = joinG args h := rfl
def OutIs (at_ : Nat → Option Blk) (m : Nat) (out : V) (ws : List ByteArray) : Prop :=
  (out = .nilSl ∧ ws = []) ∨ ∃ b, out = .one (.ref 1 b 0 ws.length) ∧ at_ b = some ⟨1, ws.map strC⟩ ∧ 1 ≤ b ∧ b < m
@[go_sem] theorem impl_RolesText_run (n : Nat) (a_id : Int) (a_name : ByteArray) (a_ports : List Pt) (a_f : List Fent) (a_v_rows : List Vrow) (a_v_pvid : List Int) (a_ticks : Int) (a_parse : Int) (a_word : Int) (a_drops : Int) (a_vers : Int) (hl : a_ports.length ≤ 1048576) : Pn (n+7) 7 [.agg [.lit (.int .i64 a_id), .lit (.string a_name), .sl 8 (a_ports.map Pt.cs), .sl 5 (a_f.map Fent.cs), .sl 3 (a_v_rows.map Vrow.cs), .sl 1 (a_v_pvid.map intC), .lit (.int .i64 a_ticks), .lit (.int .i64 a_parse), .lit (.int .i64 a_word), .lit (.int .i64 a_drops), .lit (.int .i64 a_vers)]] = some (.str (joinB (rolesWords a_id a_ports a_ports.length) spB)) := by
  have hjl : (Lib.join ((rolesWords a_id a_ports a_ports.length).map (·.data.toList)) spB.data.toList).length ≤ 140737488355328 := by
    rw [← specText_join]
    have := specText_size a_id a_ports a_ports.length
    have e : (specText a_id a_ports a_ports.length).data.toList.length = (specText a_id a_ports a_ports.length).size := by rw [Array.length_toList]; rfl
    omega
  refine fnP rfl Try.func7 (by kernel_rfl) rfl (fun R hR => ?_)
  repeat' (first | simp (config := {contextual := true, maxSteps := 10000000}) (disch := first | assumption | omega) only [go_sem, Try.f7, ↓reduceIte, Nat.reduceEqDiff, Nat.reduceAdd, Nat.reduceSub, Nat.reduceMul, Nat.reduceLeDiff, Nat.reduceLT, Int.reduceNeg, Int.reduceToNat, Int.reduceLT, Int.reduceLE, Int.reduceEq, Int.reduceAdd, Int.reduceSub, reduceCtorEq, *] | intro _ | refine contC_split ?_ ?_ | refine contG_split ?_ ?_)
  refine wp_loop [1, 3, 7, 8] (fun j vs hp => ∃ (i : Nat) (out : V), i + j = a_ports.length ∧ vs = [.one (.ptr 11 0 0 0), out, .i64 a_ports.length, .i64 i] ∧
    OutIs hp.at_ hp.next out (rolesWords a_id a_ports i) ∧ hp.at_ 0 = some ⟨11, [[.lit (.int .i64 a_id), .lit (.string a_name), .sl 8 (a_ports.map Pt.cs), .sl 5 (a_f.map Fent.cs), .sl 3 (a_v_rows.map Vrow.cs), .sl 1 (a_v_pvid.map intC), .lit (.int .i64 a_ticks), .lit (.int .i64 a_parse), .lit (.int .i64 a_word), .lit (.int .i64 a_drops), .lit (.int .i64 a_vers)]]⟩ ∧ 1 ≤ hp.next) a_ports.length (by unfold NN; omega) ?_ ?_
  · refine ⟨0, .nilSl, by omega, ?_⟩
    repeat' (first | simp (config := {contextual := true, maxSteps := 10000000}) (disch := first | assumption | omega) only [go_sem, Try.f7, ↓reduceIte, Nat.reduceEqDiff, Nat.reduceAdd, Nat.reduceSub, Nat.reduceMul, Nat.reduceLeDiff, Nat.reduceLT, Int.reduceNeg, Int.reduceToNat, Int.reduceLT, Int.reduceLE, Int.reduceEq, Int.reduceAdd, Int.reduceSub, reduceCtorEq, *] | intro _ | refine contC_split ?_ ?_ | refine contG_split ?_ ?_)
    all_goals simp [OutIs, rolesWords]
  · intro j env a m hj hI Lp hLp
    obtain ⟨i, out, hij, he, hO, a0, hm⟩ := hI
    simp only [vals_cons, vals_nil, List.cons.injEq, and_true] at he a0 hm hO
    obtain ⟨h1, h3, h7, h8⟩ := he
    have hwl : (rolesWords a_id a_ports i).length = i := rolesWords_len
    by_cases hi : i < a_ports.length
    · have hs : rolesWords a_id a_ports (i + 1) = rolesWords a_id a_ports i ++ [wordOf (roleOf a_id a_ports i)] := rolesWords_succ
      have hs2 := Hd.mk hs
      clear hs
      have hr0 := roleOf_cases a_id a_ports i
      rcases hO with ⟨rfl, h0⟩ | ⟨b, rfl, ab, hb1, hb2⟩
      · have h02 := Hd.mk h0
        clear h0
        have hi0 := Hd.mk (show i = 0 by simpa [h02.out] using hwl.symm)
        rcases hr0 with hr | hr | hr | hr
        all_goals repeat' (first | simp (config := {contextual := true, maxSteps := 10000000}) (disch := first | assumption | omega) only [go_sem, Try.f7, ↓reduceIte, Nat.reduceEqDiff, Nat.reduceAdd, Nat.reduceSub, Nat.reduceMul, Nat.reduceLeDiff, Nat.reduceLT, Int.reduceNeg, Int.reduceToNat, Int.reduceLT, Int.reduceLE, Int.reduceEq, Int.reduceAdd, Int.reduceSub, reduceCtorEq, Int.ofNat_lt, ne_nat, *] | intro _ | refine contC_split ?_ ?_ | refine contG_split ?_ ?_)
        all_goals refine hLp.out (j - 1) _ _ (by omega) ⟨i + 1, _, by omega, rfl, ?_⟩
        all_goals refine ⟨.inr ⟨m + 1 + 1, ?_, ?_, by omega, by simp⟩, ?_, by simp⟩
        all_goals simp (disch := omega) [hs2.out, h02.out, upd, wordOf, hr, strC, ne_nat, a0]
      · rcases hr0 with hr | hr | hr | hr
        all_goals repeat' (first | simp (config := {contextual := true, maxSteps := 10000000}) (disch := first | assumption | omega) only [go_sem, Try.f7, ↓reduceIte, Nat.reduceEqDiff, Nat.reduceAdd, Nat.reduceSub, Nat.reduceMul, Nat.reduceLeDiff, Nat.reduceLT, Int.reduceNeg, Int.reduceToNat, Int.reduceLT, Int.reduceLE, Int.reduceEq, Int.reduceAdd, Int.reduceSub, reduceCtorEq, Int.ofNat_lt, ne_nat, *] | intro _ | refine contC_split ?_ ?_ | refine contG_split ?_ ?_)
        all_goals refine hLp.out (j - 1) _ _ (by omega) ⟨i + 1, _, by omega, rfl, ?_⟩
        all_goals refine ⟨.inr ⟨m + 1 + 1, ?_, ?_, by omega, by simp⟩, ?_, by simp⟩
        all_goals simp (disch := omega) [hs2.out, hwl, upd, wordOf, hr, strC, ne_nat, a0]
        all_goals exact List.take_of_length_le (by simp [hwl])
    · have hi' : i = a_ports.length := by omega
      subst hi'
      rcases hO with ⟨rfl, h0⟩ | ⟨b, rfl, ab, hb1, hb2⟩
      · have h02 := Hd.mk h0
        clear h0
        repeat' (first | simp (config := {contextual := true, maxSteps := 10000000}) (disch := first | assumption | omega) only [go_sem, Try.f7, ↓reduceIte, Nat.reduceEqDiff, Nat.reduceAdd, Nat.reduceSub, Nat.reduceMul, Nat.reduceLeDiff, Nat.reduceLT, Int.reduceNeg, Int.reduceToNat, Int.reduceLT, Int.reduceLE, Int.reduceEq, Int.reduceAdd, Int.reduceSub, reduceCtorEq, Int.ofNat_lt, Nat.lt_irrefl, ne_nat, *] | intro _ | refine contC_split ?_ ?_ | refine contG_split ?_ ?_)
        rw [hR.out, h02.out]; rfl
      · have ht : List.take a_ports.length (List.map strC (rolesWords a_id a_ports a_ports.length)) = List.map strC (rolesWords a_id a_ports a_ports.length) := List.take_of_length_le (by simp [hwl])
        have hjl2 : (Lib.join ((rolesWords a_id a_ports a_ports.length).map (·.data.toList)) (⟨#[32]⟩ : ByteArray).data.toList).length ≤ 140737488355328 := hjl
        repeat' (first | simp (config := {contextual := true, maxSteps := 10000000}) (disch := first | assumption | omega) only [go_sem, Try.f7, ↓reduceIte, Nat.reduceEqDiff, Nat.reduceAdd, Nat.reduceSub, Nat.reduceMul, Nat.reduceLeDiff, Nat.reduceLT, Int.reduceNeg, Int.reduceToNat, Int.reduceLT, Int.reduceLE, Int.reduceEq, Int.reduceAdd, Int.reduceSub, reduceCtorEq, Int.ofNat_lt, Nat.lt_irrefl, ne_nat, *] | intro _ | refine contC_split ?_ ?_ | refine contG_split ?_ ?_)
        exact hR.out.symm
@[go_sem] theorem spec_RolesText_run (n : Nat) (a_id : Int) (a_name : ByteArray) (a_ports : List Pt) (a_f : List Fent) (a_v_rows : List Vrow) (a_v_pvid : List Int) (a_ticks : Int) (a_parse : Int) (a_word : Int) (a_drops : Int) (a_vers : Int) (hl : a_ports.length ≤ 1048576) : Pn (n+7) 5 [.agg [.lit (.int .i64 a_id), .lit (.string a_name), .sl 8 (a_ports.map Pt.cs), .sl 5 (a_f.map Fent.cs), .sl 3 (a_v_rows.map Vrow.cs), .sl 1 (a_v_pvid.map intC), .lit (.int .i64 a_ticks), .lit (.int .i64 a_parse), .lit (.int .i64 a_word), .lit (.int .i64 a_drops), .lit (.int .i64 a_vers)]] = some (.str (specText a_id a_ports a_ports.length)) := by
  refine fnP rfl Try.func5 (by kernel_rfl) rfl (fun R hR => ?_)
  repeat' (first | simp (config := {contextual := true, maxSteps := 10000000}) (disch := first | assumption | omega) only [go_sem, Try.f5, ↓reduceIte, Nat.reduceEqDiff, Nat.reduceAdd, Nat.reduceSub, Nat.reduceMul, Nat.reduceLeDiff, Nat.reduceLT, Int.reduceNeg, Int.reduceToNat, Int.reduceLT, Int.reduceLE, Int.reduceEq, Int.reduceAdd, Int.reduceSub, reduceCtorEq, *] | intro _ | refine contC_split ?_ ?_ | refine contG_split ?_ ?_)
  refine wp_loop [1, 3, 4] (fun j vs hp => ∃ (i : Nat), i + j = a_ports.length ∧ vs = [.one (.ptr 11 0 0 0), .str (specText a_id a_ports i), .i64 i] ∧
    hp.at_ 0 = some ⟨11, [[.lit (.int .i64 a_id), .lit (.string a_name), .sl 8 (a_ports.map Pt.cs), .sl 5 (a_f.map Fent.cs), .sl 3 (a_v_rows.map Vrow.cs), .sl 1 (a_v_pvid.map intC), .lit (.int .i64 a_ticks), .lit (.int .i64 a_parse), .lit (.int .i64 a_word), .lit (.int .i64 a_drops), .lit (.int .i64 a_vers)]]⟩ ∧ 1 ≤ hp.next) a_ports.length (by unfold NN; omega) ?_ ?_
  · refine ⟨0, by omega, ?_⟩
    repeat' (first | simp (config := {contextual := true, maxSteps := 10000000}) (disch := first | assumption | omega) only [go_sem, Try.f5, ↓reduceIte, Nat.reduceEqDiff, Nat.reduceAdd, Nat.reduceSub, Nat.reduceMul, Nat.reduceLeDiff, Nat.reduceLT, Int.reduceNeg, Int.reduceToNat, Int.reduceLT, Int.reduceLE, Int.reduceEq, Int.reduceAdd, Int.reduceSub, reduceCtorEq, *] | intro _ | refine contC_split ?_ ?_ | refine contG_split ?_ ?_)
    all_goals simp [specText]
    all_goals rfl
  · intro j env a m hj hI Lp hLp
    obtain ⟨i, hij, he, a0, hm⟩ := hI
    simp only [vals_cons, vals_nil, List.cons.injEq, and_true] at he a0 hm
    obtain ⟨h1, h3, h4⟩ := he
    by_cases hi : i < a_ports.length
    · have hsz := specText_size a_id a_ports i
      have hsz2 : (specText a_id a_ports i).size + (⟨#[32]⟩ : ByteArray).size ≤ 100000000 := by
        have : (⟨#[32]⟩ : ByteArray).size = 1 := rfl
        omega
      have hr0 := roleOf_cases a_id a_ports i
      by_cases hi0 : 0 < i
      all_goals (rcases hr0 with hr | hr | hr | hr <;> skip)
      all_goals repeat' (first | simp (config := {contextual := true, maxSteps := 10000000}) (disch := first | assumption | omega) only [go_sem, Try.f5, ↓reduceIte, Nat.reduceEqDiff, Nat.reduceAdd, Nat.reduceSub, Nat.reduceMul, Nat.reduceLeDiff, Nat.reduceLT, Int.reduceNeg, Int.reduceToNat, Int.reduceLT, Int.reduceLE, Int.reduceEq, Int.reduceAdd, Int.reduceSub, reduceCtorEq, Int.ofNat_lt, Int.natCast_pos, ByteArray.size_append, List.size_toArray, *] | intro _ | refine contC_split ?_ ?_ | refine contG_split ?_ ?_)
      all_goals refine hLp.out (j - 1) _ _ (by omega) ⟨i + 1, by omega, ?_, a0, hm⟩
      all_goals simp [specText, hi0, hr, wordOf, spB]
    · have hi' : i = a_ports.length := by omega
      subst hi'
      repeat' (first | simp (config := {contextual := true, maxSteps := 10000000}) (disch := first | assumption | omega) only [go_sem, Try.f5, ↓reduceIte, Nat.reduceEqDiff, Nat.reduceAdd, Nat.reduceSub, Nat.reduceMul, Nat.reduceLeDiff, Nat.reduceLT, Int.reduceNeg, Int.reduceToNat, Int.reduceLT, Int.reduceLE, Int.reduceEq, Int.reduceAdd, Int.reduceSub, reduceCtorEq, Int.ofNat_lt, Nat.lt_irrefl, *] | intro _ | refine contC_split ?_ ?_ | refine contG_split ?_ ?_)
      exact hR.out.symm
end Go.Ev.R
