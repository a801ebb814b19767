/- How calls are taken, and what the types are. -/
import Derived.Test.YtmfoddeecplibaaChecked
import Derived.Test.YtmfoddeecplibaaEK
import Derived.Test.YtmfoddeecplibaaJ0
set_option linter.unusedVariables false
set_option maxRecDepth 100000
namespace Go.Ev.R
open Go Go.Ev Go.Proofs
def MdT (f : FuncId) : Ev.Mode := if [17].contains f then .step else if [].contains f then .look else if [].contains f then .give else .plain
def Md : FuncId → FuncId → Ev.Mode := fun _ f => MdT f
def NN : Nat := 9223372036854775807
noncomputable def Rn (n : Nat) (f : FuncId) (args : List V) (h : Hp) : Option (V × Hp) := run Try.prog Md joinExt NN n f args h
noncomputable def Kn (f n : Nat) : Cfg := ⟨Try.prog, Md f, run Try.prog Md joinExt NN n⟩
noncomputable def Pn (n : Nat) (f : FuncId) (args : List V) : Option V := (Kn 0 n).pureN f args
theorem Kn_P {f n : Nat} : (Kn f n).P = Try.prog := rfl
theorem Kn_pure {f g n : Nat} {args : List V} : (Kn f n).pureN g args = Pn n g args := rfl
theorem Kn_call {f g n : Nat} {args : List V} {h : Hp} : (Kn f n).call g args h = Rn n g args h := rfl
theorem Kn_mode {f g n : Nat} : (Kn f n).mode g = MdT g := rfl
theorem fnP {n : Nat} {f : FuncId} {fn : Func} {body : Code} {args : List V} {r : V}
    (hx : joinExt f = none) (hfn : Try.prog.funcs[f]? = some fn) (hk : fnOk (Md f) fn args.length = true) (hb : fn.body = some body)
    (H : ∀ R, Hd (R = r) → wp (Kn f n) NN (Qf Try.prog fn.results.toList (Frz (resSh Try.prog f) R)) [] body (envOf args) ⟨fun _ => none, 0⟩) :
    Pn (n + 1) f args = some r := pureN_wp hx hfn hk hb (H r rfl)
theorem fnR {n : Nat} {f : FuncId} {fn : Func} {body : Code} {args : List V} {h : Hp} {Post : V → Hp → Prop}
    (hx : joinExt f = none) (hfn : Try.prog.funcs[f]? = some fn) (hk : fnOk (Md f) fn args.length = true) (hb : fn.body = some body)
    (H : wp (Kn f n) NN (Qf Try.prog fn.results.toList Post) [] body (envOf args) h) :
    ∃ r h', Rn (n + 1) f args h = some (r, h') ∧ Post r h' := step_wp hx hfn hk hb H
theorem par_of {f : FuncId} {fn : Func} (h : Try.prog.funcs[f]? = some fn) : parSh Try.prog f = fn.params.toList.map (shT Try.prog 8) := by simp only [parSh, h]
theorem res_of {f : FuncId} {fn : Func} (h : Try.prog.funcs[f]? = some fn) : resSh Try.prog f = fn.resultTypes.toList.map (shT Try.prog 8) := by simp only [resSh, h]
attribute [go_sem] Kn_P Kn_pure Kn_call Kn_mode
theorem bdK_58 : Ev.bdK Try.prog 58 = some ([.lit (.int .i64 (0)), .lit (.int .i64 (0)), .lit (.int .i64 (0)), .lit (.int .i64 (0)), .lit (.int .i64 (0))], [(0, 1), (1, 1), (2, 1), (3, 1), (4, 1)]) := by kernel_rfl
theorem bsK_49 : Ev.bsK Try.prog 49 = some (1, [.lit (.string ByteArray.empty)]) := by kernel_rfl
theorem apK_25 : Ev.apK Try.prog 25 = some (1, 8, [.lit (.int .i64 (0))]) := by kernel_rfl
theorem apK_32 : Ev.apK Try.prog 32 = some (8, 64, [.lit (.bool false), .lit (.int .i64 (0)), .lit (.bool false), .lit (.int .i64 (0)), .lit (.int .i64 (0)), .lit (.int .i64 (0)), .lit (.int .i64 (0)), .lit (.int .i64 (0))]) := by kernel_rfl
theorem apK_33 : Ev.apK Try.prog 33 = some (5, 40, [.lit (.int .i64 (0)), .lit (.int .i64 (0)), .lit (.int .i64 (0)), .lit (.int .i64 (0)), .lit (.bool false)]) := by kernel_rfl
theorem apK_34 : Ev.apK Try.prog 34 = some (3, 24, [.lit (.int .i64 (0)), .lit (.int .i64 (0)), .lit (.int .i64 (0))]) := by kernel_rfl
theorem apK_49 : Ev.apK Try.prog 49 = some (1, 16, [.lit (.string ByteArray.empty)]) := by kernel_rfl
theorem apK_76 : Ev.apK Try.prog 76 = some (1, 1, [.lit (.int .u8 (0))]) := by kernel_rfl
theorem und_4 : Try.prog.underlying 4 = some .bool := by kernel_rfl
theorem und_9 : Try.prog.underlying 9 = some .string := by kernel_rfl
theorem und_22 : Try.prog.underlying 22 = some (.slice 68) := by kernel_rfl
theorem und_23 : Try.prog.underlying 23 = some (.slice 72) := by kernel_rfl
theorem und_24 : Try.prog.underlying 24 = some (.slice 95) := by kernel_rfl
theorem und_25 : Try.prog.underlying 25 = some (.slice 3) := by kernel_rfl
theorem und_32 : Try.prog.underlying 32 = some (.slice 60) := by kernel_rfl
theorem und_33 : Try.prog.underlying 33 = some (.slice 70) := by kernel_rfl
theorem und_34 : Try.prog.underlying 34 = some (.slice 93) := by kernel_rfl
theorem und_49 : Try.prog.underlying 49 = some (.slice 9) := by kernel_rfl
theorem und_76 : Try.prog.underlying 76 = some (.slice 5) := by kernel_rfl
theorem shT_3 : shT Try.prog 8 3 = [.leaf] := by kernel_rfl
theorem shT_4 : shT Try.prog 8 4 = [.leaf] := by kernel_rfl
theorem shT_8 : shT Try.prog 8 8 = [.leaf, .leaf, .leaf, .leaf] := by kernel_rfl
theorem shT_9 : shT Try.prog 8 9 = [.leaf] := by kernel_rfl
theorem shT_10 : shT Try.prog 8 10 = [.leaf] := by kernel_rfl
theorem shT_11 : shT Try.prog 8 11 = [.leaf] := by kernel_rfl
theorem shT_14 : shT Try.prog 8 14 = [.leaf, .leaf] := by kernel_rfl
theorem shT_15 : shT Try.prog 8 15 = [.leaf] := by kernel_rfl
theorem shT_16 : shT Try.prog 8 16 = [.leaf] := by kernel_rfl
theorem shT_17 : shT Try.prog 8 17 = [.leaf] := by kernel_rfl
theorem shT_19 : shT Try.prog 8 19 = [.leaf] := by kernel_rfl
theorem shT_22 : shT Try.prog 8 22 = [.slc 8 [.leaf, .leaf, .leaf, .leaf, .leaf, .leaf, .leaf, .leaf]] := by kernel_rfl
theorem shT_23 : shT Try.prog 8 23 = [.slc 5 [.leaf, .leaf, .leaf, .leaf, .leaf]] := by kernel_rfl
theorem shT_24 : shT Try.prog 8 24 = [.slc 3 [.leaf, .leaf, .leaf]] := by kernel_rfl
theorem shT_25 : shT Try.prog 8 25 = [.slc 1 [.leaf]] := by kernel_rfl
theorem shT_27 : shT Try.prog 8 27 = [.slc 3 [.leaf, .leaf, .leaf], .slc 1 [.leaf]] := by kernel_rfl
theorem shT_29 : shT Try.prog 8 29 = [.leaf, .leaf, .slc 8 [.leaf, .leaf, .leaf, .leaf, .leaf, .leaf, .leaf, .leaf], .slc 5 [.leaf, .leaf, .leaf, .leaf, .leaf], .slc 3 [.leaf, .leaf, .leaf], .slc 1 [.leaf], .leaf, .leaf, .leaf, .leaf, .leaf] := by kernel_rfl
theorem shT_32 : shT Try.prog 8 32 = [.slc 8 [.leaf, .leaf, .leaf, .leaf, .leaf, .leaf, .leaf, .leaf]] := by kernel_rfl
theorem shT_33 : shT Try.prog 8 33 = [.slc 5 [.leaf, .leaf, .leaf, .leaf, .leaf]] := by kernel_rfl
theorem shT_34 : shT Try.prog 8 34 = [.slc 3 [.leaf, .leaf, .leaf]] := by kernel_rfl
theorem shT_36 : shT Try.prog 8 36 = [.slc 3 [.leaf, .leaf, .leaf], .slc 1 [.leaf]] := by kernel_rfl
theorem shT_38 : shT Try.prog 8 38 = [.leaf, .leaf, .slc 8 [.leaf, .leaf, .leaf, .leaf, .leaf, .leaf, .leaf, .leaf], .slc 5 [.leaf, .leaf, .leaf, .leaf, .leaf], .slc 3 [.leaf, .leaf, .leaf], .slc 1 [.leaf], .leaf, .leaf, .leaf, .leaf, .leaf] := by kernel_rfl
theorem shT_49 : shT Try.prog 8 49 = [.slc 1 [.leaf]] := by kernel_rfl
theorem shT_58 : shT Try.prog 8 58 = [.leaf, .leaf, .leaf, .leaf, .leaf] := by kernel_rfl
theorem shT_60 : shT Try.prog 8 60 = [.leaf, .leaf, .leaf, .leaf, .leaf, .leaf, .leaf, .leaf] := by kernel_rfl
theorem shT_66 : shT Try.prog 8 66 = [.leaf, .leaf, .leaf, .leaf, .leaf] := by kernel_rfl
theorem shT_68 : shT Try.prog 8 68 = [.leaf, .leaf, .leaf, .leaf, .leaf, .leaf, .leaf, .leaf] := by kernel_rfl
theorem shT_70 : shT Try.prog 8 70 = [.leaf, .leaf, .leaf, .leaf, .leaf] := by kernel_rfl
theorem shT_72 : shT Try.prog 8 72 = [.leaf, .leaf, .leaf, .leaf, .leaf] := by kernel_rfl
theorem shT_75 : shT Try.prog 8 75 = [.leaf] := by kernel_rfl
theorem shT_76 : shT Try.prog 8 76 = [.slc 1 [.leaf]] := by kernel_rfl
theorem shT_81 : shT Try.prog 8 81 = [.leaf] := by kernel_rfl
theorem shT_93 : shT Try.prog 8 93 = [.leaf, .leaf, .leaf] := by kernel_rfl
theorem shT_95 : shT Try.prog 8 95 = [.leaf, .leaf, .leaf] := by kernel_rfl
theorem shT_99 : shT Try.prog 8 99 = [.leaf] := by kernel_rfl
theorem shT_110 : shT Try.prog 8 110 = [.leaf] := by kernel_rfl
theorem tyK_3 : Ev.tyK Try.prog 3 = .one (.lit (.int .i64 (0))) := by kernel_rfl
theorem tyK_4 : Ev.tyK Try.prog 4 = .one (.lit (.bool false)) := by kernel_rfl
theorem tyK_9 : Ev.tyK Try.prog 9 = .one (.lit (.string ByteArray.empty)) := by kernel_rfl
theorem tyK_22 : Ev.tyK Try.prog 22 = .one (.lit (.slice none 0 0)) := by kernel_rfl
theorem tyK_23 : Ev.tyK Try.prog 23 = .one (.lit (.slice none 0 0)) := by kernel_rfl
theorem tyK_24 : Ev.tyK Try.prog 24 = .one (.lit (.slice none 0 0)) := by kernel_rfl
theorem tyK_25 : Ev.tyK Try.prog 25 = .one (.lit (.slice none 0 0)) := by kernel_rfl
theorem tyK_27 : Ev.tyK Try.prog 27 = .agg 2 [.lit (.slice none 0 0), .lit (.slice none 0 0)] := by kernel_rfl
theorem tyK_29 : Ev.tyK Try.prog 29 = .agg 11 [.lit (.int .i64 (0)), .lit (.string ByteArray.empty), .lit (.slice none 0 0), .lit (.slice none 0 0), .lit (.slice none 0 0), .lit (.slice none 0 0), .lit (.int .i64 (0)), .lit (.int .i64 (0)), .lit (.int .i64 (0)), .lit (.int .i64 (0)), .lit (.int .i64 (0))] := by kernel_rfl
theorem tyK_32 : Ev.tyK Try.prog 32 = .one (.lit (.slice none 0 0)) := by kernel_rfl
theorem tyK_33 : Ev.tyK Try.prog 33 = .one (.lit (.slice none 0 0)) := by kernel_rfl
theorem tyK_34 : Ev.tyK Try.prog 34 = .one (.lit (.slice none 0 0)) := by kernel_rfl
theorem tyK_36 : Ev.tyK Try.prog 36 = .agg 2 [.lit (.slice none 0 0), .lit (.slice none 0 0)] := by kernel_rfl
theorem tyK_38 : Ev.tyK Try.prog 38 = .agg 11 [.lit (.int .i64 (0)), .lit (.string ByteArray.empty), .lit (.slice none 0 0), .lit (.slice none 0 0), .lit (.slice none 0 0), .lit (.slice none 0 0), .lit (.int .i64 (0)), .lit (.int .i64 (0)), .lit (.int .i64 (0)), .lit (.int .i64 (0)), .lit (.int .i64 (0))] := by kernel_rfl
theorem tyK_58 : Ev.tyK Try.prog 58 = .agg 5 [.lit (.int .i64 (0)), .lit (.int .i64 (0)), .lit (.int .i64 (0)), .lit (.int .i64 (0)), .lit (.int .i64 (0))] := by kernel_rfl
theorem tyK_60 : Ev.tyK Try.prog 60 = .agg 8 [.lit (.bool false), .lit (.int .i64 (0)), .lit (.bool false), .lit (.int .i64 (0)), .lit (.int .i64 (0)), .lit (.int .i64 (0)), .lit (.int .i64 (0)), .lit (.int .i64 (0))] := by kernel_rfl
theorem tyK_66 : Ev.tyK Try.prog 66 = .agg 5 [.lit (.int .i64 (0)), .lit (.int .i64 (0)), .lit (.int .i64 (0)), .lit (.int .i64 (0)), .lit (.int .i64 (0))] := by kernel_rfl
theorem tyK_68 : Ev.tyK Try.prog 68 = .agg 8 [.lit (.bool false), .lit (.int .i64 (0)), .lit (.bool false), .lit (.int .i64 (0)), .lit (.int .i64 (0)), .lit (.int .i64 (0)), .lit (.int .i64 (0)), .lit (.int .i64 (0))] := by kernel_rfl
theorem tyK_70 : Ev.tyK Try.prog 70 = .agg 5 [.lit (.int .i64 (0)), .lit (.int .i64 (0)), .lit (.int .i64 (0)), .lit (.int .i64 (0)), .lit (.bool false)] := by kernel_rfl
theorem tyK_72 : Ev.tyK Try.prog 72 = .agg 5 [.lit (.int .i64 (0)), .lit (.int .i64 (0)), .lit (.int .i64 (0)), .lit (.int .i64 (0)), .lit (.bool false)] := by kernel_rfl
theorem tyK_75 : Ev.tyK Try.prog 75 = .one (.lit (.pointer none)) := by kernel_rfl
theorem tyK_76 : Ev.tyK Try.prog 76 = .one (.lit (.slice none 0 0)) := by kernel_rfl
theorem tyK_78 : Ev.tyK Try.prog 78 = .agg 2 [.lit (.pointer none), .lit (.slice none 0 0)] := by kernel_rfl
theorem tyK_93 : Ev.tyK Try.prog 93 = .agg 3 [.lit (.int .i64 (0)), .lit (.int .i64 (0)), .lit (.int .i64 (0))] := by kernel_rfl
theorem tyK_95 : Ev.tyK Try.prog 95 = .agg 3 [.lit (.int .i64 (0)), .lit (.int .i64 (0)), .lit (.int .i64 (0))] := by kernel_rfl
theorem fdK_27_0 : Ev.fdK Try.prog 27 0 = some (0, 1, false) := by kernel_rfl
theorem fdK_27_1 : Ev.fdK Try.prog 27 1 = some (1, 1, false) := by kernel_rfl
theorem fdK_29_0 : Ev.fdK Try.prog 29 0 = some (0, 1, false) := by kernel_rfl
theorem fdK_29_1 : Ev.fdK Try.prog 29 1 = some (1, 1, false) := by kernel_rfl
theorem fdK_29_2 : Ev.fdK Try.prog 29 2 = some (2, 1, false) := by kernel_rfl
theorem fdK_29_3 : Ev.fdK Try.prog 29 3 = some (3, 1, false) := by kernel_rfl
theorem fdK_29_4 : Ev.fdK Try.prog 29 4 = some (4, 2, true) := by kernel_rfl
theorem fdK_29_5 : Ev.fdK Try.prog 29 5 = some (6, 1, false) := by kernel_rfl
theorem fdK_29_6 : Ev.fdK Try.prog 29 6 = some (7, 1, false) := by kernel_rfl
theorem fdK_29_7 : Ev.fdK Try.prog 29 7 = some (8, 1, false) := by kernel_rfl
theorem fdK_29_8 : Ev.fdK Try.prog 29 8 = some (9, 1, false) := by kernel_rfl
theorem fdK_29_9 : Ev.fdK Try.prog 29 9 = some (10, 1, false) := by kernel_rfl
theorem fdK_36_0 : Ev.fdK Try.prog 36 0 = some (0, 1, false) := by kernel_rfl
theorem fdK_36_1 : Ev.fdK Try.prog 36 1 = some (1, 1, false) := by kernel_rfl
theorem fdK_38_0 : Ev.fdK Try.prog 38 0 = some (0, 1, false) := by kernel_rfl
theorem fdK_38_1 : Ev.fdK Try.prog 38 1 = some (1, 1, false) := by kernel_rfl
theorem fdK_38_2 : Ev.fdK Try.prog 38 2 = some (2, 1, false) := by kernel_rfl
theorem fdK_38_3 : Ev.fdK Try.prog 38 3 = some (3, 1, false) := by kernel_rfl
theorem fdK_38_4 : Ev.fdK Try.prog 38 4 = some (4, 2, true) := by kernel_rfl
theorem fdK_38_5 : Ev.fdK Try.prog 38 5 = some (6, 1, false) := by kernel_rfl
theorem fdK_38_6 : Ev.fdK Try.prog 38 6 = some (7, 1, false) := by kernel_rfl
theorem fdK_38_7 : Ev.fdK Try.prog 38 7 = some (8, 1, false) := by kernel_rfl
theorem fdK_38_8 : Ev.fdK Try.prog 38 8 = some (9, 1, false) := by kernel_rfl
theorem fdK_38_9 : Ev.fdK Try.prog 38 9 = some (10, 1, false) := by kernel_rfl
theorem fdK_58_0 : Ev.fdK Try.prog 58 0 = some (0, 1, false) := by kernel_rfl
theorem fdK_58_1 : Ev.fdK Try.prog 58 1 = some (1, 1, false) := by kernel_rfl
theorem fdK_58_2 : Ev.fdK Try.prog 58 2 = some (2, 1, false) := by kernel_rfl
theorem fdK_58_3 : Ev.fdK Try.prog 58 3 = some (3, 1, false) := by kernel_rfl
theorem fdK_58_4 : Ev.fdK Try.prog 58 4 = some (4, 1, false) := by kernel_rfl
theorem fdK_60_0 : Ev.fdK Try.prog 60 0 = some (0, 1, false) := by kernel_rfl
theorem fdK_60_1 : Ev.fdK Try.prog 60 1 = some (1, 1, false) := by kernel_rfl
theorem fdK_60_2 : Ev.fdK Try.prog 60 2 = some (2, 1, false) := by kernel_rfl
theorem fdK_60_3 : Ev.fdK Try.prog 60 3 = some (3, 5, true) := by kernel_rfl
theorem fdK_66_0 : Ev.fdK Try.prog 66 0 = some (0, 1, false) := by kernel_rfl
theorem fdK_66_1 : Ev.fdK Try.prog 66 1 = some (1, 1, false) := by kernel_rfl
theorem fdK_66_2 : Ev.fdK Try.prog 66 2 = some (2, 1, false) := by kernel_rfl
theorem fdK_66_3 : Ev.fdK Try.prog 66 3 = some (3, 1, false) := by kernel_rfl
theorem fdK_66_4 : Ev.fdK Try.prog 66 4 = some (4, 1, false) := by kernel_rfl
theorem fdK_68_0 : Ev.fdK Try.prog 68 0 = some (0, 1, false) := by kernel_rfl
theorem fdK_68_1 : Ev.fdK Try.prog 68 1 = some (1, 1, false) := by kernel_rfl
theorem fdK_68_2 : Ev.fdK Try.prog 68 2 = some (2, 1, false) := by kernel_rfl
theorem fdK_68_3 : Ev.fdK Try.prog 68 3 = some (3, 5, true) := by kernel_rfl
theorem fdK_70_0 : Ev.fdK Try.prog 70 0 = some (0, 1, false) := by kernel_rfl
theorem fdK_70_1 : Ev.fdK Try.prog 70 1 = some (1, 1, false) := by kernel_rfl
theorem fdK_70_2 : Ev.fdK Try.prog 70 2 = some (2, 1, false) := by kernel_rfl
theorem fdK_70_3 : Ev.fdK Try.prog 70 3 = some (3, 1, false) := by kernel_rfl
theorem fdK_70_4 : Ev.fdK Try.prog 70 4 = some (4, 1, false) := by kernel_rfl
theorem fdK_72_0 : Ev.fdK Try.prog 72 0 = some (0, 1, false) := by kernel_rfl
theorem fdK_72_1 : Ev.fdK Try.prog 72 1 = some (1, 1, false) := by kernel_rfl
theorem fdK_72_2 : Ev.fdK Try.prog 72 2 = some (2, 1, false) := by kernel_rfl
theorem fdK_72_3 : Ev.fdK Try.prog 72 3 = some (3, 1, false) := by kernel_rfl
theorem fdK_72_4 : Ev.fdK Try.prog 72 4 = some (4, 1, false) := by kernel_rfl
theorem fdK_78_0 : Ev.fdK Try.prog 78 0 = some (0, 1, false) := by kernel_rfl
theorem fdK_78_1 : Ev.fdK Try.prog 78 1 = some (1, 1, false) := by kernel_rfl
theorem fdK_93_0 : Ev.fdK Try.prog 93 0 = some (0, 1, false) := by kernel_rfl
theorem fdK_93_1 : Ev.fdK Try.prog 93 1 = some (1, 1, false) := by kernel_rfl
theorem fdK_93_2 : Ev.fdK Try.prog 93 2 = some (2, 1, false) := by kernel_rfl
theorem fdK_95_0 : Ev.fdK Try.prog 95 0 = some (0, 1, false) := by kernel_rfl
theorem fdK_95_1 : Ev.fdK Try.prog 95 1 = some (1, 1, false) := by kernel_rfl
theorem fdK_95_2 : Ev.fdK Try.prog 95 2 = some (2, 1, false) := by kernel_rfl
theorem slK_22 : Ev.slK Try.prog 22 = some 8 := by kernel_rfl
theorem slK_23 : Ev.slK Try.prog 23 = some 5 := by kernel_rfl
theorem slK_24 : Ev.slK Try.prog 24 = some 3 := by kernel_rfl
theorem slK_25 : Ev.slK Try.prog 25 = some 1 := by kernel_rfl
theorem slK_32 : Ev.slK Try.prog 32 = some 8 := by kernel_rfl
theorem slK_33 : Ev.slK Try.prog 33 = some 5 := by kernel_rfl
theorem slK_34 : Ev.slK Try.prog 34 = some 3 := by kernel_rfl
theorem slK_49 : Ev.slK Try.prog 49 = some 1 := by kernel_rfl
theorem slK_76 : Ev.slK Try.prog 76 = some 1 := by kernel_rfl
attribute [go_sem] bdK_58 bsK_49 apK_25 apK_32 apK_33 apK_34 apK_49 apK_76 und_4 und_9 und_22 und_23 und_24 und_25 und_32 und_33 und_34 und_49 und_76 tyK_3 tyK_4 tyK_9 tyK_22 tyK_23 tyK_24 tyK_25 tyK_27 tyK_29 tyK_32 tyK_33 tyK_34 tyK_36 tyK_38 tyK_58 tyK_60 tyK_66 tyK_68 tyK_70 tyK_72 tyK_75 tyK_76 tyK_78 tyK_93 tyK_95 fdK_27_0 fdK_27_1 fdK_29_0 fdK_29_1 fdK_29_2 fdK_29_3 fdK_29_4 fdK_29_5 fdK_29_6 fdK_29_7 fdK_29_8 fdK_29_9 fdK_36_0 fdK_36_1 fdK_38_0 fdK_38_1 fdK_38_2 fdK_38_3 fdK_38_4 fdK_38_5 fdK_38_6 fdK_38_7 fdK_38_8 fdK_38_9 fdK_58_0 fdK_58_1 fdK_58_2 fdK_58_3 fdK_58_4 fdK_60_0 fdK_60_1 fdK_60_2 fdK_60_3 fdK_66_0 fdK_66_1 fdK_66_2 fdK_66_3 fdK_66_4 fdK_68_0 fdK_68_1 fdK_68_2 fdK_68_3 fdK_70_0 fdK_70_1 fdK_70_2 fdK_70_3 fdK_70_4 fdK_72_0 fdK_72_1 fdK_72_2 fdK_72_3 fdK_72_4 fdK_78_0 fdK_78_1 fdK_93_0 fdK_93_1 fdK_93_2 fdK_95_0 fdK_95_1 fdK_95_2 slK_22 slK_23 slK_24 slK_25 slK_32 slK_33 slK_34 slK_49 slK_76
theorem par_2 : parSh Try.prog 2 = [] := (par_of Try.func2).trans (show [] = _ from by rfl)
theorem res_2 : resSh Try.prog 2 = [] := (res_of Try.func2).trans (show [] = _ from by rfl)
theorem md_2 : MdT 2 = .plain := rfl
theorem par_3 : parSh Try.prog 3 = [[.leaf, .leaf, .slc 8 [.leaf, .leaf, .leaf, .leaf, .leaf, .leaf, .leaf, .leaf], .slc 5 [.leaf, .leaf, .leaf, .leaf, .leaf], .slc 3 [.leaf, .leaf, .leaf], .slc 1 [.leaf], .leaf, .leaf, .leaf, .leaf, .leaf]] := (par_of Try.func3).trans (show [shT Try.prog 8 29] = _ from by simp only [shT_29])
theorem res_3 : resSh Try.prog 3 = [[.leaf]] := (res_of Try.func3).trans (show [shT Try.prog 8 4] = _ from by simp only [shT_4])
theorem md_3 : MdT 3 = .plain := rfl
theorem par_4 : parSh Try.prog 4 = [[.leaf, .leaf, .slc 8 [.leaf, .leaf, .leaf, .leaf, .leaf, .leaf, .leaf, .leaf], .slc 5 [.leaf, .leaf, .leaf, .leaf, .leaf], .slc 3 [.leaf, .leaf, .leaf], .slc 1 [.leaf], .leaf, .leaf, .leaf, .leaf, .leaf], [.leaf]] := (par_of Try.func4).trans (show [shT Try.prog 8 29, shT Try.prog 8 3] = _ from by simp only [shT_3, shT_29])
theorem res_4 : resSh Try.prog 4 = [[.leaf]] := (res_of Try.func4).trans (show [shT Try.prog 8 3] = _ from by simp only [shT_3])
theorem md_4 : MdT 4 = .plain := rfl
theorem par_5 : parSh Try.prog 5 = [[.leaf, .leaf, .slc 8 [.leaf, .leaf, .leaf, .leaf, .leaf, .leaf, .leaf, .leaf], .slc 5 [.leaf, .leaf, .leaf, .leaf, .leaf], .slc 3 [.leaf, .leaf, .leaf], .slc 1 [.leaf], .leaf, .leaf, .leaf, .leaf, .leaf]] := (par_of Try.func5).trans (show [shT Try.prog 8 38] = _ from by simp only [shT_38])
theorem res_5 : resSh Try.prog 5 = [[.leaf]] := (res_of Try.func5).trans (show [shT Try.prog 8 9] = _ from by simp only [shT_9])
theorem md_5 : MdT 5 = .plain := rfl
theorem par_6 : parSh Try.prog 6 = [[.leaf, .leaf, .slc 8 [.leaf, .leaf, .leaf, .leaf, .leaf, .leaf, .leaf, .leaf], .slc 5 [.leaf, .leaf, .leaf, .leaf, .leaf], .slc 3 [.leaf, .leaf, .leaf], .slc 1 [.leaf], .leaf, .leaf, .leaf, .leaf, .leaf]] := (par_of Try.func6).trans (show [shT Try.prog 8 29] = _ from by simp only [shT_29])
theorem res_6 : resSh Try.prog 6 = [[.leaf, .leaf, .slc 8 [.leaf, .leaf, .leaf, .leaf, .leaf, .leaf, .leaf, .leaf], .slc 5 [.leaf, .leaf, .leaf, .leaf, .leaf], .slc 3 [.leaf, .leaf, .leaf], .slc 1 [.leaf], .leaf, .leaf, .leaf, .leaf, .leaf]] := (res_of Try.func6).trans (show [shT Try.prog 8 38] = _ from by simp only [shT_38])
theorem md_6 : MdT 6 = .plain := rfl
theorem par_7 : parSh Try.prog 7 = [[.leaf, .leaf, .slc 8 [.leaf, .leaf, .leaf, .leaf, .leaf, .leaf, .leaf, .leaf], .slc 5 [.leaf, .leaf, .leaf, .leaf, .leaf], .slc 3 [.leaf, .leaf, .leaf], .slc 1 [.leaf], .leaf, .leaf, .leaf, .leaf, .leaf]] := (par_of Try.func7).trans (show [shT Try.prog 8 38] = _ from by simp only [shT_38])
theorem res_7 : resSh Try.prog 7 = [[.leaf]] := (res_of Try.func7).trans (show [shT Try.prog 8 9] = _ from by simp only [shT_9])
theorem md_7 : MdT 7 = .plain := rfl
theorem par_8 : parSh Try.prog 8 = [[.leaf, .leaf, .slc 8 [.leaf, .leaf, .leaf, .leaf, .leaf, .leaf, .leaf, .leaf], .slc 5 [.leaf, .leaf, .leaf, .leaf, .leaf], .slc 3 [.leaf, .leaf, .leaf], .slc 1 [.leaf], .leaf, .leaf, .leaf, .leaf, .leaf], [.leaf, .leaf, .slc 8 [.leaf, .leaf, .leaf, .leaf, .leaf, .leaf, .leaf, .leaf], .slc 5 [.leaf, .leaf, .leaf, .leaf, .leaf], .slc 3 [.leaf, .leaf, .leaf], .slc 1 [.leaf], .leaf, .leaf, .leaf, .leaf, .leaf]] := (par_of Try.func8).trans (show [shT Try.prog 8 38, shT Try.prog 8 38] = _ from by simp only [shT_38])
theorem res_8 : resSh Try.prog 8 = [[.leaf]] := (res_of Try.func8).trans (show [shT Try.prog 8 4] = _ from by simp only [shT_4])
theorem md_8 : MdT 8 = .plain := rfl
theorem par_9 : parSh Try.prog 9 = [[.slc 8 [.leaf, .leaf, .leaf, .leaf, .leaf, .leaf, .leaf, .leaf]], [.leaf]] := (par_of Try.func9).trans (show [shT Try.prog 8 22, shT Try.prog 8 3] = _ from by simp only [shT_3, shT_22])
theorem res_9 : resSh Try.prog 9 = [[.leaf]] := (res_of Try.func9).trans (show [shT Try.prog 8 3] = _ from by simp only [shT_3])
theorem md_9 : MdT 9 = .plain := rfl
theorem par_10 : parSh Try.prog 10 = [[.slc 5 [.leaf, .leaf, .leaf, .leaf, .leaf]], [.leaf]] := (par_of Try.func10).trans (show [shT Try.prog 8 23, shT Try.prog 8 3] = _ from by simp only [shT_3, shT_23])
theorem res_10 : resSh Try.prog 10 = [[.leaf]] := (res_of Try.func10).trans (show [shT Try.prog 8 3] = _ from by simp only [shT_3])
theorem md_10 : MdT 10 = .plain := rfl
theorem par_11 : parSh Try.prog 11 = [[.slc 3 [.leaf, .leaf, .leaf], .slc 1 [.leaf]], [.leaf]] := (par_of Try.func11).trans (show [shT Try.prog 8 27, shT Try.prog 8 3] = _ from by simp only [shT_3, shT_27])
theorem res_11 : resSh Try.prog 11 = [[.leaf]] := (res_of Try.func11).trans (show [shT Try.prog 8 3] = _ from by simp only [shT_3])
theorem md_11 : MdT 11 = .plain := rfl
theorem par_12 : parSh Try.prog 12 = [[.leaf], [.slc 8 [.leaf, .leaf, .leaf, .leaf, .leaf, .leaf, .leaf, .leaf]], [.leaf]] := (par_of Try.func12).trans (show [shT Try.prog 8 3, shT Try.prog 8 32, shT Try.prog 8 3] = _ from by simp only [shT_3, shT_32])
theorem res_12 : resSh Try.prog 12 = [[.leaf]] := (res_of Try.func12).trans (show [shT Try.prog 8 3] = _ from by simp only [shT_3])
theorem md_12 : MdT 12 = .plain := rfl
theorem par_13 : parSh Try.prog 13 = [[.slc 8 [.leaf, .leaf, .leaf, .leaf, .leaf, .leaf, .leaf, .leaf]]] := (par_of Try.func13).trans (show [shT Try.prog 8 22] = _ from by simp only [shT_22])
theorem res_13 : resSh Try.prog 13 = [[.slc 8 [.leaf, .leaf, .leaf, .leaf, .leaf, .leaf, .leaf, .leaf]]] := (res_of Try.func13).trans (show [shT Try.prog 8 32] = _ from by simp only [shT_32])
theorem md_13 : MdT 13 = .plain := rfl
theorem par_14 : parSh Try.prog 14 = [[.slc 5 [.leaf, .leaf, .leaf, .leaf, .leaf]]] := (par_of Try.func14).trans (show [shT Try.prog 8 23] = _ from by simp only [shT_23])
theorem res_14 : resSh Try.prog 14 = [[.slc 5 [.leaf, .leaf, .leaf, .leaf, .leaf]]] := (res_of Try.func14).trans (show [shT Try.prog 8 33] = _ from by simp only [shT_33])
theorem md_14 : MdT 14 = .plain := rfl
theorem par_15 : parSh Try.prog 15 = [[.slc 3 [.leaf, .leaf, .leaf], .slc 1 [.leaf]]] := (par_of Try.func15).trans (show [shT Try.prog 8 27] = _ from by simp only [shT_27])
theorem res_15 : resSh Try.prog 15 = [[.slc 3 [.leaf, .leaf, .leaf], .slc 1 [.leaf]]] := (res_of Try.func15).trans (show [shT Try.prog 8 36] = _ from by simp only [shT_36])
theorem md_15 : MdT 15 = .plain := rfl
theorem par_16 : parSh Try.prog 16 = [[.leaf], [.slc 8 [.leaf, .leaf, .leaf, .leaf, .leaf, .leaf, .leaf, .leaf]], [.leaf]] := (par_of Try.func16).trans (show [shT Try.prog 8 3, shT Try.prog 8 32, shT Try.prog 8 3] = _ from by simp only [shT_3, shT_32])
theorem res_16 : resSh Try.prog 16 = [[.leaf]] := (res_of Try.func16).trans (show [shT Try.prog 8 3] = _ from by simp only [shT_3])
theorem md_16 : MdT 16 = .plain := rfl
theorem par_17 : parSh Try.prog 17 = [[.slc 1 [.leaf]], [.leaf]] := (par_of Try.func17).trans (show [shT Try.prog 8 49, shT Try.prog 8 9] = _ from by simp only [shT_9, shT_49])
theorem res_17 : resSh Try.prog 17 = [[.leaf]] := (res_of Try.func17).trans (show [shT Try.prog 8 9] = _ from by simp only [shT_9])
theorem md_17 : MdT 17 = .step := rfl
theorem par_18 : parSh Try.prog 18 = [[.slc 8 [.leaf, .leaf, .leaf, .leaf, .leaf, .leaf, .leaf, .leaf]], [.slc 8 [.leaf, .leaf, .leaf, .leaf, .leaf, .leaf, .leaf, .leaf]]] := (par_of Try.func18).trans (show [shT Try.prog 8 32, shT Try.prog 8 32] = _ from by simp only [shT_32])
theorem res_18 : resSh Try.prog 18 = [[.leaf]] := (res_of Try.func18).trans (show [shT Try.prog 8 4] = _ from by simp only [shT_4])
theorem md_18 : MdT 18 = .plain := rfl
theorem par_19 : parSh Try.prog 19 = [[.slc 5 [.leaf, .leaf, .leaf, .leaf, .leaf]], [.slc 5 [.leaf, .leaf, .leaf, .leaf, .leaf]]] := (par_of Try.func19).trans (show [shT Try.prog 8 33, shT Try.prog 8 33] = _ from by simp only [shT_33])
theorem res_19 : resSh Try.prog 19 = [[.leaf]] := (res_of Try.func19).trans (show [shT Try.prog 8 4] = _ from by simp only [shT_4])
theorem md_19 : MdT 19 = .plain := rfl
theorem par_20 : parSh Try.prog 20 = [[.slc 3 [.leaf, .leaf, .leaf], .slc 1 [.leaf]], [.slc 3 [.leaf, .leaf, .leaf], .slc 1 [.leaf]]] := (par_of Try.func20).trans (show [shT Try.prog 8 36, shT Try.prog 8 36] = _ from by simp only [shT_36])
theorem res_20 : resSh Try.prog 20 = [[.leaf]] := (res_of Try.func20).trans (show [shT Try.prog 8 4] = _ from by simp only [shT_4])
theorem md_20 : MdT 20 = .plain := rfl
theorem par_21 : parSh Try.prog 21 = [[.slc 3 [.leaf, .leaf, .leaf]], [.leaf]] := (par_of Try.func21).trans (show [shT Try.prog 8 24, shT Try.prog 8 3] = _ from by simp only [shT_3, shT_24])
theorem res_21 : resSh Try.prog 21 = [[.leaf]] := (res_of Try.func21).trans (show [shT Try.prog 8 3] = _ from by simp only [shT_3])
theorem md_21 : MdT 21 = .plain := rfl
theorem par_22 : parSh Try.prog 22 = [[.slc 1 [.leaf]], [.leaf]] := (par_of Try.func22).trans (show [shT Try.prog 8 25, shT Try.prog 8 3] = _ from by simp only [shT_3, shT_25])
theorem res_22 : resSh Try.prog 22 = [[.leaf]] := (res_of Try.func22).trans (show [shT Try.prog 8 3] = _ from by simp only [shT_3])
theorem md_22 : MdT 22 = .plain := rfl
theorem par_23 : parSh Try.prog 23 = [[.leaf], [.leaf], [.leaf]] := (par_of Try.func23).trans (show [shT Try.prog 8 3, shT Try.prog 8 3, shT Try.prog 8 3] = _ from by simp only [shT_3])
theorem res_23 : resSh Try.prog 23 = [[.leaf]] := (res_of Try.func23).trans (show [shT Try.prog 8 4] = _ from by simp only [shT_4])
theorem md_23 : MdT 23 = .plain := rfl
theorem par_24 : parSh Try.prog 24 = [[.leaf], [.slc 8 [.leaf, .leaf, .leaf, .leaf, .leaf, .leaf, .leaf, .leaf]]] := (par_of Try.func24).trans (show [shT Try.prog 8 3, shT Try.prog 8 32] = _ from by simp only [shT_3, shT_32])
theorem res_24 : resSh Try.prog 24 = [[.leaf, .leaf, .leaf, .leaf, .leaf], [.leaf]] := (res_of Try.func24).trans (show [shT Try.prog 8 58, shT Try.prog 8 3] = _ from by simp only [shT_3, shT_58])
theorem md_24 : MdT 24 = .plain := rfl
theorem par_25 : parSh Try.prog 25 = [[.leaf, .leaf, .leaf, .leaf, .leaf], [.leaf, .leaf, .leaf, .leaf, .leaf]] := (par_of Try.func25).trans (show [shT Try.prog 8 58, shT Try.prog 8 58] = _ from by simp only [shT_58])
theorem res_25 : resSh Try.prog 25 = [[.leaf]] := (res_of Try.func25).trans (show [shT Try.prog 8 4] = _ from by simp only [shT_4])
theorem md_25 : MdT 25 = .plain := rfl
theorem par_26 : parSh Try.prog 26 = [[.leaf], [.slc 8 [.leaf, .leaf, .leaf, .leaf, .leaf, .leaf, .leaf, .leaf]], [.leaf]] := (par_of Try.func26).trans (show [shT Try.prog 8 3, shT Try.prog 8 32, shT Try.prog 8 3] = _ from by simp only [shT_3, shT_32])
theorem res_26 : resSh Try.prog 26 = [[.leaf, .leaf, .leaf, .leaf, .leaf]] := (res_of Try.func26).trans (show [shT Try.prog 8 58] = _ from by simp only [shT_58])
theorem md_26 : MdT 26 = .plain := rfl
theorem par_27 : parSh Try.prog 27 = [[.leaf, .leaf, .leaf, .leaf, .leaf, .leaf, .leaf, .leaf]] := (par_of Try.func27).trans (show [shT Try.prog 8 68] = _ from by simp only [shT_68])
theorem res_27 : resSh Try.prog 27 = [[.leaf, .leaf, .leaf, .leaf, .leaf, .leaf, .leaf, .leaf]] := (res_of Try.func27).trans (show [shT Try.prog 8 60] = _ from by simp only [shT_60])
theorem md_27 : MdT 27 = .plain := rfl
theorem par_28 : parSh Try.prog 28 = [[.leaf, .leaf, .leaf, .leaf, .leaf]] := (par_of Try.func28).trans (show [shT Try.prog 8 72] = _ from by simp only [shT_72])
theorem res_28 : resSh Try.prog 28 = [[.leaf, .leaf, .leaf, .leaf, .leaf]] := (res_of Try.func28).trans (show [shT Try.prog 8 70] = _ from by simp only [shT_70])
theorem md_28 : MdT 28 = .plain := rfl
theorem par_29 : parSh Try.prog 29 = [[.slc 3 [.leaf, .leaf, .leaf]]] := (par_of Try.func29).trans (show [shT Try.prog 8 24] = _ from by simp only [shT_24])
theorem res_29 : resSh Try.prog 29 = [[.slc 3 [.leaf, .leaf, .leaf]]] := (res_of Try.func29).trans (show [shT Try.prog 8 34] = _ from by simp only [shT_34])
theorem md_29 : MdT 29 = .plain := rfl
theorem par_30 : parSh Try.prog 30 = [[.slc 1 [.leaf]]] := (par_of Try.func30).trans (show [shT Try.prog 8 25] = _ from by simp only [shT_25])
theorem res_30 : resSh Try.prog 30 = [[.slc 1 [.leaf]]] := (res_of Try.func30).trans (show [shT Try.prog 8 25] = _ from by simp only [shT_25])
theorem md_30 : MdT 30 = .plain := rfl
theorem par_31 : parSh Try.prog 31 = [[.leaf], [.leaf], [.leaf]] := (par_of Try.func31).trans (show [shT Try.prog 8 3, shT Try.prog 8 3, shT Try.prog 8 3] = _ from by simp only [shT_3])
theorem res_31 : resSh Try.prog 31 = [[.leaf]] := (res_of Try.func31).trans (show [shT Try.prog 8 4] = _ from by simp only [shT_4])
theorem md_31 : MdT 31 = .plain := rfl
theorem par_32 : parSh Try.prog 32 = [[.leaf], [.slc 8 [.leaf, .leaf, .leaf, .leaf, .leaf, .leaf, .leaf, .leaf]]] := (par_of Try.func32).trans (show [shT Try.prog 8 3, shT Try.prog 8 32] = _ from by simp only [shT_3, shT_32])
theorem res_32 : resSh Try.prog 32 = [[.leaf, .leaf, .leaf, .leaf, .leaf], [.leaf]] := (res_of Try.func32).trans (show [shT Try.prog 8 58, shT Try.prog 8 3] = _ from by simp only [shT_3, shT_58])
theorem md_32 : MdT 32 = .plain := rfl
theorem par_33 : parSh Try.prog 33 = [[.leaf, .leaf, .leaf, .leaf, .leaf], [.leaf, .leaf, .leaf, .leaf, .leaf]] := (par_of Try.func33).trans (show [shT Try.prog 8 58, shT Try.prog 8 58] = _ from by simp only [shT_58])
theorem res_33 : resSh Try.prog 33 = [[.leaf]] := (res_of Try.func33).trans (show [shT Try.prog 8 4] = _ from by simp only [shT_4])
theorem md_33 : MdT 33 = .plain := rfl
theorem par_34 : parSh Try.prog 34 = [[.leaf], [.slc 8 [.leaf, .leaf, .leaf, .leaf, .leaf, .leaf, .leaf, .leaf]], [.leaf]] := (par_of Try.func34).trans (show [shT Try.prog 8 3, shT Try.prog 8 32, shT Try.prog 8 3] = _ from by simp only [shT_3, shT_32])
theorem res_34 : resSh Try.prog 34 = [[.leaf, .leaf, .leaf, .leaf, .leaf]] := (res_of Try.func34).trans (show [shT Try.prog 8 58] = _ from by simp only [shT_58])
theorem md_34 : MdT 34 = .plain := rfl
theorem par_35 : parSh Try.prog 35 = [[.leaf], [.leaf]] := (par_of Try.func35).trans (show [shT Try.prog 8 75, shT Try.prog 8 3] = _ from by simp only [shT_3, shT_75])
theorem res_35 : resSh Try.prog 35 = [] := (res_of Try.func35).trans (show [] = _ from by rfl)
theorem md_35 : MdT 35 = .plain := rfl
theorem par_36 : parSh Try.prog 36 = [[.leaf], [.leaf]] := (par_of Try.func36).trans (show [shT Try.prog 8 75, shT Try.prog 8 9] = _ from by simp only [shT_9, shT_75])
theorem res_36 : resSh Try.prog 36 = [[.leaf], [.leaf]] := (res_of Try.func36).trans (show [shT Try.prog 8 3, shT Try.prog 8 81] = _ from by simp only [shT_3, shT_81])
theorem md_36 : MdT 36 = .plain := rfl
theorem par_37 : parSh Try.prog 37 = [[.leaf]] := (par_of Try.func37).trans (show [shT Try.prog 8 75] = _ from by simp only [shT_75])
theorem res_37 : resSh Try.prog 37 = [[.leaf]] := (res_of Try.func37).trans (show [shT Try.prog 8 9] = _ from by simp only [shT_9])
theorem md_37 : MdT 37 = .plain := rfl
theorem par_38 : parSh Try.prog 38 = [[.leaf, .leaf, .leaf, .leaf, .leaf, .leaf, .leaf, .leaf], [.leaf, .leaf, .leaf, .leaf, .leaf, .leaf, .leaf, .leaf]] := (par_of Try.func38).trans (show [shT Try.prog 8 60, shT Try.prog 8 60] = _ from by simp only [shT_60])
theorem res_38 : resSh Try.prog 38 = [[.leaf]] := (res_of Try.func38).trans (show [shT Try.prog 8 4] = _ from by simp only [shT_4])
theorem md_38 : MdT 38 = .plain := rfl
theorem par_39 : parSh Try.prog 39 = [[.leaf, .leaf, .leaf, .leaf, .leaf], [.leaf, .leaf, .leaf, .leaf, .leaf]] := (par_of Try.func39).trans (show [shT Try.prog 8 70, shT Try.prog 8 70] = _ from by simp only [shT_70])
theorem res_39 : resSh Try.prog 39 = [[.leaf]] := (res_of Try.func39).trans (show [shT Try.prog 8 4] = _ from by simp only [shT_4])
theorem md_39 : MdT 39 = .plain := rfl
theorem par_40 : parSh Try.prog 40 = [[.slc 3 [.leaf, .leaf, .leaf]], [.slc 3 [.leaf, .leaf, .leaf]]] := (par_of Try.func40).trans (show [shT Try.prog 8 34, shT Try.prog 8 34] = _ from by simp only [shT_34])
theorem res_40 : resSh Try.prog 40 = [[.leaf]] := (res_of Try.func40).trans (show [shT Try.prog 8 4] = _ from by simp only [shT_4])
theorem md_40 : MdT 40 = .plain := rfl
theorem par_41 : parSh Try.prog 41 = [[.slc 1 [.leaf]], [.slc 1 [.leaf]]] := (par_of Try.func41).trans (show [shT Try.prog 8 25, shT Try.prog 8 25] = _ from by simp only [shT_25])
theorem res_41 : resSh Try.prog 41 = [[.leaf]] := (res_of Try.func41).trans (show [shT Try.prog 8 4] = _ from by simp only [shT_4])
theorem md_41 : MdT 41 = .plain := rfl
theorem par_42 : parSh Try.prog 42 = [[.leaf, .leaf, .leaf, .leaf, .leaf], [.leaf]] := (par_of Try.func42).trans (show [shT Try.prog 8 58, shT Try.prog 8 3] = _ from by simp only [shT_3, shT_58])
theorem res_42 : resSh Try.prog 42 = [[.leaf, .leaf, .leaf, .leaf, .leaf], [.leaf]] := (res_of Try.func42).trans (show [shT Try.prog 8 58, shT Try.prog 8 4] = _ from by simp only [shT_4, shT_58])
theorem md_42 : MdT 42 = .plain := rfl
theorem par_43 : parSh Try.prog 43 = [[.leaf, .leaf, .leaf, .leaf, .leaf]] := (par_of Try.func43).trans (show [shT Try.prog 8 66] = _ from by simp only [shT_66])
theorem res_43 : resSh Try.prog 43 = [[.leaf, .leaf, .leaf, .leaf, .leaf]] := (res_of Try.func43).trans (show [shT Try.prog 8 58] = _ from by simp only [shT_58])
theorem md_43 : MdT 43 = .plain := rfl
theorem par_44 : parSh Try.prog 44 = [[.leaf, .leaf, .leaf]] := (par_of Try.func44).trans (show [shT Try.prog 8 95] = _ from by simp only [shT_95])
theorem res_44 : resSh Try.prog 44 = [[.leaf, .leaf, .leaf]] := (res_of Try.func44).trans (show [shT Try.prog 8 93] = _ from by simp only [shT_93])
theorem md_44 : MdT 44 = .plain := rfl
theorem par_45 : parSh Try.prog 45 = [[.leaf, .leaf, .leaf, .leaf, .leaf], [.leaf]] := (par_of Try.func45).trans (show [shT Try.prog 8 58, shT Try.prog 8 3] = _ from by simp only [shT_3, shT_58])
theorem res_45 : resSh Try.prog 45 = [[.leaf, .leaf, .leaf, .leaf, .leaf], [.leaf]] := (res_of Try.func45).trans (show [shT Try.prog 8 58, shT Try.prog 8 4] = _ from by simp only [shT_4, shT_58])
theorem md_45 : MdT 45 = .plain := rfl
theorem par_46 : parSh Try.prog 46 = [[.leaf]] := (par_of Try.func46).trans (show [shT Try.prog 8 75] = _ from by simp only [shT_75])
theorem res_46 : resSh Try.prog 46 = [] := (res_of Try.func46).trans (show [] = _ from by rfl)
theorem md_46 : MdT 46 = .plain := rfl
theorem par_47 : parSh Try.prog 47 = [[.leaf], [.leaf]] := (par_of Try.func47).trans (show [shT Try.prog 8 75, shT Try.prog 8 3] = _ from by simp only [shT_3, shT_75])
theorem res_47 : resSh Try.prog 47 = [] := (res_of Try.func47).trans (show [] = _ from by rfl)
theorem md_47 : MdT 47 = .plain := rfl
theorem par_48 : parSh Try.prog 48 = [[.leaf, .leaf, .leaf, .leaf, .leaf], [.leaf, .leaf, .leaf, .leaf, .leaf]] := (par_of Try.func48).trans (show [shT Try.prog 8 58, shT Try.prog 8 58] = _ from by simp only [shT_58])
theorem res_48 : resSh Try.prog 48 = [[.leaf]] := (res_of Try.func48).trans (show [shT Try.prog 8 4] = _ from by simp only [shT_4])
theorem md_48 : MdT 48 = .plain := rfl
theorem par_49 : parSh Try.prog 49 = [[.leaf, .leaf, .leaf], [.leaf, .leaf, .leaf]] := (par_of Try.func49).trans (show [shT Try.prog 8 93, shT Try.prog 8 93] = _ from by simp only [shT_93])
theorem res_49 : resSh Try.prog 49 = [[.leaf]] := (res_of Try.func49).trans (show [shT Try.prog 8 4] = _ from by simp only [shT_4])
theorem md_49 : MdT 49 = .plain := rfl
theorem par_50 : parSh Try.prog 50 = [[.leaf, .leaf, .leaf, .leaf, .leaf]] := (par_of Try.func50).trans (show [shT Try.prog 8 58] = _ from by simp only [shT_58])
theorem res_50 : resSh Try.prog 50 = [[.leaf]] := (res_of Try.func50).trans (show [shT Try.prog 8 4] = _ from by simp only [shT_4])
theorem md_50 : MdT 50 = .plain := rfl
theorem par_51 : parSh Try.prog 51 = [[.leaf, .leaf, .leaf, .leaf, .leaf]] := (par_of Try.func51).trans (show [shT Try.prog 8 58] = _ from by simp only [shT_58])
theorem res_51 : resSh Try.prog 51 = [[.leaf]] := (res_of Try.func51).trans (show [shT Try.prog 8 4] = _ from by simp only [shT_4])
theorem md_51 : MdT 51 = .plain := rfl
attribute [go_sem] par_2 res_2 md_2 par_3 res_3 md_3 par_4 res_4 md_4 par_5 res_5 md_5 par_6 res_6 md_6 par_7 res_7 md_7 par_8 res_8 md_8 par_9 res_9 md_9 par_10 res_10 md_10 par_11 res_11 md_11 par_12 res_12 md_12 par_13 res_13 md_13 par_14 res_14 md_14 par_15 res_15 md_15 par_16 res_16 md_16 par_17 res_17 md_17 par_18 res_18 md_18 par_19 res_19 md_19 par_20 res_20 md_20 par_21 res_21 md_21 par_22 res_22 md_22 par_23 res_23 md_23 par_24 res_24 md_24 par_25 res_25 md_25 par_26 res_26 md_26 par_27 res_27 md_27 par_28 res_28 md_28 par_29 res_29 md_29 par_30 res_30 md_30 par_31 res_31 md_31 par_32 res_32 md_32 par_33 res_33 md_33 par_34 res_34 md_34 par_35 res_35 md_35 par_36 res_36 md_36 par_37 res_37 md_37 par_38 res_38 md_38 par_39 res_39 md_39 par_40 res_40 md_40 par_41 res_41 md_41 par_42 res_42 md_42 par_43 res_43 md_43 par_44 res_44 md_44 par_45 res_45 md_45 par_46 res_46 md_46 par_47 res_47 md_47 par_48 res_48 md_48 par_49 res_49 md_49 par_50 res_50 md_50 par_51 res_51 md_51
end Go.Ev.R
