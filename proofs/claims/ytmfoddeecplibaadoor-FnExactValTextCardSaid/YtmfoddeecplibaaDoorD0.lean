/- How calls are taken, and what the types are. -/
import Derived.Test.YtmfoddeecplibaaDoorChecked
import Derived.Test.YtmfoddeecplibaaDoorEK
import Derived.Test.YtmfoddeecplibaaDoorDJ
set_option linter.unusedVariables false
set_option maxRecDepth 100000
namespace Go.Ev.D
open Go Go.Ev Go.Proofs
def MdT (f : FuncId) : Ev.Mode := if [42].contains f then .step else if [].contains f then .look else if [].contains f then .give else .plain
def Md : FuncId → FuncId → Ev.Mode := fun _ f => MdT f
def NN : Nat := 9223372036854775807
noncomputable def Rn (n : Nat) (f : FuncId) (args : List V) (h : Hp) : Option (V × Hp) := run Tryd.prog Md textExt NN n f args h
noncomputable def Kn (f n : Nat) : Cfg := ⟨Tryd.prog, Md f, run Tryd.prog Md textExt NN n⟩
noncomputable def Pn (n : Nat) (f : FuncId) (args : List V) : Option V := (Kn 0 n).pureN f args
theorem Kn_P {f n : Nat} : (Kn f n).P = Tryd.prog := rfl
theorem Kn_pure {f g n : Nat} {args : List V} : (Kn f n).pureN g args = Pn n g args := rfl
theorem Kn_call {f g n : Nat} {args : List V} {h : Hp} : (Kn f n).call g args h = Rn n g args h := rfl
theorem Kn_mode {f g n : Nat} : (Kn f n).mode g = MdT g := rfl
theorem fnP {n : Nat} {f : FuncId} {fn : Func} {body : Code} {args : List V} {r : V}
    (hx : textExt f = none) (hfn : Tryd.prog.funcs[f]? = some fn) (hk : fnOk (Md f) fn args.length = true) (hb : fn.body = some body)
    (H : ∀ R, Hd (R = r) → wp (Kn f n) NN (Qf Tryd.prog fn.results.toList (Frz (resSh Tryd.prog f) R)) [] body (envOf args) ⟨fun _ => none, 0⟩) :
    Pn (n + 1) f args = some r := pureN_wp hx hfn hk hb (H r rfl)
theorem fnR {n : Nat} {f : FuncId} {fn : Func} {body : Code} {args : List V} {h : Hp} {Post : V → Hp → Prop}
    (hx : textExt f = none) (hfn : Tryd.prog.funcs[f]? = some fn) (hk : fnOk (Md f) fn args.length = true) (hb : fn.body = some body)
    (H : wp (Kn f n) NN (Qf Tryd.prog fn.results.toList Post) [] body (envOf args) h) :
    ∃ r h', Rn (n + 1) f args h = some (r, h') ∧ Post r h' := step_wp hx hfn hk hb H
theorem par_of {f : FuncId} {fn : Func} (h : Tryd.prog.funcs[f]? = some fn) : parSh Tryd.prog f = fn.params.toList.map (shT Tryd.prog 8) := by simp only [parSh, h]
theorem res_of {f : FuncId} {fn : Func} (h : Tryd.prog.funcs[f]? = some fn) : resSh Tryd.prog f = fn.resultTypes.toList.map (shT Tryd.prog 8) := by simp only [resSh, h]
attribute [go_sem] Kn_P Kn_pure Kn_call Kn_mode
theorem bdK_27 : Ev.bdK Tryd.prog 27 = some ([.lit (.int .i64 (0)), .lit (.int .i64 (0)), .lit (.string ByteArray.empty), .lit (.slice none 0 0)], [(0, 1), (1, 1), (2, 1), (3, 1)]) := by kernel_rfl
theorem bsK_63 : Ev.bsK Tryd.prog 63 = some (1, [.lit (.int .u8 (0))]) := by kernel_rfl
theorem bsK_65 : Ev.bsK Tryd.prog 65 = some (1, [.lit (.string ByteArray.empty)]) := by kernel_rfl
theorem apK_22 : Ev.apK Tryd.prog 22 = some (1, 8, [.lit (.int .i64 (0))]) := by kernel_rfl
theorem apK_45 : Ev.apK Tryd.prog 45 = some (5, 80, [.lit (.slice none 0 0), .lit (.int .i64 (0)), .lit (.int .i64 (0)), .lit (.string ByteArray.empty), .lit (.slice none 0 0)]) := by kernel_rfl
theorem apK_63 : Ev.apK Tryd.prog 63 = some (1, 1, [.lit (.int .u8 (0))]) := by kernel_rfl
theorem apK_65 : Ev.apK Tryd.prog 65 = some (1, 16, [.lit (.string ByteArray.empty)]) := by kernel_rfl
theorem cvK_2_79 : Ev.cvK Tryd.prog 2 79 = .int .u64 := by kernel_rfl
theorem cvK_3_5 : Ev.cvK Tryd.prog 3 5 = .int .u8 := by kernel_rfl
theorem cvK_3_79 : Ev.cvK Tryd.prog 3 79 = .int .u64 := by kernel_rfl
theorem cvK_3_89 : Ev.cvK Tryd.prog 3 89 = .int .u64 := by kernel_rfl
theorem cvK_5_3 : Ev.cvK Tryd.prog 5 3 = .int .i64 := by kernel_rfl
theorem cvK_63_9 : Ev.cvK Tryd.prog 63 9 = .text := by kernel_rfl
theorem cvK_79_5 : Ev.cvK Tryd.prog 79 5 = .int .u8 := by kernel_rfl
theorem cvK_79_87 : Ev.cvK Tryd.prog 79 87 = .int .u32 := by kernel_rfl
theorem cvK_87_5 : Ev.cvK Tryd.prog 87 5 = .int .u8 := by kernel_rfl
theorem cvK_89_87 : Ev.cvK Tryd.prog 89 87 = .int .u32 := by kernel_rfl
theorem und_9 : Tryd.prog.underlying 9 = some .string := by kernel_rfl
theorem und_22 : Tryd.prog.underlying 22 = some (.slice 3) := by kernel_rfl
theorem und_40 : Tryd.prog.underlying 40 = some (.slice 32) := by kernel_rfl
theorem und_45 : Tryd.prog.underlying 45 = some (.slice 36) := by kernel_rfl
theorem und_63 : Tryd.prog.underlying 63 = some (.slice 5) := by kernel_rfl
theorem und_65 : Tryd.prog.underlying 65 = some (.slice 9) := by kernel_rfl
theorem shT_2 : shT Tryd.prog 8 2 = [.leaf] := by kernel_rfl
theorem shT_3 : shT Tryd.prog 8 3 = [.leaf] := by kernel_rfl
theorem shT_4 : shT Tryd.prog 8 4 = [.leaf] := by kernel_rfl
theorem shT_9 : shT Tryd.prog 8 9 = [.leaf] := by kernel_rfl
theorem shT_22 : shT Tryd.prog 8 22 = [.slc 1 [.leaf]] := by kernel_rfl
theorem shT_24 : shT Tryd.prog 8 24 = [.leaf, .leaf, .leaf, .slc 1 [.leaf]] := by kernel_rfl
theorem shT_27 : shT Tryd.prog 8 27 = [.leaf, .leaf, .leaf, .slc 1 [.leaf]] := by kernel_rfl
theorem shT_32 : shT Tryd.prog 8 32 = [.slc 1 [.leaf], .leaf, .leaf, .leaf, .slc 1 [.leaf]] := by kernel_rfl
theorem shT_36 : shT Tryd.prog 8 36 = [.slc 1 [.leaf], .leaf, .leaf, .leaf, .slc 1 [.leaf]] := by kernel_rfl
theorem shT_40 : shT Tryd.prog 8 40 = [.slc 5 [.slc 1 [.leaf], .leaf, .leaf, .leaf, .slc 1 [.leaf]]] := by kernel_rfl
theorem shT_42 : shT Tryd.prog 8 42 = [.leaf, .leaf, .leaf, .leaf, .slc 5 [.slc 1 [.leaf], .leaf, .leaf, .leaf, .slc 1 [.leaf]]] := by kernel_rfl
theorem shT_45 : shT Tryd.prog 8 45 = [.slc 5 [.slc 1 [.leaf], .leaf, .leaf, .leaf, .slc 1 [.leaf]]] := by kernel_rfl
theorem shT_47 : shT Tryd.prog 8 47 = [.leaf, .leaf, .leaf, .leaf, .slc 5 [.slc 1 [.leaf], .leaf, .leaf, .leaf, .slc 1 [.leaf]]] := by kernel_rfl
theorem shT_63 : shT Tryd.prog 8 63 = [.slc 1 [.leaf]] := by kernel_rfl
theorem shT_65 : shT Tryd.prog 8 65 = [.slc 1 [.leaf]] := by kernel_rfl
theorem shT_69 : shT Tryd.prog 8 69 = [.leaf] := by kernel_rfl
theorem shT_74 : shT Tryd.prog 8 74 = [.leaf] := by kernel_rfl
theorem shT_79 : shT Tryd.prog 8 79 = [.leaf] := by kernel_rfl
theorem shT_87 : shT Tryd.prog 8 87 = [.leaf] := by kernel_rfl
theorem shT_89 : shT Tryd.prog 8 89 = [.leaf] := by kernel_rfl
theorem shT_91 : shT Tryd.prog 8 91 = [.leaf] := by kernel_rfl
theorem tyK_3 : Ev.tyK Tryd.prog 3 = .one (.lit (.int .i64 (0))) := by kernel_rfl
theorem tyK_5 : Ev.tyK Tryd.prog 5 = .one (.lit (.int .u8 (0))) := by kernel_rfl
theorem tyK_9 : Ev.tyK Tryd.prog 9 = .one (.lit (.string ByteArray.empty)) := by kernel_rfl
theorem tyK_22 : Ev.tyK Tryd.prog 22 = .one (.lit (.slice none 0 0)) := by kernel_rfl
theorem tyK_24 : Ev.tyK Tryd.prog 24 = .agg 4 [.lit (.int .i64 (0)), .lit (.int .i64 (0)), .lit (.string ByteArray.empty), .lit (.slice none 0 0)] := by kernel_rfl
theorem tyK_27 : Ev.tyK Tryd.prog 27 = .agg 4 [.lit (.int .i64 (0)), .lit (.int .i64 (0)), .lit (.string ByteArray.empty), .lit (.slice none 0 0)] := by kernel_rfl
theorem tyK_32 : Ev.tyK Tryd.prog 32 = .agg 5 [.lit (.slice none 0 0), .lit (.int .i64 (0)), .lit (.int .i64 (0)), .lit (.string ByteArray.empty), .lit (.slice none 0 0)] := by kernel_rfl
theorem tyK_36 : Ev.tyK Tryd.prog 36 = .agg 5 [.lit (.slice none 0 0), .lit (.int .i64 (0)), .lit (.int .i64 (0)), .lit (.string ByteArray.empty), .lit (.slice none 0 0)] := by kernel_rfl
theorem tyK_40 : Ev.tyK Tryd.prog 40 = .one (.lit (.slice none 0 0)) := by kernel_rfl
theorem tyK_42 : Ev.tyK Tryd.prog 42 = .agg 5 [.lit (.int .i64 (0)), .lit (.int .i64 (0)), .lit (.int .i64 (0)), .lit (.int .i64 (0)), .lit (.slice none 0 0)] := by kernel_rfl
theorem tyK_45 : Ev.tyK Tryd.prog 45 = .one (.lit (.slice none 0 0)) := by kernel_rfl
theorem tyK_47 : Ev.tyK Tryd.prog 47 = .agg 5 [.lit (.int .i64 (0)), .lit (.int .i64 (0)), .lit (.int .i64 (0)), .lit (.int .i64 (0)), .lit (.slice none 0 0)] := by kernel_rfl
theorem tyK_63 : Ev.tyK Tryd.prog 63 = .one (.lit (.slice none 0 0)) := by kernel_rfl
theorem tyK_69 : Ev.tyK Tryd.prog 69 = .one (.lit (.pointer none)) := by kernel_rfl
theorem tyK_71 : Ev.tyK Tryd.prog 71 = .agg 2 [.lit (.pointer none), .lit (.slice none 0 0)] := by kernel_rfl
theorem tyK_78 : Ev.tyK Tryd.prog 78 = .agg 24 [.lit (.int .u8 (0)), .lit (.int .u8 (0)), .lit (.int .u8 (0)), .lit (.int .u8 (0)), .lit (.int .u8 (0)), .lit (.int .u8 (0)), .lit (.int .u8 (0)), .lit (.int .u8 (0)), .lit (.int .u8 (0)), .lit (.int .u8 (0)), .lit (.int .u8 (0)), .lit (.int .u8 (0)), .lit (.int .u8 (0)), .lit (.int .u8 (0)), .lit (.int .u8 (0)), .lit (.int .u8 (0)), .lit (.int .u8 (0)), .lit (.int .u8 (0)), .lit (.int .u8 (0)), .lit (.int .u8 (0)), .lit (.int .u8 (0)), .lit (.int .u8 (0)), .lit (.int .u8 (0)), .lit (.int .u8 (0))] := by kernel_rfl
theorem tyK_79 : Ev.tyK Tryd.prog 79 = .one (.lit (.int .u64 (0))) := by kernel_rfl
theorem tyK_87 : Ev.tyK Tryd.prog 87 = .one (.lit (.int .u32 (0))) := by kernel_rfl
theorem tyK_88 : Ev.tyK Tryd.prog 88 = .agg 65 [.lit (.int .u8 (0)), .lit (.int .u8 (0)), .lit (.int .u8 (0)), .lit (.int .u8 (0)), .lit (.int .u8 (0)), .lit (.int .u8 (0)), .lit (.int .u8 (0)), .lit (.int .u8 (0)), .lit (.int .u8 (0)), .lit (.int .u8 (0)), .lit (.int .u8 (0)), .lit (.int .u8 (0)), .lit (.int .u8 (0)), .lit (.int .u8 (0)), .lit (.int .u8 (0)), .lit (.int .u8 (0)), .lit (.int .u8 (0)), .lit (.int .u8 (0)), .lit (.int .u8 (0)), .lit (.int .u8 (0)), .lit (.int .u8 (0)), .lit (.int .u8 (0)), .lit (.int .u8 (0)), .lit (.int .u8 (0)), .lit (.int .u8 (0)), .lit (.int .u8 (0)), .lit (.int .u8 (0)), .lit (.int .u8 (0)), .lit (.int .u8 (0)), .lit (.int .u8 (0)), .lit (.int .u8 (0)), .lit (.int .u8 (0)), .lit (.int .u8 (0)), .lit (.int .u8 (0)), .lit (.int .u8 (0)), .lit (.int .u8 (0)), .lit (.int .u8 (0)), .lit (.int .u8 (0)), .lit (.int .u8 (0)), .lit (.int .u8 (0)), .lit (.int .u8 (0)), .lit (.int .u8 (0)), .lit (.int .u8 (0)), .lit (.int .u8 (0)), .lit (.int .u8 (0)), .lit (.int .u8 (0)), .lit (.int .u8 (0)), .lit (.int .u8 (0)), .lit (.int .u8 (0)), .lit (.int .u8 (0)), .lit (.int .u8 (0)), .lit (.int .u8 (0)), .lit (.int .u8 (0)), .lit (.int .u8 (0)), .lit (.int .u8 (0)), .lit (.int .u8 (0)), .lit (.int .u8 (0)), .lit (.int .u8 (0)), .lit (.int .u8 (0)), .lit (.int .u8 (0)), .lit (.int .u8 (0)), .lit (.int .u8 (0)), .lit (.int .u8 (0)), .lit (.int .u8 (0)), .lit (.int .u8 (0))] := by kernel_rfl
theorem fdK_24_0 : Ev.fdK Tryd.prog 24 0 = some (0, 1, false) := by kernel_rfl
theorem fdK_24_1 : Ev.fdK Tryd.prog 24 1 = some (1, 1, false) := by kernel_rfl
theorem fdK_24_2 : Ev.fdK Tryd.prog 24 2 = some (2, 1, false) := by kernel_rfl
theorem fdK_24_3 : Ev.fdK Tryd.prog 24 3 = some (3, 1, false) := by kernel_rfl
theorem fdK_27_0 : Ev.fdK Tryd.prog 27 0 = some (0, 1, false) := by kernel_rfl
theorem fdK_27_1 : Ev.fdK Tryd.prog 27 1 = some (1, 1, false) := by kernel_rfl
theorem fdK_27_2 : Ev.fdK Tryd.prog 27 2 = some (2, 1, false) := by kernel_rfl
theorem fdK_27_3 : Ev.fdK Tryd.prog 27 3 = some (3, 1, false) := by kernel_rfl
theorem fdK_32_0 : Ev.fdK Tryd.prog 32 0 = some (0, 1, false) := by kernel_rfl
theorem fdK_32_1 : Ev.fdK Tryd.prog 32 1 = some (1, 4, true) := by kernel_rfl
theorem fdK_36_0 : Ev.fdK Tryd.prog 36 0 = some (0, 1, false) := by kernel_rfl
theorem fdK_36_1 : Ev.fdK Tryd.prog 36 1 = some (1, 4, true) := by kernel_rfl
theorem fdK_42_0 : Ev.fdK Tryd.prog 42 0 = some (0, 1, false) := by kernel_rfl
theorem fdK_42_1 : Ev.fdK Tryd.prog 42 1 = some (1, 1, false) := by kernel_rfl
theorem fdK_42_2 : Ev.fdK Tryd.prog 42 2 = some (2, 1, false) := by kernel_rfl
theorem fdK_42_3 : Ev.fdK Tryd.prog 42 3 = some (3, 1, false) := by kernel_rfl
theorem fdK_42_4 : Ev.fdK Tryd.prog 42 4 = some (4, 1, false) := by kernel_rfl
theorem fdK_47_0 : Ev.fdK Tryd.prog 47 0 = some (0, 1, false) := by kernel_rfl
theorem fdK_47_1 : Ev.fdK Tryd.prog 47 1 = some (1, 1, false) := by kernel_rfl
theorem fdK_47_2 : Ev.fdK Tryd.prog 47 2 = some (2, 1, false) := by kernel_rfl
theorem fdK_47_3 : Ev.fdK Tryd.prog 47 3 = some (3, 1, false) := by kernel_rfl
theorem fdK_47_4 : Ev.fdK Tryd.prog 47 4 = some (4, 1, false) := by kernel_rfl
theorem fdK_71_0 : Ev.fdK Tryd.prog 71 0 = some (0, 1, false) := by kernel_rfl
theorem fdK_71_1 : Ev.fdK Tryd.prog 71 1 = some (1, 1, false) := by kernel_rfl
theorem slK_22 : Ev.slK Tryd.prog 22 = some 1 := by kernel_rfl
theorem slK_40 : Ev.slK Tryd.prog 40 = some 5 := by kernel_rfl
theorem slK_45 : Ev.slK Tryd.prog 45 = some 5 := by kernel_rfl
theorem slK_63 : Ev.slK Tryd.prog 63 = some 1 := by kernel_rfl
theorem slK_65 : Ev.slK Tryd.prog 65 = some 1 := by kernel_rfl
attribute [go_sem] bdK_27 bsK_63 bsK_65 apK_22 apK_45 apK_63 apK_65 cvK_2_79 cvK_3_5 cvK_3_79 cvK_3_89 cvK_5_3 cvK_63_9 cvK_79_5 cvK_79_87 cvK_87_5 cvK_89_87 und_9 und_22 und_40 und_45 und_63 und_65 tyK_3 tyK_5 tyK_9 tyK_22 tyK_24 tyK_27 tyK_32 tyK_36 tyK_40 tyK_42 tyK_45 tyK_47 tyK_63 tyK_69 tyK_71 tyK_78 tyK_79 tyK_87 tyK_88 fdK_24_0 fdK_24_1 fdK_24_2 fdK_24_3 fdK_27_0 fdK_27_1 fdK_27_2 fdK_27_3 fdK_32_0 fdK_32_1 fdK_36_0 fdK_36_1 fdK_42_0 fdK_42_1 fdK_42_2 fdK_42_3 fdK_42_4 fdK_47_0 fdK_47_1 fdK_47_2 fdK_47_3 fdK_47_4 fdK_71_0 fdK_71_1 slK_22 slK_40 slK_45 slK_63 slK_65
theorem par_2 : parSh Tryd.prog 2 = [] := (par_of Tryd.func2).trans (show [] = _ from by rfl)
theorem res_2 : resSh Tryd.prog 2 = [] := (res_of Tryd.func2).trans (show [] = _ from by rfl)
theorem md_2 : MdT 2 = .plain := rfl
theorem par_3 : parSh Tryd.prog 3 = [[.leaf, .leaf, .leaf, .slc 1 [.leaf]]] := (par_of Tryd.func3).trans (show [shT Tryd.prog 8 24] = _ from by simp only [shT_24])
theorem res_3 : resSh Tryd.prog 3 = [[.leaf]] := (res_of Tryd.func3).trans (show [shT Tryd.prog 8 4] = _ from by simp only [shT_4])
theorem md_3 : MdT 3 = .plain := rfl
theorem par_4 : parSh Tryd.prog 4 = [[.slc 1 [.leaf], .leaf, .leaf, .leaf, .slc 1 [.leaf]]] := (par_of Tryd.func4).trans (show [shT Tryd.prog 8 32] = _ from by simp only [shT_32])
theorem res_4 : resSh Tryd.prog 4 = [[.leaf]] := (res_of Tryd.func4).trans (show [shT Tryd.prog 8 4] = _ from by simp only [shT_4])
theorem md_4 : MdT 4 = .plain := rfl
theorem par_5 : parSh Tryd.prog 5 = [[.leaf, .leaf, .leaf, .leaf, .slc 5 [.slc 1 [.leaf], .leaf, .leaf, .leaf, .slc 1 [.leaf]]]] := (par_of Tryd.func5).trans (show [shT Tryd.prog 8 42] = _ from by simp only [shT_42])
theorem res_5 : resSh Tryd.prog 5 = [[.leaf]] := (res_of Tryd.func5).trans (show [shT Tryd.prog 8 4] = _ from by simp only [shT_4])
theorem md_5 : MdT 5 = .plain := rfl
theorem par_6 : parSh Tryd.prog 6 = [[.leaf, .leaf, .leaf, .slc 1 [.leaf]], [.leaf]] := (par_of Tryd.func6).trans (show [shT Tryd.prog 8 24, shT Tryd.prog 8 3] = _ from by simp only [shT_3, shT_24])
theorem res_6 : resSh Tryd.prog 6 = [[.leaf]] := (res_of Tryd.func6).trans (show [shT Tryd.prog 8 3] = _ from by simp only [shT_3])
theorem md_6 : MdT 6 = .plain := rfl
theorem par_7 : parSh Tryd.prog 7 = [[.leaf, .leaf, .leaf, .slc 1 [.leaf]]] := (par_of Tryd.func7).trans (show [shT Tryd.prog 8 27] = _ from by simp only [shT_27])
theorem res_7 : resSh Tryd.prog 7 = [[.leaf]] := (res_of Tryd.func7).trans (show [shT Tryd.prog 8 9] = _ from by simp only [shT_9])
theorem md_7 : MdT 7 = .plain := rfl
theorem par_8 : parSh Tryd.prog 8 = [[.leaf, .leaf, .leaf, .slc 1 [.leaf]]] := (par_of Tryd.func8).trans (show [shT Tryd.prog 8 24] = _ from by simp only [shT_24])
theorem res_8 : resSh Tryd.prog 8 = [[.leaf, .leaf, .leaf, .slc 1 [.leaf]]] := (res_of Tryd.func8).trans (show [shT Tryd.prog 8 27] = _ from by simp only [shT_27])
theorem md_8 : MdT 8 = .plain := rfl
theorem par_9 : parSh Tryd.prog 9 = [[.leaf, .leaf, .leaf, .slc 1 [.leaf]]] := (par_of Tryd.func9).trans (show [shT Tryd.prog 8 27] = _ from by simp only [shT_27])
theorem res_9 : resSh Tryd.prog 9 = [[.leaf]] := (res_of Tryd.func9).trans (show [shT Tryd.prog 8 9] = _ from by simp only [shT_9])
theorem md_9 : MdT 9 = .plain := rfl
theorem par_10 : parSh Tryd.prog 10 = [[.leaf, .leaf, .leaf, .slc 1 [.leaf]], [.leaf, .leaf, .leaf, .slc 1 [.leaf]]] := (par_of Tryd.func10).trans (show [shT Tryd.prog 8 27, shT Tryd.prog 8 27] = _ from by simp only [shT_27])
theorem res_10 : resSh Tryd.prog 10 = [[.leaf]] := (res_of Tryd.func10).trans (show [shT Tryd.prog 8 4] = _ from by simp only [shT_4])
theorem md_10 : MdT 10 = .plain := rfl
theorem par_11 : parSh Tryd.prog 11 = [[.slc 1 [.leaf], .leaf, .leaf, .leaf, .slc 1 [.leaf]], [.leaf]] := (par_of Tryd.func11).trans (show [shT Tryd.prog 8 32, shT Tryd.prog 8 3] = _ from by simp only [shT_3, shT_32])
theorem res_11 : resSh Tryd.prog 11 = [[.leaf]] := (res_of Tryd.func11).trans (show [shT Tryd.prog 8 3] = _ from by simp only [shT_3])
theorem md_11 : MdT 11 = .plain := rfl
theorem par_12 : parSh Tryd.prog 12 = [[.slc 1 [.leaf], .leaf, .leaf, .leaf, .slc 1 [.leaf]]] := (par_of Tryd.func12).trans (show [shT Tryd.prog 8 36] = _ from by simp only [shT_36])
theorem res_12 : resSh Tryd.prog 12 = [[.leaf]] := (res_of Tryd.func12).trans (show [shT Tryd.prog 8 9] = _ from by simp only [shT_9])
theorem md_12 : MdT 12 = .plain := rfl
theorem par_13 : parSh Tryd.prog 13 = [[.slc 1 [.leaf], .leaf, .leaf, .leaf, .slc 1 [.leaf]]] := (par_of Tryd.func13).trans (show [shT Tryd.prog 8 32] = _ from by simp only [shT_32])
theorem res_13 : resSh Tryd.prog 13 = [[.slc 1 [.leaf], .leaf, .leaf, .leaf, .slc 1 [.leaf]]] := (res_of Tryd.func13).trans (show [shT Tryd.prog 8 36] = _ from by simp only [shT_36])
theorem md_13 : MdT 13 = .plain := rfl
theorem par_14 : parSh Tryd.prog 14 = [[.slc 1 [.leaf], .leaf, .leaf, .leaf, .slc 1 [.leaf]]] := (par_of Tryd.func14).trans (show [shT Tryd.prog 8 36] = _ from by simp only [shT_36])
theorem res_14 : resSh Tryd.prog 14 = [[.leaf]] := (res_of Tryd.func14).trans (show [shT Tryd.prog 8 9] = _ from by simp only [shT_9])
theorem md_14 : MdT 14 = .plain := rfl
theorem par_15 : parSh Tryd.prog 15 = [[.slc 1 [.leaf], .leaf, .leaf, .leaf, .slc 1 [.leaf]], [.slc 1 [.leaf], .leaf, .leaf, .leaf, .slc 1 [.leaf]]] := (par_of Tryd.func15).trans (show [shT Tryd.prog 8 36, shT Tryd.prog 8 36] = _ from by simp only [shT_36])
theorem res_15 : resSh Tryd.prog 15 = [[.leaf]] := (res_of Tryd.func15).trans (show [shT Tryd.prog 8 4] = _ from by simp only [shT_4])
theorem md_15 : MdT 15 = .plain := rfl
theorem par_16 : parSh Tryd.prog 16 = [[.leaf, .leaf, .leaf, .leaf, .slc 5 [.slc 1 [.leaf], .leaf, .leaf, .leaf, .slc 1 [.leaf]]], [.leaf]] := (par_of Tryd.func16).trans (show [shT Tryd.prog 8 42, shT Tryd.prog 8 3] = _ from by simp only [shT_3, shT_42])
theorem res_16 : resSh Tryd.prog 16 = [[.leaf]] := (res_of Tryd.func16).trans (show [shT Tryd.prog 8 3] = _ from by simp only [shT_3])
theorem md_16 : MdT 16 = .plain := rfl
theorem par_17 : parSh Tryd.prog 17 = [[.leaf, .leaf, .leaf, .leaf, .slc 5 [.slc 1 [.leaf], .leaf, .leaf, .leaf, .slc 1 [.leaf]]]] := (par_of Tryd.func17).trans (show [shT Tryd.prog 8 47] = _ from by simp only [shT_47])
theorem res_17 : resSh Tryd.prog 17 = [[.leaf]] := (res_of Tryd.func17).trans (show [shT Tryd.prog 8 9] = _ from by simp only [shT_9])
theorem md_17 : MdT 17 = .plain := rfl
theorem par_18 : parSh Tryd.prog 18 = [[.leaf, .leaf, .leaf, .leaf, .slc 5 [.slc 1 [.leaf], .leaf, .leaf, .leaf, .slc 1 [.leaf]]]] := (par_of Tryd.func18).trans (show [shT Tryd.prog 8 42] = _ from by simp only [shT_42])
theorem res_18 : resSh Tryd.prog 18 = [[.leaf, .leaf, .leaf, .leaf, .slc 5 [.slc 1 [.leaf], .leaf, .leaf, .leaf, .slc 1 [.leaf]]]] := (res_of Tryd.func18).trans (show [shT Tryd.prog 8 47] = _ from by simp only [shT_47])
theorem md_18 : MdT 18 = .plain := rfl
theorem par_19 : parSh Tryd.prog 19 = [[.leaf, .leaf, .leaf, .leaf, .slc 5 [.slc 1 [.leaf], .leaf, .leaf, .leaf, .slc 1 [.leaf]]]] := (par_of Tryd.func19).trans (show [shT Tryd.prog 8 47] = _ from by simp only [shT_47])
theorem res_19 : resSh Tryd.prog 19 = [[.leaf]] := (res_of Tryd.func19).trans (show [shT Tryd.prog 8 9] = _ from by simp only [shT_9])
theorem md_19 : MdT 19 = .plain := rfl
theorem par_20 : parSh Tryd.prog 20 = [[.leaf, .leaf, .leaf, .leaf, .slc 5 [.slc 1 [.leaf], .leaf, .leaf, .leaf, .slc 1 [.leaf]]], [.leaf, .leaf, .leaf, .leaf, .slc 5 [.slc 1 [.leaf], .leaf, .leaf, .leaf, .slc 1 [.leaf]]]] := (par_of Tryd.func20).trans (show [shT Tryd.prog 8 47, shT Tryd.prog 8 47] = _ from by simp only [shT_47])
theorem res_20 : resSh Tryd.prog 20 = [[.leaf]] := (res_of Tryd.func20).trans (show [shT Tryd.prog 8 4] = _ from by simp only [shT_4])
theorem md_20 : MdT 20 = .plain := rfl
theorem par_21 : parSh Tryd.prog 21 = [[.slc 1 [.leaf]], [.leaf]] := (par_of Tryd.func21).trans (show [shT Tryd.prog 8 22, shT Tryd.prog 8 3] = _ from by simp only [shT_3, shT_22])
theorem res_21 : resSh Tryd.prog 21 = [[.leaf]] := (res_of Tryd.func21).trans (show [shT Tryd.prog 8 3] = _ from by simp only [shT_3])
theorem md_21 : MdT 21 = .plain := rfl
theorem par_22 : parSh Tryd.prog 22 = [[.leaf, .leaf, .leaf, .slc 1 [.leaf]]] := (par_of Tryd.func22).trans (show [shT Tryd.prog 8 27] = _ from by simp only [shT_27])
theorem res_22 : resSh Tryd.prog 22 = [[.leaf]] := (res_of Tryd.func22).trans (show [shT Tryd.prog 8 4] = _ from by simp only [shT_4])
theorem md_22 : MdT 22 = .plain := rfl
theorem par_23 : parSh Tryd.prog 23 = [[.leaf]] := (par_of Tryd.func23).trans (show [shT Tryd.prog 8 3] = _ from by simp only [shT_3])
theorem res_23 : resSh Tryd.prog 23 = [[.leaf]] := (res_of Tryd.func23).trans (show [shT Tryd.prog 8 9] = _ from by simp only [shT_9])
theorem md_23 : MdT 23 = .plain := rfl
theorem par_24 : parSh Tryd.prog 24 = [[.slc 1 [.leaf]]] := (par_of Tryd.func24).trans (show [shT Tryd.prog 8 22] = _ from by simp only [shT_22])
theorem res_24 : resSh Tryd.prog 24 = [[.leaf]] := (res_of Tryd.func24).trans (show [shT Tryd.prog 8 9] = _ from by simp only [shT_9])
theorem md_24 : MdT 24 = .plain := rfl
theorem par_25 : parSh Tryd.prog 25 = [[.slc 1 [.leaf]]] := (par_of Tryd.func25).trans (show [shT Tryd.prog 8 22] = _ from by simp only [shT_22])
theorem res_25 : resSh Tryd.prog 25 = [[.slc 1 [.leaf]]] := (res_of Tryd.func25).trans (show [shT Tryd.prog 8 22] = _ from by simp only [shT_22])
theorem md_25 : MdT 25 = .plain := rfl
theorem par_26 : parSh Tryd.prog 26 = [[.leaf, .leaf, .leaf, .slc 1 [.leaf]]] := (par_of Tryd.func26).trans (show [shT Tryd.prog 8 27] = _ from by simp only [shT_27])
theorem res_26 : resSh Tryd.prog 26 = [[.leaf]] := (res_of Tryd.func26).trans (show [shT Tryd.prog 8 4] = _ from by simp only [shT_4])
theorem md_26 : MdT 26 = .plain := rfl
theorem par_27 : parSh Tryd.prog 27 = [[.leaf]] := (par_of Tryd.func27).trans (show [shT Tryd.prog 8 3] = _ from by simp only [shT_3])
theorem res_27 : resSh Tryd.prog 27 = [[.leaf]] := (res_of Tryd.func27).trans (show [shT Tryd.prog 8 9] = _ from by simp only [shT_9])
theorem md_27 : MdT 27 = .plain := rfl
theorem par_28 : parSh Tryd.prog 28 = [[.slc 1 [.leaf]]] := (par_of Tryd.func28).trans (show [shT Tryd.prog 8 22] = _ from by simp only [shT_22])
theorem res_28 : resSh Tryd.prog 28 = [[.leaf]] := (res_of Tryd.func28).trans (show [shT Tryd.prog 8 9] = _ from by simp only [shT_9])
theorem md_28 : MdT 28 = .plain := rfl
theorem par_29 : parSh Tryd.prog 29 = [[.slc 1 [.leaf]], [.slc 1 [.leaf]]] := (par_of Tryd.func29).trans (show [shT Tryd.prog 8 22, shT Tryd.prog 8 22] = _ from by simp only [shT_22])
theorem res_29 : resSh Tryd.prog 29 = [[.leaf]] := (res_of Tryd.func29).trans (show [shT Tryd.prog 8 4] = _ from by simp only [shT_4])
theorem md_29 : MdT 29 = .plain := rfl
theorem par_30 : parSh Tryd.prog 30 = [[.slc 5 [.slc 1 [.leaf], .leaf, .leaf, .leaf, .slc 1 [.leaf]]], [.leaf]] := (par_of Tryd.func30).trans (show [shT Tryd.prog 8 40, shT Tryd.prog 8 3] = _ from by simp only [shT_3, shT_40])
theorem res_30 : resSh Tryd.prog 30 = [[.leaf]] := (res_of Tryd.func30).trans (show [shT Tryd.prog 8 3] = _ from by simp only [shT_3])
theorem md_30 : MdT 30 = .plain := rfl
theorem par_31 : parSh Tryd.prog 31 = [[.leaf, .leaf, .leaf, .leaf, .slc 5 [.slc 1 [.leaf], .leaf, .leaf, .leaf, .slc 1 [.leaf]]]] := (par_of Tryd.func31).trans (show [shT Tryd.prog 8 47] = _ from by simp only [shT_47])
theorem res_31 : resSh Tryd.prog 31 = [[.leaf]] := (res_of Tryd.func31).trans (show [shT Tryd.prog 8 4] = _ from by simp only [shT_4])
theorem md_31 : MdT 31 = .plain := rfl
theorem par_32 : parSh Tryd.prog 32 = [[.leaf]] := (par_of Tryd.func32).trans (show [shT Tryd.prog 8 3] = _ from by simp only [shT_3])
theorem res_32 : resSh Tryd.prog 32 = [[.leaf]] := (res_of Tryd.func32).trans (show [shT Tryd.prog 8 9] = _ from by simp only [shT_9])
theorem md_32 : MdT 32 = .plain := rfl
theorem par_33 : parSh Tryd.prog 33 = [[.slc 5 [.slc 1 [.leaf], .leaf, .leaf, .leaf, .slc 1 [.leaf]]]] := (par_of Tryd.func33).trans (show [shT Tryd.prog 8 40] = _ from by simp only [shT_40])
theorem res_33 : resSh Tryd.prog 33 = [[.slc 5 [.slc 1 [.leaf], .leaf, .leaf, .leaf, .slc 1 [.leaf]]]] := (res_of Tryd.func33).trans (show [shT Tryd.prog 8 45] = _ from by simp only [shT_45])
theorem md_33 : MdT 33 = .plain := rfl
theorem par_34 : parSh Tryd.prog 34 = [[.leaf, .leaf, .leaf, .leaf, .slc 5 [.slc 1 [.leaf], .leaf, .leaf, .leaf, .slc 1 [.leaf]]]] := (par_of Tryd.func34).trans (show [shT Tryd.prog 8 47] = _ from by simp only [shT_47])
theorem res_34 : resSh Tryd.prog 34 = [[.leaf]] := (res_of Tryd.func34).trans (show [shT Tryd.prog 8 4] = _ from by simp only [shT_4])
theorem md_34 : MdT 34 = .plain := rfl
theorem par_35 : parSh Tryd.prog 35 = [[.slc 5 [.slc 1 [.leaf], .leaf, .leaf, .leaf, .slc 1 [.leaf]]], [.slc 5 [.slc 1 [.leaf], .leaf, .leaf, .leaf, .slc 1 [.leaf]]]] := (par_of Tryd.func35).trans (show [shT Tryd.prog 8 45, shT Tryd.prog 8 45] = _ from by simp only [shT_45])
theorem res_35 : resSh Tryd.prog 35 = [[.leaf]] := (res_of Tryd.func35).trans (show [shT Tryd.prog 8 4] = _ from by simp only [shT_4])
theorem md_35 : MdT 35 = .plain := rfl
theorem par_36 : parSh Tryd.prog 36 = [[.leaf]] := (par_of Tryd.func36).trans (show [shT Tryd.prog 8 3] = _ from by simp only [shT_3])
theorem res_36 : resSh Tryd.prog 36 = [[.leaf]] := (res_of Tryd.func36).trans (show [shT Tryd.prog 8 3] = _ from by simp only [shT_3])
theorem md_36 : MdT 36 = .plain := rfl
theorem par_37 : parSh Tryd.prog 37 = [[.slc 1 [.leaf]]] := (par_of Tryd.func37).trans (show [shT Tryd.prog 8 22] = _ from by simp only [shT_22])
theorem res_37 : resSh Tryd.prog 37 = [[.leaf]] := (res_of Tryd.func37).trans (show [shT Tryd.prog 8 4] = _ from by simp only [shT_4])
theorem md_37 : MdT 37 = .plain := rfl
theorem par_38 : parSh Tryd.prog 38 = [[.leaf]] := (par_of Tryd.func38).trans (show [shT Tryd.prog 8 3] = _ from by simp only [shT_3])
theorem res_38 : resSh Tryd.prog 38 = [[.leaf]] := (res_of Tryd.func38).trans (show [shT Tryd.prog 8 4] = _ from by simp only [shT_4])
theorem md_38 : MdT 38 = .plain := rfl
theorem par_39 : parSh Tryd.prog 39 = [[.slc 1 [.leaf]]] := (par_of Tryd.func39).trans (show [shT Tryd.prog 8 22] = _ from by simp only [shT_22])
theorem res_39 : resSh Tryd.prog 39 = [[.leaf]] := (res_of Tryd.func39).trans (show [shT Tryd.prog 8 4] = _ from by simp only [shT_4])
theorem md_39 : MdT 39 = .plain := rfl
theorem par_40 : parSh Tryd.prog 40 = [[.leaf, .leaf, .leaf, .slc 1 [.leaf]], [.leaf, .leaf, .leaf, .slc 1 [.leaf]]] := (par_of Tryd.func40).trans (show [shT Tryd.prog 8 27, shT Tryd.prog 8 27] = _ from by simp only [shT_27])
theorem res_40 : resSh Tryd.prog 40 = [[.leaf]] := (res_of Tryd.func40).trans (show [shT Tryd.prog 8 4] = _ from by simp only [shT_4])
theorem md_40 : MdT 40 = .plain := rfl
theorem par_41 : parSh Tryd.prog 41 = [[.leaf]] := (par_of Tryd.func41).trans (show [shT Tryd.prog 8 3] = _ from by simp only [shT_3])
theorem res_41 : resSh Tryd.prog 41 = [[.leaf]] := (res_of Tryd.func41).trans (show [shT Tryd.prog 8 9] = _ from by simp only [shT_9])
theorem md_41 : MdT 41 = .plain := rfl
theorem par_42 : parSh Tryd.prog 42 = [[.slc 1 [.leaf]], [.leaf]] := (par_of Tryd.func42).trans (show [shT Tryd.prog 8 65, shT Tryd.prog 8 9] = _ from by simp only [shT_9, shT_65])
theorem res_42 : resSh Tryd.prog 42 = [[.leaf]] := (res_of Tryd.func42).trans (show [shT Tryd.prog 8 9] = _ from by simp only [shT_9])
theorem md_42 : MdT 42 = .step := rfl
theorem par_43 : parSh Tryd.prog 43 = [[.leaf]] := (par_of Tryd.func43).trans (show [shT Tryd.prog 8 3] = _ from by simp only [shT_3])
theorem res_43 : resSh Tryd.prog 43 = [[.leaf]] := (res_of Tryd.func43).trans (show [shT Tryd.prog 8 4] = _ from by simp only [shT_4])
theorem md_43 : MdT 43 = .plain := rfl
theorem par_44 : parSh Tryd.prog 44 = [[.leaf], [.leaf], [.leaf]] := (par_of Tryd.func44).trans (show [shT Tryd.prog 8 3, shT Tryd.prog 8 3, shT Tryd.prog 8 3] = _ from by simp only [shT_3])
theorem res_44 : resSh Tryd.prog 44 = [[.leaf]] := (res_of Tryd.func44).trans (show [shT Tryd.prog 8 4] = _ from by simp only [shT_4])
theorem md_44 : MdT 44 = .plain := rfl
theorem par_45 : parSh Tryd.prog 45 = [[.leaf], [.leaf], [.leaf]] := (par_of Tryd.func45).trans (show [shT Tryd.prog 8 3, shT Tryd.prog 8 3, shT Tryd.prog 8 3] = _ from by simp only [shT_3])
theorem res_45 : resSh Tryd.prog 45 = [[.leaf]] := (res_of Tryd.func45).trans (show [shT Tryd.prog 8 4] = _ from by simp only [shT_4])
theorem md_45 : MdT 45 = .plain := rfl
theorem par_46 : parSh Tryd.prog 46 = [[.slc 1 [.leaf]], [.slc 1 [.leaf]]] := (par_of Tryd.func46).trans (show [shT Tryd.prog 8 22, shT Tryd.prog 8 22] = _ from by simp only [shT_22])
theorem res_46 : resSh Tryd.prog 46 = [[.leaf]] := (res_of Tryd.func46).trans (show [shT Tryd.prog 8 4] = _ from by simp only [shT_4])
theorem md_46 : MdT 46 = .plain := rfl
theorem par_47 : parSh Tryd.prog 47 = [[.leaf], [.leaf]] := (par_of Tryd.func47).trans (show [shT Tryd.prog 8 2, shT Tryd.prog 8 3] = _ from by simp only [shT_2, shT_3])
theorem res_47 : resSh Tryd.prog 47 = [[.leaf]] := (res_of Tryd.func47).trans (show [shT Tryd.prog 8 9] = _ from by simp only [shT_9])
theorem md_47 : MdT 47 = .plain := rfl
theorem par_48 : parSh Tryd.prog 48 = [[.leaf], [.leaf]] := (par_of Tryd.func48).trans (show [shT Tryd.prog 8 69, shT Tryd.prog 8 3] = _ from by simp only [shT_3, shT_69])
theorem res_48 : resSh Tryd.prog 48 = [] := (res_of Tryd.func48).trans (show [] = _ from by rfl)
theorem md_48 : MdT 48 = .plain := rfl
theorem par_49 : parSh Tryd.prog 49 = [[.leaf], [.leaf]] := (par_of Tryd.func49).trans (show [shT Tryd.prog 8 69, shT Tryd.prog 8 9] = _ from by simp only [shT_9, shT_69])
theorem res_49 : resSh Tryd.prog 49 = [[.leaf], [.leaf]] := (res_of Tryd.func49).trans (show [shT Tryd.prog 8 3, shT Tryd.prog 8 74] = _ from by simp only [shT_3, shT_74])
theorem md_49 : MdT 49 = .plain := rfl
theorem par_50 : parSh Tryd.prog 50 = [[.leaf]] := (par_of Tryd.func50).trans (show [shT Tryd.prog 8 69] = _ from by simp only [shT_69])
theorem res_50 : resSh Tryd.prog 50 = [[.leaf]] := (res_of Tryd.func50).trans (show [shT Tryd.prog 8 9] = _ from by simp only [shT_9])
theorem md_50 : MdT 50 = .plain := rfl
theorem par_51 : parSh Tryd.prog 51 = [[.leaf]] := (par_of Tryd.func51).trans (show [shT Tryd.prog 8 3] = _ from by simp only [shT_3])
theorem res_51 : resSh Tryd.prog 51 = [[.leaf]] := (res_of Tryd.func51).trans (show [shT Tryd.prog 8 9] = _ from by simp only [shT_9])
theorem md_51 : MdT 51 = .plain := rfl
theorem par_52 : parSh Tryd.prog 52 = [[.leaf]] := (par_of Tryd.func52).trans (show [shT Tryd.prog 8 79] = _ from by simp only [shT_79])
theorem res_52 : resSh Tryd.prog 52 = [[.leaf]] := (res_of Tryd.func52).trans (show [shT Tryd.prog 8 3] = _ from by simp only [shT_3])
theorem md_52 : MdT 52 = .plain := rfl
theorem par_53 : parSh Tryd.prog 53 = [[.slc 1 [.leaf]], [.leaf]] := (par_of Tryd.func53).trans (show [shT Tryd.prog 8 63, shT Tryd.prog 8 79] = _ from by simp only [shT_63, shT_79])
theorem res_53 : resSh Tryd.prog 53 = [] := (res_of Tryd.func53).trans (show [] = _ from by rfl)
theorem md_53 : MdT 53 = .plain := rfl
theorem par_54 : parSh Tryd.prog 54 = [[.slc 1 [.leaf]], [.leaf], [.leaf], [.leaf], [.leaf]] := (par_of Tryd.func54).trans (show [shT Tryd.prog 8 63, shT Tryd.prog 8 79, shT Tryd.prog 8 3, shT Tryd.prog 8 4, shT Tryd.prog 8 4] = _ from by simp only [shT_3, shT_4, shT_63, shT_79])
theorem res_54 : resSh Tryd.prog 54 = [[.slc 1 [.leaf]], [.leaf]] := (res_of Tryd.func54).trans (show [shT Tryd.prog 8 63, shT Tryd.prog 8 9] = _ from by simp only [shT_9, shT_63])
theorem md_54 : MdT 54 = .plain := rfl
theorem par_55 : parSh Tryd.prog 55 = [[.leaf]] := (par_of Tryd.func55).trans (show [shT Tryd.prog 8 69] = _ from by simp only [shT_69])
theorem res_55 : resSh Tryd.prog 55 = [] := (res_of Tryd.func55).trans (show [] = _ from by rfl)
theorem md_55 : MdT 55 = .plain := rfl
theorem par_56 : parSh Tryd.prog 56 = [[.leaf], [.leaf]] := (par_of Tryd.func56).trans (show [shT Tryd.prog 8 69, shT Tryd.prog 8 3] = _ from by simp only [shT_3, shT_69])
theorem res_56 : resSh Tryd.prog 56 = [] := (res_of Tryd.func56).trans (show [] = _ from by rfl)
theorem md_56 : MdT 56 = .plain := rfl
theorem par_57 : parSh Tryd.prog 57 = [[.leaf]] := (par_of Tryd.func57).trans (show [shT Tryd.prog 8 3] = _ from by simp only [shT_3])
theorem res_57 : resSh Tryd.prog 57 = [[.leaf]] := (res_of Tryd.func57).trans (show [shT Tryd.prog 8 3] = _ from by simp only [shT_3])
theorem md_57 : MdT 57 = .plain := rfl
theorem par_58 : parSh Tryd.prog 58 = [[.leaf]] := (par_of Tryd.func58).trans (show [shT Tryd.prog 8 79] = _ from by simp only [shT_79])
theorem res_58 : resSh Tryd.prog 58 = [[.leaf]] := (res_of Tryd.func58).trans (show [shT Tryd.prog 8 3] = _ from by simp only [shT_3])
theorem md_58 : MdT 58 = .plain := rfl
theorem par_59 : parSh Tryd.prog 59 = [[.leaf]] := (par_of Tryd.func59).trans (show [shT Tryd.prog 8 4] = _ from by simp only [shT_4])
theorem res_59 : resSh Tryd.prog 59 = [[.leaf]] := (res_of Tryd.func59).trans (show [shT Tryd.prog 8 3] = _ from by simp only [shT_3])
theorem md_59 : MdT 59 = .plain := rfl
theorem par_60 : parSh Tryd.prog 60 = [[.leaf]] := (par_of Tryd.func60).trans (show [shT Tryd.prog 8 3] = _ from by simp only [shT_3])
theorem res_60 : resSh Tryd.prog 60 = [[.leaf]] := (res_of Tryd.func60).trans (show [shT Tryd.prog 8 4] = _ from by simp only [shT_4])
theorem md_60 : MdT 60 = .plain := rfl
theorem par_61 : parSh Tryd.prog 61 = [[.leaf]] := (par_of Tryd.func61).trans (show [shT Tryd.prog 8 89] = _ from by simp only [shT_89])
theorem res_61 : resSh Tryd.prog 61 = [[.leaf]] := (res_of Tryd.func61).trans (show [shT Tryd.prog 8 3] = _ from by simp only [shT_3])
theorem md_61 : MdT 61 = .plain := rfl
theorem par_64 : parSh Tryd.prog 64 = [[.leaf]] := (par_of Tryd.func64).trans (show [shT Tryd.prog 8 87] = _ from by simp only [shT_87])
theorem res_64 : resSh Tryd.prog 64 = [[.leaf]] := (res_of Tryd.func64).trans (show [shT Tryd.prog 8 3] = _ from by simp only [shT_3])
theorem md_64 : MdT 64 = .plain := rfl
theorem par_65 : parSh Tryd.prog 65 = [[.leaf]] := (par_of Tryd.func65).trans (show [shT Tryd.prog 8 79] = _ from by simp only [shT_79])
theorem res_65 : resSh Tryd.prog 65 = [[.leaf]] := (res_of Tryd.func65).trans (show [shT Tryd.prog 8 3] = _ from by simp only [shT_3])
theorem md_65 : MdT 65 = .plain := rfl
attribute [go_sem] par_2 res_2 md_2 par_3 res_3 md_3 par_4 res_4 md_4 par_5 res_5 md_5 par_6 res_6 md_6 par_7 res_7 md_7 par_8 res_8 md_8 par_9 res_9 md_9 par_10 res_10 md_10 par_11 res_11 md_11 par_12 res_12 md_12 par_13 res_13 md_13 par_14 res_14 md_14 par_15 res_15 md_15 par_16 res_16 md_16 par_17 res_17 md_17 par_18 res_18 md_18 par_19 res_19 md_19 par_20 res_20 md_20 par_21 res_21 md_21 par_22 res_22 md_22 par_23 res_23 md_23 par_24 res_24 md_24 par_25 res_25 md_25 par_26 res_26 md_26 par_27 res_27 md_27 par_28 res_28 md_28 par_29 res_29 md_29 par_30 res_30 md_30 par_31 res_31 md_31 par_32 res_32 md_32 par_33 res_33 md_33 par_34 res_34 md_34 par_35 res_35 md_35 par_36 res_36 md_36 par_37 res_37 md_37 par_38 res_38 md_38 par_39 res_39 md_39 par_40 res_40 md_40 par_41 res_41 md_41 par_42 res_42 md_42 par_43 res_43 md_43 par_44 res_44 md_44 par_45 res_45 md_45 par_46 res_46 md_46 par_47 res_47 md_47 par_48 res_48 md_48 par_49 res_49 md_49 par_50 res_50 md_50 par_51 res_51 md_51 par_52 res_52 md_52 par_53 res_53 md_53 par_54 res_54 md_54 par_55 res_55 md_55 par_56 res_56 md_56 par_57 res_57 md_57 par_58 res_58 md_58 par_59 res_59 md_59 par_60 res_60 md_60 par_61 res_61 md_61 par_64 res_64 md_64 par_65 res_65 md_65
end Go.Ev.D
