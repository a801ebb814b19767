/- strings.Join and strconv.Itoa, as the evaluator takes them. -/
import Derived.Test.YtmfoddeecplibaaDoorChecked
import Derived.Test.YtmfoddeecplibaaDoorM5
import Derived.Shelf.Strconv.Itoa3
import Derived.Lib.LaidTab
import Derived.Ground.NamesProg
import Derived.Shelf.Lay
import Derived.Shelf.Strings.OnBuilder
set_option linter.unusedVariables false
namespace Go.Proofs
open Go.Shelf Go.RowKit
shelf_lay Lays.n156 Nm 156 at Tryd as Tryd.laysJoin
shelf_lay LaysM.n171 Nm 171 at Tryd as Tryd.laysItoa
theorem Tryd.extra : Builder.Extra Tryd.prog Tryd.laysJoin_ren where
  sizeBuilder := by kernel_rfl
  liesBuilder := by kernel_rfl
  t5 := by kernel_rfl
  a5 := fun w => by kernel_rfl
  z5 := fun w => by kernel_rfl
  v5 := fun w => by kernel_rfl
  infoByte := by kernel_rfl
  cellsByte := by kernel_rfl
  sizeByte := by kernel_rfl
  neB5 := by decide
end Go.Proofs
namespace Go.Ev
open Go.RowKit Go.Proofs
/-- Strings of rows of one string each. -/
def strsOf : List (List C) → Option (List ByteArray)
  | [] => some []
  | [.lit (.string s)] :: rest => (strsOf rest).map fun l => s :: l
  | _ => none
theorem strsOf_map : ∀ (l : List ByteArray), strsOf (l.map strC) = some l
  | [] => rfl
  | s :: l => by simp [strsOf, strC, strsOf_map l]
theorem strsOf_spec : ∀ (rows : List (List C)) (l : List ByteArray), strsOf rows = some l → rows = l.map strC := by
  intro rows
  induction rows with
  | nil => intro l h; simp [strsOf] at h; subst h; rfl
  | cons r rest ih =>
    intro l h
    unfold strsOf at h
    split at h
    · cases h; rename_i heq; cases heq
    · rename_i s rest' heq
      cases heq
      simp only [Option.map_eq_some_iff] at h
      obtain ⟨l', h1, rfl⟩ := h
      rw [ih l' h1]; rfl
    · cases h
def joinG (args : List V) (h : Hp) : Option (V × Hp) :=
  match args with
  | [.one (.lit (.slice none 0 0)), .one (.lit (.string sep))] => some (.str (joinB [] sep), h)
  | [.one (.ref 1 b off len), .one (.lit (.string sep))] =>
    match rowsE h (.ref 1 b off len) with
    | some rows =>
      match strsOf rows with
      | some xs => if xs.length ≤ 140737488355328 ∧ (Lib.join (xs.map (·.data.toList)) sep.data.toList).length ≤ 140737488355328 then some (.str (joinB xs sep), h) else none
      | none => none
    | none => none
  | _ => none

def gPow : Nat := 0
theorem gPow_named : Tryd.prog.globalNamed "internal/strconv.uint64pow10" = some gPow := by kernel_rfl
noncomputable instance tabInv : TInv where
  T I w := I gPow ∧ Lib.TabIs Tryd.prog w "internal/strconv.uint64pow10" .u64 Lib.pow10Tab
  mono := fun ⟨h1, h2⟩ h3 h4 => ⟨h3 _ h1, by
    unfold Lib.TabIs World.var? at h2 ⊢
    rw [gPow_named] at h2 ⊢
    simp only [Option.bind_some] at h2 ⊢
    rw [h4 _ h1]; exact h2⟩
theorem gone_of_below {I : Nat → Prop} {w w' : World} (hI : ∀ r, I r → r < w.heap.size) (b : Below w.heap.size w w') : Gone I w I w' :=
  ⟨fun _ h => h, fun _ h => .inl h, fun r hr => Nat.lt_of_lt_of_le (hI r hr) b.size, fun r hr => b.block r hr, b.size, b.os, b.tape, b.output⟩

theorem join_ok : CallOk ⟨Tryd.prog, fun _ => .step, fun f args h => if f = 42 then joinG args h else none⟩ := by
  intro f args h r h' hr
  simp only at hr
  split at hr
  case isFalse => cases hr
  rename_i hf
  subst hf
  have hex : ∃ fn, Tryd.prog.funcs[42]? = some fn ∧ fn.body.isSome = true ∧ fn.name ≠ "runtime.NumGoroutine" := ⟨Tryd.f42, Tryd.func42, rfl, by decide⟩
  unfold joinG at hr
  split at hr
  · rename_i sep
    cases hr
    refine ⟨fun hok => ⟨hok, Nat.le_refl _⟩, hex, fun ρ I w vs hok d R hvs => ?_⟩
    have hl := hvs.1
    obtain ⟨v0, v1, rfl⟩ : ∃ v0 v1, vs = #[v0, v1] := by
      obtain ⟨l⟩ := vs
      match l, hl with
      | [a, b], _ => exact ⟨a, b, rfl⟩
    have r0 := rep_one (hvs.2 0 _ _ rfl rfl)
    have r1 := rep_one (hvs.2 1 _ _ rfl rfl)
    obtain rfl : v0 = .slice none 0 0 := by cases r0 with | imm hi => cases hi; rfl
    obtain rfl : v1 = .string sep := by cases r1 with | imm hi => cases hi; rfl
    refine (Any.strings_Join_none Tryd.laysJoin Tryd.extra none 0 sep w).mono ?_
    rintro e w' ⟨rfl, rfl⟩
    obtain ⟨q, R'⟩ := Gone.qstp R (gone_of_below R.imm.lt (Below.refl _ w'))
    exact ⟨_, ρ, I, rfl, q.stp, R', .one (.imm (.lit rfl))⟩
  · rename_i b off len sep
    split at hr
    case h_2 => cases hr
    rename_i rows hrows
    split at hr
    case h_2 => cases hr
    rename_i xs hxs
    split at hr
    case isFalse => cases hr
    rename_i hsz
    cases hr
    refine ⟨fun hok => ⟨hok, Nat.le_refl _⟩, hex, fun ρ I w vs hok d R hvs => ?_⟩
    have hl := hvs.1
    obtain ⟨v0, v1, rfl⟩ : ∃ v0 v1, vs = #[v0, v1] := by
      obtain ⟨l⟩ := vs
      match l, hl with
      | [a, b], _ => exact ⟨a, b, rfl⟩
    have r0 := rep_one (hvs.2 0 _ _ rfl rfl)
    have r1 := rep_one (hvs.2 1 _ _ rfl rfl)
    obtain rfl : v1 = .string sep := by cases r1 with | imm hi => cases hi; rfl
    have hrx := strsOf_spec rows xs hxs
    simp only [rowsE] at hrows
    split at hrows
    case h_2 => cases hrows
    rename_i k hk
    split at hrows
    case isFalse => cases hrows
    rename_i hc
    simp only [Option.some.injEq] at hrows
    have hlen : xs.length = len := by
      have h1 : rows.length = xs.length := by rw [hrx]; simp
      have h2 : rows.length = len := by rw [← hrows]; simp; omega
      omega
    have fin : ∀ {v0 : Value} {w' : World}, Below w.heap.size w w' → ∃ v ρ' I', Ending.returned (.string (joinB xs sep)) = .returned v ∧ Stp ρ I h w ρ' I' h w' ∧ Rel ρ' I' h w' ∧ RepV ρ' I' w' (.str (joinB xs sep)) v := by
      intro v0 w' hb
      obtain ⟨q, R'⟩ := Gone.qstp R (gone_of_below R.imm.lt hb)
      exact ⟨_, ρ, I, rfl, q.stp, R', .one (.imm (.lit rfl))⟩
    cases r0 with
    | imm hi => cases hi
    | @ref _ _ _ _ a cap hlc hor =>
      rcases hor with h0 | ⟨r, o, h1, h2, _⟩
      · subst h0
        have hz : len = 0 := by omega
        subst hz
        have hx0 : xs = [] := List.eq_nil_of_length_eq_zero hlen
        subst hx0
        refine (Any.strings_Join_none Tryd.laysJoin Tryd.extra a 0 sep w).mono ?_
        rintro e w' ⟨rfl, rfl⟩
        exact fin (v0 := .nilIface) (Below.refl _ w')
      · obtain ⟨hlt, _, hlies⟩ := R.blk b k r o hk h1
        rw [← hlen, h2]
        refine (Any.strings_Join Tryd.laysJoin Tryd.extra r (o + off * 1) cap xs sep w (fun j x hj => ?_) hlt hsz.1 (by omega) hsz.2).mono ?_
        · have hjl : j < len := by rw [← hlen]; exact (List.getElem?_eq_some_iff.1 hj).1
          have hrow : k.rows[off + j]? = some (strC x) := by
            have e1 : rows[j]? = some (strC x) := by rw [hrx, List.getElem?_map, hj]; rfl
            rw [← hrows, List.getElem?_take, if_pos hjl, List.getElem?_drop] at e1
            exact e1
          obtain ⟨_, hcell⟩ := hlies (off + j) (strC x) hrow
          obtain ⟨u, hu, _, hrep⟩ := hcell 0 (.lit (.string x)) rfl
          have hux : u = .string x := by cases hrep with | imm hi => cases hi; rfl
          subst hux
          rw [hc.1] at hu
          have he : o + off * 1 + j = o + ((off + j) * 1 + 0) := by omega
          rw [he]; exact hu
        · rintro e w' ⟨rfl, hb⟩
          exact fin (v0 := .nilIface) hb
  · cases hr
def joinK (h : Hp) (sep : ByteArray) : Option (List (List C)) → Option (V × Hp)
  | some rows =>
    match strsOf rows with
    | some xs => if xs.length ≤ 140737488355328 ∧ (Lib.join (xs.map (·.data.toList)) sep.data.toList).length ≤ 140737488355328 then some (.str (joinB xs sep), h) else none
    | none => none
  | none => none
theorem joinG_nil {sep : ByteArray} {h : Hp} : joinG [.one (.lit (.slice none 0 0)), .one (.lit (.string sep))] h = some (.str (joinB [] sep), h) := rfl
theorem joinG_ref {sep : ByteArray} {h : Hp} {b off len : Nat} : joinG [.one (.ref 1 b off len), .one (.lit (.string sep))] h = joinK h sep (rowsE h (.ref 1 b off len)) := by
  simp only [joinG, joinK]
theorem joinK_map {sep : ByteArray} {h : Hp} {xs : List ByteArray} (h1 : xs.length ≤ 140737488355328) (h2 : (Lib.join (xs.map (·.data.toList)) sep.data.toList).length ≤ 140737488355328) : joinK h sep (some (xs.map strC)) = some (.str (joinB xs sep), h) := by
  simp only [joinK, strsOf_map]
  rw [if_pos ⟨h1, h2⟩]
attribute [go_sem] joinG_nil joinG_ref joinK_map
def itoaG (args : List V) (h : Hp) : Option (V × Hp) :=
  match args with
  | [.one (.lit (.int .i64 n))] => if -9223372036854775808 ≤ n ∧ n ≤ 9223372036854775807 then some (.str (itoaB n), h) else none
  | _ => none
theorem itoaG_int {n : Int} {h : Hp} : itoaG [.one (.lit (.int .i64 n))] h = if -9223372036854775808 ≤ n ∧ n ≤ 9223372036854775807 then some (.str (itoaB n), h) else none := rfl
theorem below_grow (w : World) (k : Nat) (os : Array Obj) : Below w.heap.size w (Sort.grow (w.drewN k) os) := by
  refine ⟨rfl, rfl, rfl, ?_, fun r hr => ?_⟩
  · show w.heap.size ≤ (w.heap ++ os).size
    rw [Array.size_append]; omega
  · show (w.heap ++ os)[r]? = w.heap[r]?
    rw [Array.getElem?_append_left hr]
theorem itoa_ok : CallOk ⟨Tryd.prog, fun _ => .step, fun f args h => if f = 27 then itoaG args h else none⟩ := by
  intro f args h r h' hr
  simp only at hr
  split at hr
  case isFalse => cases hr
  rename_i hf
  subst hf
  have hex : ∃ fn, Tryd.prog.funcs[27]? = some fn ∧ fn.body.isSome = true ∧ fn.name ≠ "runtime.NumGoroutine" := ⟨Tryd.f27, Tryd.func27, rfl, by decide⟩
  unfold itoaG at hr
  split at hr
  case h_2 => cases hr
  rename_i n
  split at hr
  case isFalse => cases hr
  rename_i hn
  cases hr
  refine ⟨fun hok => ⟨hok, Nat.le_refl _⟩, hex, fun ρ I w vs hok d R hvs => ?_⟩
  have hl := hvs.1
  obtain ⟨v0, rfl⟩ : ∃ v0, vs = #[v0] := by
    obtain ⟨l⟩ := vs
    match l, hl with
    | [a], _ => exact ⟨a, rfl⟩
  have r0 := rep_one (hvs.2 0 _ _ rfl rfl)
  obtain rfl : v0 = .int .i64 n := by cases r0 with | imm hi => cases hi; rfl
  refine (Any.strconv_Itoa Tryd.laysItoa n hn.1 hn.2 w R.imm.tab.2).mono ?_
  rintro e w' ⟨rfl, k, os, rfl⟩
  obtain ⟨q, R'⟩ := Gone.qstp R (gone_of_below R.imm.lt (below_grow w k os))
  exact ⟨_, ρ, I, rfl, q.stp, R', .one (.imm (.lit rfl))⟩
def textExt : FuncId → Option (List V → Hp → Option (V × Hp)) := fun f => if f = 42 then some joinG else if f = 27 then some itoaG else none
theorem textExt_ok : ExtOk Tryd.prog textExt := by
  intro f g h
  unfold textExt at h
  split at h
  · rename_i hf
    cases h
    subst hf
    exact join_ok
  · split at h
    · rename_i hf
      cases h
      subst hf
      exact itoa_ok
    · cases h
end Go.Ev
