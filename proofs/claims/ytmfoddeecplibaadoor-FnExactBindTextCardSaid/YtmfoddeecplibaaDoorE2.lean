/- Numbers, strings, bools, structs: what the evaluator reckons is what the machine does. -/
import Derived.Test.YtmfoddeecplibaaDoorE1
import Derived.Laws.StructEq
set_option linter.unusedVariables false
set_option linter.unusedSimpArgs false
namespace Go.Ev
variable {P : Program} {w : World} {ρ : Rho} {I : Nat → Prop}

theorem repV_lit {u v : Value} (h : RepV ρ I w (.one (.lit u)) v) : v = u := by
  cases h with
  | one h => cases h with
    | imm h => cases h with
      | lit h => rfl
theorem rep_lit {u v : Value} (h : Rep ρ I w (.lit u) v) : v = u := by
  cases h with
  | imm h => cases h with
    | lit h => rfl
theorem rep_one {c : C} {v : Value} (h : RepV ρ I w (.one c) v) : Rep ρ I w c v := by cases h; assumption
theorem rep_agg {cs : List C} {v : Value} (h : RepV ρ I w (.agg cs) v) : ∃ vs, v = .agg vs ∧ RepL ρ I w cs vs.toList := by
  cases h; exact ⟨_, rfl, by assumption⟩
theorem rep_mk {u : Value} (h : u.oneCell' = true) : RepV ρ I w (.one (.lit u)) u := .one (.imm (.lit h))

/-- What stands in one cell is one cell. -/
theorem RepI.cell {c : C} {v : Value} (h : RepI I w c v) : v.oneCell' = true := by cases h <;> first | assumption | rfl
theorem Rep.cell {c : C} {v : Value} (h : Rep ρ I w c v) : v.oneCell' = true := by
  cases h with
  | imm h => exact h.cell
  | ref => rfl
  | ptr => rfl
  | fn => rfl
theorem RepL.cell {cs : List C} {vs : List Value} (h : RepL ρ I w cs vs) : ∀ v ∈ vs, v.oneCell' = true := fun v hv => by
  obtain ⟨j, hj, rfl⟩ := List.getElem_of_mem hv
  have hj' : j < cs.length := by rw [h.1]; exact hj
  exact (h.2 j cs[j] vs[j] (List.getElem?_eq_getElem hj') (List.getElem?_eq_getElem hj)).cell

theorem bitsBack (k : IntKind) (x : BitVec k.bits) : ((pure (.int k (k.wrap x.toNat)) : Sem Value)).run P w = .ok (.int k (k.wrap x.toNat)) w := rfl

theorem binInt_ok {op : BinOp} {k : IntKind} {x y : Int} {t : TypeId} {v : V} (hs : op ≠ .shl) (hs' : op ≠ .shr) (h : binInt op k x y = some v) :
    ∃ u, v = .one (.lit u) ∧ u.oneCell' = true ∧ (binOp op t (.int k x) (.int k y)).run P w = .ok u w := by
  cases op <;> simp only [binInt, Option.some.injEq] at h <;> first
    | (cases h; done)
    | exact absurd rfl hs
    | exact absurd rfl hs'
    | (subst h; exact ⟨_, rfl, rfl, by simp [binOp, Op.intArith, Op.intBits, Op.intCmp]⟩)
    | (split at h
       · cases h
       · rename_i hz; cases h; exact ⟨_, rfl, rfl, by simp [binOp, Op.intDiv, hz]⟩)

theorem binShift_ok {op : BinOp} {k k' : IntKind} {x y : Int} {t : TypeId} {v : V} (h : binShift op k x y = some v) :
    ∃ u, v = .one (.lit u) ∧ u.oneCell' = true ∧ (binOp op t (.int k x) (.int k' y)).run P w = .ok u w := by
  unfold binShift at h
  split at h
  · cases h
  · rename_i hz
    cases op <;> simp only [Option.some.injEq] at h <;> first
      | (cases h; done)
      | (subst h; exact ⟨_, rfl, rfl, by simp [binOp, Op.shift, hz]⟩)

theorem binStr_ok {op : BinOp} {x y : ByteArray} {t : TypeId} {v : V} (h : binStr op x y = some v) :
    ∃ u, v = .one (.lit u) ∧ u.oneCell' = true ∧ (binOp op t (.string x) (.string y)).run P w = .ok u w := by
  cases op <;> simp only [binStr, Option.some.injEq] at h <;> first
    | (cases h; done)
    | (subst h; exact ⟨_, rfl, rfl, by simp [binOp, Op.stringOp]⟩)
    | (split at h
       · rename_i hz; cases h
         refine ⟨_, rfl, rfl, ?_⟩
         have : ¬ (((x.size + y.size : Nat) : Int) > IntKind.i64.max) := by
           have : IntKind.i64.max = 9223372036854775807 := by decide
           rw [this]; omega
         simp only [binOp, Op.stringOp, this, if_false, Sem.run_pure]
       · cases h)

theorem run_isAgg (t : TypeId) (d : TypeDesc) (h : P.underlying t = some d) : (isAgg t).run P w = .ok (isAggD (some d)) w := by
  unfold isAgg
  simp only [Sem.run_bind, run_underlying h, Result.andThen_ok]
  cases d <;> rfl

theorem run_sizeOf' (t : TypeId) (k : Nat) (h : sizeT P t = some k) : (sizeOf t).run P w = .ok k w := by
  unfold sizeT at h
  cases hi : P.info? t with
  | none => simp [hi] at h
  | some i =>
    simp [hi] at h
    simp [sizeOf, typeInfo, hi, h]

theorem underlying_of_size {t : TypeId} {k : Nat} (h : sizeT P t = some k) : (∃ d, P.underlying t = some d) ∨ P.underlying t = none := by
  cases P.underlying t with
  | none => exact .inr rfl
  | some d => exact .inl ⟨d, rfl⟩

/-- A value of type t out of cells. -/
def IsT (P : Program) (ρ : Rho) (I : Nat → Prop) (w : World) (t : TypeId) (cs : List C) (v : Value) : Prop :=
  if isAggD (P.underlying t) then ∃ vs : Array Value, v = .agg vs ∧ RepL ρ I w cs vs.toList else ∃ c, cs = [c] ∧ Rep ρ I w c v

theorem RepL.sub {cs : List C} {vs : List Value} (h : RepL ρ I w cs vs) (o k : Nat) : RepL ρ I w ((cs.drop o).take k) ((vs.drop o).take k) := by
  refine ⟨by simp [h.1], fun j c v hc hv => ?_⟩
  rw [List.getElem?_take] at hc hv
  split at hc
  · rename_i hj
    rw [if_pos hj] at hv
    rw [List.getElem?_drop] at hc hv
    exact h.2 _ c v hc hv
  · cases hc

theorem run_part {t : TypeId} {d : TypeDesc} (hd : P.underlying t = some d) {k : Nat} (hk : sizeT P t = some k) {cs : List C} {vs : Array Value} (h : RepL ρ I w cs vs.toList) {o : Nat} (ho : o + k ≤ cs.length)
    (h1 : isAggD (some d) = false → k = 1) :
    ∃ v, (part t vs o).run P w = .ok v w ∧ IsT P ρ I w t ((cs.drop o).take k) v := by
  unfold part IsT
  simp only [Sem.run_bind, run_isAgg t d hd, Result.andThen_ok, hd]
  have hl : cs.length = vs.size := by rw [h.1]; simp
  cases ha : isAggD (some d) with
  | true =>
    simp only [if_true, Sem.run_bind, run_sizeOf' t k hk, Result.andThen_ok, Sem.run_pure]
    refine ⟨_, rfl, _, rfl, ?_⟩
    have := h.sub o k
    rw [Array.toList_extract, List.extract_eq_take_drop]
    rw [show o + k - o = k by omega]
    exact this
  | false =>
    have k1 := h1 ha
    subst k1
    have hlt : o < vs.size := by omega
    simp only [Bool.false_eq_true, if_false, Array.getElem?_eq_getElem hlt, Sem.run_pure]
    refine ⟨_, rfl, cs[o]'(by omega), ?_, ?_⟩
    · apply List.ext_getElem?
      intro j
      rw [List.getElem?_take, List.getElem?_drop]
      cases j with
      | zero => simp [List.getElem?_eq_getElem (show o < cs.length by omega)]
      | succ j => simp
    · refine h.2 o _ _ (List.getElem?_eq_getElem (by omega)) ?_
      rw [Array.getElem?_toList, Array.getElem?_eq_getElem hlt]

theorem eqCell_ok {d : TypeDesc} {t : TypeId} (hd : P.underlying t = some d) {x y : C} {b : Bool} (h : eqCell d x y = some b) {u v : Value} (hx : Rep ρ I w x u) (hy : Rep ρ I w y v) (D : Nat) :
    (Op.equalIn (D + 1) t u v).run P w = .ok b w := by
  unfold eqCell at h
  split at h
  · split at h
    · cases h
      rw [rep_lit hx, rep_lit hy]
      simp [Op.equalIn, run_underlying hd]
    · cases h
  · split at h
    · split at h
      · rename_i hk; cases h
        subst hk
        rw [rep_lit hx, rep_lit hy]
        simp [Op.equalIn, run_underlying hd]
      · cases h
    · cases h
  · split at h
    · cases h
      rw [rep_lit hx, rep_lit hy]
      simp [Op.equalIn, run_underlying hd]
    · cases h
  · cases h

theorem eqT_one {n : Nat} {t : TypeId} {xs ys : List C} {b : Bool} (h : eqT P (n + 1) t xs ys = some b) (ha : isAggD (P.underlying t) = false) :
    ∃ x y d, xs = [x] ∧ ys = [y] ∧ P.underlying t = some d ∧ eqCell d x y = some b := by
  unfold eqT at h
  split at h
  · rename_i hd; rw [hd] at ha; cases ha
  · cases h
  · rename_i d _ _ hd
    split at h
    · rename_i x y
      exact ⟨x, y, d, rfl, rfl, hd, h⟩
    · cases h
  · cases h

theorem eqT_ok : ∀ (n : Nat) (t : TypeId) (cs ds : List C) (b : Bool), eqT P n t cs ds = some b → ∀ D, n ≤ D → ∀ x y, IsT P ρ I w t cs x → IsT P ρ I w t ds y → (Op.equalIn D t x y).run P w = .ok b w
  | 0, _, _, _, _, h => by simp [eqT] at h
  | n + 1, t, cs, ds, b, h => by
    intro D hD x y hx hy
    obtain ⟨D, rfl⟩ : ∃ D', D = D' + 1 := ⟨D - 1, by omega⟩
    by_cases ha : isAggD (P.underlying t) = true
    · unfold IsT at hx hy
      rw [if_pos ha] at hx hy
      obtain ⟨vs, rfl, hvs⟩ := hx
      obtain ⟨us, rfl, hus⟩ := hy
      unfold eqT at h
      split at h
      · rename_i fs hd
        split at h
        · cases h
        · rename_i hz
          simp only [Bool.or_eq_true, not_or, Bool.not_eq_true] at hz
          have hf : P.fieldsOf t = fs := by unfold Program.fieldsOf; rw [hd]
          rw [run_equalIn_struct w D t vs us (by rw [hf]; exact hd) hz.1, hf]
          clear hd ha hf hz
          generalize fs.toList = l at h
          induction l with
          | nil => simp only [eqFs, Option.some.injEq] at h; subst h; rfl
          | cons f fs ih =>
            simp only [eqFs] at h
            split at h
            · cases h
            · rename_i hn
              split at h
              · cases h
              · rename_i k hk
                split at h
                · cases h
                · rename_i hlen
                  simp only [not_or, Nat.not_lt] at hlen
                  split at h
                  · cases h
                  · rename_i b' hb
                    simp only [Op.eqFields, hn, ne_eq, not_false_eq_true, if_true, Sem.run_bind]
                    cases n with
                    | zero => simp [eqT] at hb
                    | succ n =>
                      cases hdf : P.underlying f.type with
                      | none => simp [eqT, hdf] at hb
                      | some df =>
                        have hone : isAggD (some df) = false → k = 1 := fun h0 => by
                          obtain ⟨x, y, d, h1, _⟩ := eqT_one hb (by rw [hdf]; exact h0)
                          have := congrArg List.length h1
                          simp at this
                          omega
                        obtain ⟨v1, hr1, ht1⟩ := run_part hdf hk hvs hlen.1 hone
                        obtain ⟨v2, hr2, ht2⟩ := run_part hdf hk hus hlen.2 hone
                        have he := eqT_ok (n + 1) f.type _ _ b' hb D (by omega) v1 v2 ht1 ht2
                        simp only [hr1, hr2, he, Result.andThen_ok]
                        cases b' with
                        | true => simp only [if_true] at h; simp only [Bool.not_true, Bool.false_eq_true, if_false]; exact ih h
                        | false => simp only [Bool.false_eq_true, if_false, Option.some.injEq] at h; subst h; simp
      · cases h
      · rename_i d h1 h2 hd
        rw [hd] at ha
        unfold isAggD at ha
        split at ha
        · rename_i hs; cases hs; exact (h1 _ rfl).elim
        · rename_i hs; cases hs; exact (h2 _ _ rfl).elim
        · cases ha
      · cases h
    · unfold IsT at hx hy
      rw [if_neg ha] at hx hy
      obtain ⟨cx, rfl, hrx⟩ := hx
      obtain ⟨cy, rfl, hry⟩ := hy
      obtain ⟨x', y', d, h1, h2, hd, he⟩ := eqT_one h (by simpa using ha)
      cases h1; cases h2
      exact eqCell_ok hd he hrx hry D

end Go.Ev
