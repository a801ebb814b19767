/- One operation. -/
import Derived.Test.YtmfoddeecplibaaDoorE8
import Derived.ArgAppend
set_option linter.unusedVariables false
set_option linter.unusedSimpArgs false
namespace Go.Ev
variable {w : World} {ρ : Rho} {I : Nat → Prop} {h : Hp}

theorem wp_out [TInv] {P : Program} {o : Oper} {a : Act} {s : Sem Value} {v : V} {h' : Hp} (hx : execOp a.eval o = (do pure (.value (← s)))) (out : Out P ρ I h w v h' s) {K : Act → World → Prop} {Q : Exit → Act → World → Prop}
    (hK : ∀ v' w' ρ' I', QStp ρ I h w ρ' I' h' w' → More ρ ρ' → Rel ρ' I' h' w' → RepV ρ' I' w' v v' → K (a.put o.dst v') w') : o.wp P a w K Q := by
  obtain ⟨v', w', ρ', I', hr, q, m, R', hv⟩ := out
  unfold Oper.wp
  rw [hx]
  simp only [Sem.run_bind, hr, Result.andThen_ok, Sem.run_pure, Oper.upon]
  exact hK v' w' ρ' I' q m R' hv

theorem parts_rep {σ : St} {a : Act} {parts : Array (Nat × Operand)} (he : ∀ x ∈ (parts.toList.map (·.2)).toArray, RepV ρ I w (σ.eval x) (a.eval x)) :
    (parts.toList.map fun (i, x) => (i, σ.eval x)).length = (parts.map fun (i, x) => (i, a.eval x)).toList.length ∧
    ∀ (j : Nat) (p : Nat × V) (p' : Nat × Value), (parts.toList.map fun (i, x) => (i, σ.eval x))[j]? = some p → (parts.map fun (i, x) => (i, a.eval x)).toList[j]? = some p' → p.1 = p'.1 ∧ RepV ρ I w p.2 p'.2 := by
  refine ⟨by simp, fun j p p' h1 h2 => ?_⟩
  simp only [List.getElem?_map, Option.map_eq_some_iff, Array.toList_map] at h1 h2
  obtain ⟨q, hq, rfl⟩ := h1
  obtain ⟨q', hq', rfl⟩ := h2
  rw [hq] at hq'; cases hq'
  refine ⟨rfl, he _ ?_⟩
  simp only [List.mem_toArray, List.mem_map]
  exact ⟨q, List.mem_of_getElem? hq, rfl⟩

theorem args_rep {σ : St} {a : Act} {args : Array Operand} (he : ∀ x ∈ args, RepV ρ I w (σ.eval x) (a.eval x)) : RepVs ρ I w (args.toList.map σ.eval) (args.map a.eval).toList := by
  refine ⟨by simp, fun j x v h1 h2 => ?_⟩
  simp only [List.getElem?_map, Option.map_eq_some_iff, Array.toList_map] at h1 h2
  obtain ⟨q, hq, rfl⟩ := h1
  obtain ⟨q', hq', rfl⟩ := h2
  rw [hq] at hq'; cases hq'
  exact he q (by simpa using List.mem_of_getElem? hq)

theorem caps_rep : ∀ (xs : List V) (cs : List C), capsE xs = some cs → ∀ {vs : List Value}, RepVs ρ I w xs vs → RepL ρ I w cs vs
  | [], cs, hc, vs, hr => by
    simp only [capsE, Option.some.injEq] at hc
    subst hc
    exact ⟨hr.1, fun j c v hc _ => by simp at hc⟩
  | x :: xs, cs, hc, vs, hr => by
    unfold capsE at hc
    split at hc
    · rename_i heq; cases heq
    · rename_i c r heq
      cases heq
      simp only [Option.map_eq_some_iff] at hc
      obtain ⟨cs', hcs', rfl⟩ := hc
      cases vs with
      | nil => have := hr.1; simp at this
      | cons v vs =>
        obtain ⟨h1, h2⟩ := caps_rep _ cs' hcs' (vs := vs) ⟨by simpa using hr.1, fun j x v hx hv => hr.2 (j + 1) x v (by simpa using hx) (by simpa using hv)⟩
        refine ⟨by simp [h1], fun j y u hy hu => ?_⟩
        cases j with
        | zero => simp at hy hu; subst hy; subst hu; exact rep_one (hr.2 0 _ _ rfl rfl)
        | succ j => exact h2 j y u (by simpa using hy) (by simpa using hu)
    · cases hc

theorem RepVs.append {xs ys : List V} {vs us : List Value} (h1 : RepVs ρ I w xs vs) (h2 : RepVs ρ I w ys us) : RepVs ρ I w (xs ++ ys) (vs ++ us) := by
  refine ⟨by simp [h1.1, h2.1], fun j x v hx hv => ?_⟩
  rw [List.getElem?_append] at hx hv
  by_cases hj : j < xs.length
  · rw [if_pos hj] at hx; rw [if_pos (by rw [← h1.1]; exact hj)] at hv
    exact h1.2 j x v hx hv
  · rw [if_neg hj] at hx; rw [if_neg (by rw [← h1.1]; exact hj)] at hv
    rw [← h1.1] at hv
    exact h2.2 _ x v hx hv

/-- The way of a call of a Go function, up to the call itself. -/
theorem wp_call {c : Cfg} {o : Oper} {a : Act} {f : FuncId} {vs : Array Value} {K : Act → World → Prop} {Q : Exit → Act → World → Prop}
    (hx : execOp a.eval o = callFunc f vs) (hf : ∃ fn, c.P.funcs[f]? = some fn ∧ fn.body.isSome = true ∧ fn.name ≠ "runtime.NumGoroutine")
    {R : Ending → World → Prop} (hc : Calls c.P f vs w R) (hK : ∀ e w', R e w' → ∃ v', e = .returned v' ∧ K (a.put o.dst v') w') : o.wp c.P a w K Q := by
  obtain ⟨fn, h1, h2, h3⟩ := hf
  obtain ⟨body, hb⟩ := Option.isSome_iff_exists.1 h2
  unfold Oper.wp
  rw [hx]
  have hr : (callFunc f vs).run c.P w = .ok (.enter f vs) w := by
    unfold callFunc
    simp only [Sem.run_bind, run_program, Result.andThen_ok, h1, hb, Option.isNone_some, Bool.false_eq_true, if_false, Sem.run_ite, Sem.run_pure]
    rw [if_neg (by simpa using h3)]
  rw [hr]
  simp only [Oper.upon]
  refine hc.mono fun e w' he => ?_
  obtain ⟨v', rfl, hk⟩ := hK e w' he
  exact hk

theorem quiet_ok [TInv] {c : Cfg} (hc : CallOk c) {o : Oper} {σ : St} {v : V} {h' : Hp} (ho : opE c o σ = some (v, h')) (ht : touch c.mode o.op ≤ 1) {a : Act} (R : Rel ρ I σ.hp w)
    (he : ∀ x ∈ o.op.operands, RepV ρ I w (σ.eval x) (a.eval x)) (hn : ∀ b, σ.hp.next ≤ b → b < h'.next → ρ b = none) {K : Act → World → Prop} {Q : Exit → Act → World → Prop}
    (hK : ∀ v' w' ρ' I', QStp ρ I σ.hp w ρ' I' h' w' → More ρ ρ' → Rel ρ' I' h' w' → RepV ρ' I' w' v v' → K (a.put o.dst v') w') : o.wp c.P a w K Q := by
  obtain ⟨dst, op, type, pos, after, guard⟩ := o
  have one : ∀ x, x ∈ (op.operands) → RepV ρ I w (σ.eval x) (a.eval x) := he
  clear he
  cases op with
  | move x =>
    simp only [opE, Option.some.injEq, Prod.mk.injEq] at ho
    obtain ⟨rfl, rfl⟩ := ho
    exact wp_out (s := pure (a.eval x)) rfl (Out.same R rfl (one x (by simp [Op.operands]))) hK
  | assign x =>
    simp only [opE, Option.some.injEq, Prod.mk.injEq] at ho
    obtain ⟨rfl, rfl⟩ := ho
    exact wp_out (s := pure (a.eval x)) rfl (Out.same R rfl (one x (by simp [Op.operands]))) hK
  | pick b x y =>
    simp only [opE] at ho
    split at ho
    · rename_i t hb
      simp only [Option.some.injEq, Prod.mk.injEq] at ho
      obtain ⟨rfl, rfl⟩ := ho
      have h1 := one b (by simp [Op.operands])
      rw [hb] at h1
      have h2 := repV_lit h1
      refine wp_out (s := pure (if t then a.eval x else a.eval y)) ?_ (Out.same R rfl ?_) hK
      · simp only [execOp, h2, asBool]; rfl
      · cases t
        · exact one y (by simp [Op.operands])
        · exact one x (by simp [Op.operands])
    · cases ho
  | alloc t =>
    simp only [opE] at ho
    split at ho
    · rename_i s z hs hz
      split at ho
      · rename_i hl
        simp only [Option.some.injEq, Prod.mk.injEq] at ho
        obtain ⟨rfl, rfl⟩ := ho
        exact wp_out rfl (out_alloc R (hn _ (Nat.le_refl _) (by simp [Hp.new])) hs hz hl) hK
      · cases ho
    · cases ho
  | box t x =>
    simp only [opE] at ho
    split at ho
    · rename_i s hs
      split at ho
      · rename_i hl
        simp only [Option.some.injEq, Prod.mk.injEq] at ho
        obtain ⟨rfl, rfl⟩ := ho
        exact wp_out rfl (out_box R (hn _ (Nat.le_refl _) (by simp [Hp.new])) (one x (by simp [Op.operands])) hl) hK
      · cases ho
    · cases ho
  | build t parts =>
    simp only [opE, Option.map_eq_some_iff, Prod.mk.injEq] at ho
    obtain ⟨v0, hb, rfl, rfl⟩ := ho
    obtain ⟨h1, h2⟩ := parts_rep (ρ := ρ) (I := I) (w := w) (σ := σ) (a := a) (parts := parts) (fun x hx => one x (by simpa [Op.operands] using hx))
    exact wp_out rfl (out_build R hb h1 h2) hK
  | buildSlice t len parts =>
    simp only [opE] at ho
    obtain ⟨h1, h2⟩ := parts_rep (ρ := ρ) (I := I) (w := w) (σ := σ) (a := a) (parts := parts) (fun x hx => one x (by simpa [Op.operands] using hx))
    exact wp_out rfl (out_buildSlice R hn ho h1 h2) hK
  | load t x =>
    simp only [opE, Option.map_eq_some_iff, Prod.mk.injEq] at ho
    obtain ⟨v0, hb, rfl, rfl⟩ := ho
    exact wp_out rfl (out_load R hb (one x (by simp [Op.operands]))) hK
  | store t x y => simp [touch] at ht
  | nilCheck x =>
    have h1 := one x (by simp [Op.operands])
    simp only [opE] at ho
    split at ho
    · rename_i s b r f hx
      simp only [Option.some.injEq, Prod.mk.injEq] at ho
      obtain ⟨rfl, rfl⟩ := ho
      rw [hx] at h1
      obtain ⟨ad, had⟩ := out_nilCheck R h1 (.inl ⟨s, b, r, f, rfl⟩)
      refine wp_out (s := pure (a.eval x)) ?_ (Out.same R rfl (by exact h1)) hK
      simp only [execOp, had]; rfl
    · rename_i cs hx
      simp only [Option.some.injEq, Prod.mk.injEq] at ho
      obtain ⟨rfl, rfl⟩ := ho
      rw [hx] at h1
      obtain ⟨ad, had⟩ := out_nilCheck R h1 (.inr ⟨cs, rfl⟩)
      refine wp_out (s := pure (a.eval x)) ?_ (Out.same R rfl (by exact h1)) hK
      simp only [execOp, had]; rfl
    · cases ho
  | binOp op t x y u =>
    simp only [opE, Option.map_eq_some_iff, Prod.mk.injEq] at ho
    obtain ⟨v0, hb, rfl, rfl⟩ := ho
    exact wp_out rfl (out_binOp (ox := x) (oy := y) R hb (one x (by simp [Op.operands])) (one y (by simp [Op.operands]))) hK
  | unOp op t x =>
    simp only [opE, Option.map_eq_some_iff, Prod.mk.injEq] at ho
    obtain ⟨v0, hb, rfl, rfl⟩ := ho
    exact wp_out rfl (out_unOp R hb (one x (by simp [Op.operands]))) hK
  | convert s d x =>
    simp only [opE] at ho
    exact wp_out rfl (out_convert R hn ho (one x (by simp [Op.operands]))) hK
  | makeFunc fn first captured =>
    cases fn with
    | func f =>
      simp only [opE] at ho
      split at ho
      · rename_i hz
        simp only [Option.map_eq_some_iff, Prod.mk.injEq] at ho
        obtain ⟨cs, hcs, rfl, rfl⟩ := ho
        obtain ⟨g1, g2⟩ := caps_rep _ _ hcs (args_rep (ρ := ρ) (I := I) (w := w) (σ := σ) (a := a) (args := captured) (fun x hx => one x (by simp [Op.operands]; exact .inr hx)))
        have hf : first = #[] := Array.eq_empty_of_size_eq_zero hz
        subst hf
        refine wp_out (s := pure (.func (.func f) #[] (captured.map a.eval))) (by simp [execOp, Instr.makeFunc]) (Out.same R rfl (.one (.fn ?_ ?_))) hK
        · simpa using g1
        · intro j c v hc hv; exact g2 j c v hc (by simpa using hv)
      · cases ho
    | _ => simp [opE] at ho
  | makeSlice t l k =>
    simp only [opE] at ho
    exact wp_out rfl (out_makeSlice R hn ho (one l (by simp [Op.operands])) (one k (by simp [Op.operands]))) hK
  | slice t x lo hi mx =>
    cases mx with
    | some m => simp [opE] at ho
    | none =>
      simp only [opE, Option.map_eq_some_iff, Prod.mk.injEq] at ho
      obtain ⟨v0, hb, rfl, rfl⟩ := ho
      refine wp_out rfl (out_slice (lo' := lo.map a.eval) (hi' := hi.map a.eval) R hb (one x (by simp [Op.operands])) ?_ ?_ ?_ ?_) hK
      · intro v hv
        obtain ⟨y, rfl, rfl⟩ := Option.map_eq_some_iff.1 hv
        exact ⟨_, rfl, one y (by simp [Op.operands])⟩
      · intro hv; simp only [Option.map_eq_none_iff] at hv ⊢; exact hv
      · intro v hv
        obtain ⟨y, rfl, rfl⟩ := Option.map_eq_some_iff.1 hv
        exact ⟨_, rfl, one y (by simp [Op.operands])⟩
      · intro hv; simp only [Option.map_eq_none_iff] at hv ⊢; exact hv
  | fieldAddr t x f =>
    simp only [opE, Option.map_eq_some_iff, Prod.mk.injEq] at ho
    obtain ⟨v0, hb, rfl, rfl⟩ := ho
    exact wp_out rfl (out_fieldAddr R hb (one x (by simp [Op.operands]))) hK
  | field t x f =>
    simp only [opE, Option.map_eq_some_iff, Prod.mk.injEq] at ho
    obtain ⟨v0, hb, rfl, rfl⟩ := ho
    exact wp_out rfl (out_field R hb (one x (by simp [Op.operands]))) hK
  | indexAddr t x i =>
    simp only [opE, Option.map_eq_some_iff, Prod.mk.injEq] at ho
    obtain ⟨v0, hb, rfl, rfl⟩ := ho
    exact wp_out rfl (out_indexAddr R hb (one x (by simp [Op.operands])) (one i (by simp [Op.operands]))) hK
  | index t x i =>
    simp only [opE, Option.map_eq_some_iff, Prod.mk.injEq] at ho
    obtain ⟨v0, hb, rfl, rfl⟩ := ho
    exact wp_out rfl (out_index R hb (one x (by simp [Op.operands])) (one i (by simp [Op.operands]))) hK
  | extract x i =>
    have h1 := one x (by simp [Op.operands])
    simp only [opE] at ho
    split at ho
    · rename_i vs hx
      simp only [Option.map_eq_some_iff, Prod.mk.injEq] at ho
      obtain ⟨v0, hv0, rfl, rfl⟩ := ho
      rw [hx] at h1
      generalize ha : a.eval x = ax at h1
      cases h1 with
      | @tup _ us h2 h3 =>
        have hlt : i < us.size := by rw [← h2]; exact (List.getElem?_eq_some_iff.1 hv0).1
        refine wp_out (s := pure us[i]) ?_ (Out.same R rfl (h3 i v0 _ hv0 (Array.getElem?_eq_getElem hlt))) hK
        simp [execOp, ha, Instr.extract, Array.getElem?_eq_getElem hlt]
    · cases ho
  | call k =>
    obtain ⟨callee, args, argTypes⟩ := k
    cases callee with
    | builtin b =>
      cases b with
      | len =>
        simp only [opE] at ho
        split at ho
        · rename_i x t hx htl
          simp only [Option.map_eq_some_iff, Prod.mk.injEq] at ho
          obtain ⟨v0, hb, rfl, rfl⟩ := ho
          have ha : args = #[x] := Array.toList_inj.1 hx
          have hat : argTypes = #[t] := Array.toList_inj.1 htl
          subst ha; subst hat
          refine wp_out (s := Builtin.len_ #[t] type #[a.eval x]) ?_ (out_len R hb (one x (by simp [Op.operands, Call.operands]))) hK
          simp [execOp, resolve, invoke, builtin]
        · cases ho
      | min =>
        simp only [opE] at ho
        split at ho
        · rename_i x0 rest hx
          simp only [Option.map_eq_some_iff, Prod.mk.injEq] at ho
          obtain ⟨v0, hb, rfl, rfl⟩ := ho
          have hr := args_rep (ρ := ρ) (I := I) (w := w) (σ := σ) (a := a) (args := args) (fun x hx => one x (by simpa [Op.operands, Call.operands] using hx))
          rw [hx] at hr
          cases hv : (args.map a.eval).toList with
          | nil => have := hr.1; rw [hv] at this; simp at this
          | cons v1 vs1 =>
            rw [hv] at hr
            obtain ⟨v', g1, g2⟩ := out_min (P := c.P) (w := w) (ρ := ρ) (I := I) (f := fun x y => if y < x then y else x) (g := Builtin.min2) (fun k k' x y => by simp [Builtin.min2]) rest x0 v0 v1 vs1 hb (hr.2 0 _ _ rfl rfl) ⟨by simpa using hr.1, fun j x v hx hv => hr.2 (j + 1) x v (by simpa using hx) (by simpa using hv)⟩
            refine wp_out (s := Builtin.min_ argTypes type (args.map a.eval)) ?_ (Out.same R (v' := v') ?_ g2) hK
            · simp [execOp, resolve, invoke, builtin]
            · unfold Builtin.min_; rw [hv]; exact g1
        · cases ho
      | max =>
        simp only [opE] at ho
        split at ho
        · rename_i x0 rest hx
          simp only [Option.map_eq_some_iff, Prod.mk.injEq] at ho
          obtain ⟨v0, hb, rfl, rfl⟩ := ho
          have hr := args_rep (ρ := ρ) (I := I) (w := w) (σ := σ) (a := a) (args := args) (fun x hx => one x (by simpa [Op.operands, Call.operands] using hx))
          rw [hx] at hr
          cases hv : (args.map a.eval).toList with
          | nil => have := hr.1; rw [hv] at this; simp at this
          | cons v1 vs1 =>
            rw [hv] at hr
            obtain ⟨v', g1, g2⟩ := out_min (P := c.P) (w := w) (ρ := ρ) (I := I) (f := fun x y => if y > x then y else x) (g := Builtin.max2) (fun k k' x y => by simp [Builtin.max2]) rest x0 v0 v1 vs1 hb (hr.2 0 _ _ rfl rfl) ⟨by simpa using hr.1, fun j x v hx hv => hr.2 (j + 1) x v (by simpa using hx) (by simpa using hv)⟩
            refine wp_out (s := Builtin.max_ argTypes type (args.map a.eval)) ?_ (Out.same R (v' := v') ?_ g2) hK
            · simp [execOp, resolve, invoke, builtin]
            · unfold Builtin.max_; rw [hv]; exact g1
        · cases ho
      | _ => simp [touch] at ht
    | value fo =>
      cases fo with
      | func f =>
        have hm : c.mode f = .look ∨ c.mode f = .plain := by
          simp only [touch] at ht
          cases hmf : c.mode f <;> simp [hmf] at ht
          · exact .inl rfl
          · exact .inr rfl
        have hev : σ.eval (.func f) = .one (.fn f []) := rfl
        simp only [opE, hev, List.map_nil, List.append_nil] at ho
        have hr := args_rep (ρ := ρ) (I := I) (w := w) (σ := σ) (a := a) (args := args) (fun x hx => one x (by simp [Op.operands, Call.operands]; exact .inr hx))
        obtain ⟨hf, hcalls⟩ := quiet_call hc hm ho R hr
        refine wp_call (c := c) (f := f) (vs := args.map a.eval) ?_ hf hcalls ?_
        · simp [execOp, resolve, Deferred.ofValue, invoke, Act.eval]
        · rintro e w' ⟨v', I', rfl, q, R', hv⟩
          exact ⟨v', rfl, hK v' w' ρ I' q (.refl _) R' hv⟩
      | _ => simp [touch] at ht
    | invoke _ _ => simp [touch] at ht
  | _ => simp [touch] at ht

end Go.Ev
