/- What an operation does to the evaluator's heap, by its text alone. -/
import Derived.Test.YtmfoddeecplibaaDoorEC
set_option linter.unusedVariables false
set_option linter.unusedSimpArgs false
namespace Go.Ev
variable {h h' : Hp}

structure Grow (h h' : Hp) : Prop where
  next : h.next ≤ h'.next
  at_ : ∀ b, b < h.next ∨ h'.next ≤ b → h'.at_ b = h.at_ b

theorem Grow.refl (h : Hp) : Grow h h := ⟨Nat.le_refl _, fun _ _ => rfl⟩
theorem Grow.trans {a b c : Hp} (x : Grow a b) (y : Grow b c) : Grow a c :=
  ⟨Nat.le_trans x.next y.next, fun n hn => by
    have h1 := x.next; have h2 := y.next
    rcases hn with hn | hn
    · rw [y.at_ n (.inl (by omega)), x.at_ n (.inl hn)]
    · rw [y.at_ n (.inr hn), x.at_ n (.inr (by omega))]⟩
theorem Grow.new (h : Hp) (k : Blk) : Grow h (h.new k) := ⟨Nat.le_succ _, fun b hb => by
  simp only [Hp.new] at hb ⊢
  rw [upd_other]; omega⟩
theorem Grow.ok (g : Grow h h') (ho : HpOk h) : HpOk h' := fun b hb => by
  rw [g.at_ b (.inr hb)]; exact ho b (Nat.le_trans g.next hb)

theorem eval_hp (σ : St) (h2 : Hp) (x : Operand) : ({ σ with hp := h2 } : St).eval x = σ.eval x := by cases x <;> rfl
theorem eval_hp' [TInv] (σ : St) (h2 : Hp) : ({ σ with hp := h2 } : St).eval = σ.eval := funext (eval_hp σ h2)

theorem buildSlice_grow [TInv] {P : Program} {t : TypeId} {len : Nat} {parts : List (Nat × V)} {v : V} (hb : buildSliceE P h t len parts = some (v, h')) : Grow h h' := by
  unfold buildSliceE at hb
  split at hb
  · cases hb
  · split at hb
    · split at hb
      · split at hb
        · simp only [Option.some.injEq, Prod.mk.injEq] at hb; obtain ⟨_, rfl⟩ := hb; exact Grow.new _ _
        · cases hb
      · cases hb
    · cases hb
theorem makeSlice_grow [TInv] {P : Program} {t : TypeId} {l k : V} {v : V} (hb : makeSliceE P h t l k = some (v, h')) : Grow h h' := by
  unfold makeSliceE at hb
  split at hb
  · split at hb
    · split at hb
      · simp only [Option.some.injEq, Prod.mk.injEq] at hb; obtain ⟨_, rfl⟩ := hb; exact Grow.new _ _
      · cases hb
    · cases hb
  · cases hb
theorem convert_grow [TInv] {P : Program} {s d : TypeId} {x : V} {v : V} (hb : convertE P h s d x = some (v, h')) : Grow h h' := by
  unfold convertE at hb
  split at hb
  · simp only [Option.some.injEq, Prod.mk.injEq] at hb; obtain ⟨_, rfl⟩ := hb; exact Grow.refl _
  · simp only [Option.some.injEq, Prod.mk.injEq] at hb; obtain ⟨_, rfl⟩ := hb; exact Grow.refl _
  · split at hb
    · simp only [Option.some.injEq, Prod.mk.injEq] at hb; obtain ⟨_, rfl⟩ := hb; exact Grow.new _ _
    · cases hb
  · split at hb
    · split at hb
      · simp only [Option.some.injEq, Prod.mk.injEq] at hb; obtain ⟨_, rfl⟩ := hb; exact Grow.refl _
      · cases hb
    · cases hb
  · cases hb

theorem call_same {c : Cfg} {f : FuncId} {args : List V} {v : V} (hm : c.mode f = .look ∨ c.mode f = .plain) (hb : callE c f args h = some (v, h')) : h' = h := by
  unfold callE at hb
  rcases hm with hm | hm
  · rw [hm] at hb
    simp only at hb
    split at hb
    · split at hb
      · split at hb
        · simp only [Option.some.injEq, Prod.mk.injEq] at hb; exact hb.2.symm
        · cases hb
      · cases hb
    · cases hb
  · rw [hm] at hb
    simp only at hb
    split at hb
    · split at hb
      · split at hb
        · simp only [Option.some.injEq, Prod.mk.injEq] at hb; exact hb.2.symm
        · cases hb
      · cases hb
    · cases hb

/-- An operation that does not touch memory. -/
theorem opE_pure [TInv] {c : Cfg} {o : Oper} {σ : St} {v : V} (ht : touch c.mode o.op = 0) (ho : opE c o σ = some (v, h')) : h' = σ.hp ∧ ∀ h2, opE c o { σ with hp := h2 } = some (v, h2) := by
  obtain ⟨dst, op, type, pos, after, guard⟩ := o
  cases op with
  | move x => simp only [opE, Option.some.injEq, Prod.mk.injEq] at ho; exact ⟨ho.2.symm, fun h2 => by simp only [opE, eval_hp, ho.1]⟩
  | assign x => simp only [opE, Option.some.injEq, Prod.mk.injEq] at ho; exact ⟨ho.2.symm, fun h2 => by simp only [opE, eval_hp, ho.1]⟩
  | pick b x y =>
    simp only [opE] at ho
    split at ho
    · rename_i t hb
      simp only [Option.some.injEq, Prod.mk.injEq] at ho
      exact ⟨ho.2.symm, fun h2 => by simp only [opE, eval_hp, hb, ho.1]⟩
    · cases ho
  | build t parts =>
    simp only [opE, Option.map_eq_some_iff, Prod.mk.injEq] at ho
    obtain ⟨v0, hb, rfl, rfl⟩ := ho
    exact ⟨rfl, fun h2 => by simp only [opE, eval_hp, hb, Option.map_some]⟩
  | nilCheck x =>
    simp only [opE] at ho
    split at ho
    · rename_i hx; simp only [Option.some.injEq, Prod.mk.injEq] at ho; obtain ⟨rfl, rfl⟩ := ho; exact ⟨rfl, fun h2 => by simp only [opE, eval_hp, hx]⟩
    · rename_i hx; simp only [Option.some.injEq, Prod.mk.injEq] at ho; obtain ⟨rfl, rfl⟩ := ho; exact ⟨rfl, fun h2 => by simp only [opE, eval_hp, hx]⟩
    · cases ho
  | binOp op t x y u =>
    simp only [opE, Option.map_eq_some_iff, Prod.mk.injEq] at ho
    obtain ⟨v0, hb, rfl, rfl⟩ := ho
    exact ⟨rfl, fun h2 => by simp only [opE, eval_hp, hb, Option.map_some]⟩
  | unOp op t x =>
    simp only [opE, Option.map_eq_some_iff, Prod.mk.injEq] at ho
    obtain ⟨v0, hb, rfl, rfl⟩ := ho
    exact ⟨rfl, fun h2 => by simp only [opE, eval_hp, hb, Option.map_some]⟩
  | makeFunc fn first captured =>
    cases fn with
    | func f =>
      simp only [opE] at ho
      split at ho
      · rename_i hz
        simp only [Option.map_eq_some_iff, Prod.mk.injEq] at ho
        obtain ⟨cs, hcs, rfl, rfl⟩ := ho
        exact ⟨rfl, fun h2 => by simp only [opE, eval_hp', hz, if_true, hcs, Option.map_some]⟩
      · cases ho
    | _ => simp [opE] at ho
  | slice t x lo hi mx =>
    cases mx with
    | some m => simp [opE] at ho
    | none =>
      simp only [opE, Option.map_eq_some_iff, Prod.mk.injEq] at ho
      obtain ⟨v0, hb, rfl, rfl⟩ := ho
      exact ⟨rfl, fun h2 => by simp only [opE, eval_hp', hb, Option.map_some]⟩
  | fieldAddr t x f =>
    simp only [opE, Option.map_eq_some_iff, Prod.mk.injEq] at ho
    obtain ⟨v0, hb, rfl, rfl⟩ := ho
    exact ⟨rfl, fun h2 => by simp only [opE, eval_hp, hb, Option.map_some]⟩
  | field t x f =>
    simp only [opE, Option.map_eq_some_iff, Prod.mk.injEq] at ho
    obtain ⟨v0, hb, rfl, rfl⟩ := ho
    exact ⟨rfl, fun h2 => by simp only [opE, eval_hp, hb, Option.map_some]⟩
  | indexAddr t x i =>
    simp only [opE, Option.map_eq_some_iff, Prod.mk.injEq] at ho
    obtain ⟨v0, hb, rfl, rfl⟩ := ho
    exact ⟨rfl, fun h2 => by simp only [opE, eval_hp, hb, Option.map_some]⟩
  | index t x i =>
    simp only [opE, Option.map_eq_some_iff, Prod.mk.injEq] at ho
    obtain ⟨v0, hb, rfl, rfl⟩ := ho
    exact ⟨rfl, fun h2 => by simp only [opE, eval_hp, hb, Option.map_some]⟩
  | extract x i =>
    simp only [opE] at ho
    split at ho
    · rename_i vs hx
      simp only [Option.map_eq_some_iff, Prod.mk.injEq] at ho
      obtain ⟨v0, hb, rfl, rfl⟩ := ho
      exact ⟨rfl, fun h2 => by simp only [opE, eval_hp, hx, hb, Option.map_some]⟩
    · cases ho
  | call k =>
    obtain ⟨callee, args, argTypes⟩ := k
    cases callee with
    | builtin b =>
      cases b with
      | len =>
        simp only [opE] at ho
        split at ho
        · rename_i x t hx htl
          simp only [Option.map_eq_some_iff, Prod.mk.injEq] at ho
          obtain ⟨v0, hb, rfl, rfl⟩ := ho
          exact ⟨rfl, fun h2 => by simp only [opE, hx, htl, eval_hp, hb, Option.map_some]⟩
        · cases ho
      | min =>
        simp only [opE] at ho
        split at ho
        · rename_i x0 rest hx
          simp only [Option.map_eq_some_iff, Prod.mk.injEq] at ho
          obtain ⟨v0, hb, rfl, rfl⟩ := ho
          exact ⟨rfl, fun h2 => by simp only [opE, eval_hp', hx, hb, Option.map_some]⟩
        · cases ho
      | max =>
        simp only [opE] at ho
        split at ho
        · rename_i x0 rest hx
          simp only [Option.map_eq_some_iff, Prod.mk.injEq] at ho
          obtain ⟨v0, hb, rfl, rfl⟩ := ho
          exact ⟨rfl, fun h2 => by simp only [opE, eval_hp', hx, hb, Option.map_some]⟩
        · cases ho
      | _ => simp [touch] at ht
    | value fo =>
      cases fo with
      | func f => simp only [touch] at ht; split at ht <;> cases ht
      | _ => simp [touch] at ht
    | invoke _ _ => simp [touch] at ht
  | _ => simp [touch] at ht

theorem opE_grow [TInv] {c : Cfg} {o : Oper} {σ : St} {v : V} (ht : touch c.mode o.op ≤ 1) (ho : opE c o σ = some (v, h')) : Grow σ.hp h' := by
  by_cases h0 : touch c.mode o.op = 0
  · rw [(opE_pure h0 ho).1]; exact Grow.refl _
  obtain ⟨dst, op, type, pos, after, guard⟩ := o
  cases op with
  | alloc t =>
    simp only [opE] at ho
    split at ho
    · split at ho
      · simp only [Option.some.injEq, Prod.mk.injEq] at ho; obtain ⟨_, rfl⟩ := ho; exact Grow.new _ _
      · cases ho
    · cases ho
  | box t x =>
    simp only [opE] at ho
    split at ho
    · split at ho
      · simp only [Option.some.injEq, Prod.mk.injEq] at ho; obtain ⟨_, rfl⟩ := ho; exact Grow.new _ _
      · cases ho
    · cases ho
  | buildSlice t len parts => simp only [opE] at ho; exact buildSlice_grow ho
  | load t x =>
    simp only [opE, Option.map_eq_some_iff, Prod.mk.injEq] at ho
    obtain ⟨v0, hb, rfl, rfl⟩ := ho
    exact Grow.refl _
  | convert s d x => simp only [opE] at ho; exact convert_grow ho
  | makeSlice t l k => simp only [opE] at ho; exact makeSlice_grow ho
  | call k =>
    obtain ⟨callee, args, argTypes⟩ := k
    cases callee with
    | builtin b => cases b <;> first | (simp [touch] at ht; done) | (exfalso; apply h0; simp [touch])
    | value fo =>
      cases fo with
      | func f =>
        have hm : c.mode f = .look ∨ c.mode f = .plain := by
          simp only [touch] at ht
          cases hmf : c.mode f <;> simp [hmf] at ht
          · exact .inl rfl
          · exact .inr rfl
        have hev : σ.eval (.func f) = .one (.fn f []) := rfl
        simp only [opE, hev, List.map_nil, List.append_nil] at ho
        rw [call_same hm ho]; exact Grow.refl _
      | _ => simp [touch] at ht
    | invoke _ _ => simp [touch] at ht
  | _ => first | (simp [touch] at ht; done) | (exfalso; apply h0; simp [touch])

theorem HpOk.kill (ho : HpOk h) (b : Nat) : HpOk (h.kill b) := fun n hn => by
  simp only [Hp.kill] at hn ⊢
  unfold upd; split
  · rfl
  · exact ho n hn
theorem HpOk.kills (ho : HpOk h) (l : List Nat) : HpOk (h.kills l) := fun n hn => by
  simp only [Hp.kills] at hn ⊢
  split
  · rfl
  · exact ho n hn

theorem append_hpOk [TInv] {P : Program} {t u : TypeId} {x y v : V} (ha : appendE P h t u x y = some (v, h')) (ho : HpOk h) : HpOk h' ∧ h.next ≤ h'.next := by
  unfold appendE at ha
  split at ha
  case h_2 => cases ha
  split at ha
  case h_2 => cases ha
  split at ha
  case isFalse => cases ha
  split at ha
  · split at ha
    · simp only [Option.some.injEq, Prod.mk.injEq] at ha; obtain ⟨_, rfl⟩ := ha; exact ⟨(Grow.new _ _).ok ho, (Grow.new _ _).next⟩
    · cases ha
  · split at ha
    · split at ha
      · simp only [Option.some.injEq, Prod.mk.injEq] at ha; obtain ⟨_, rfl⟩ := ha
        exact ⟨(Grow.new _ _).ok (ho.kill _), Nat.le_succ _⟩
      · cases ha
    · cases ha
  · cases ha

theorem store_hpOk {P : Program} {t : TypeId} {x v : V} (hs : storeE P h t x v = some h') (ho : HpOk h) : HpOk h' ∧ h.next ≤ h'.next := by
  unfold storeE at hs
  split at hs
  case h_2 => cases hs
  split at hs
  case h_2 => cases hs
  rename_i blk hblk
  split at hs
  case isFalse => cases hs
  cases hs
  refine ⟨fun n hn => ?_, Nat.le_refl _⟩
  simp only [Hp.set] at hn ⊢
  unfold upd; split
  · rename_i hb
    subst hb
    rw [ho _ hn] at hblk; cases hblk
  · exact ho n hn

theorem callE_hpOk [TInv] {c : Cfg} (hc : CallOk c) {f : FuncId} {args : List V} {v : V} (hb : callE c f args h = some (v, h')) (ho : HpOk h) : HpOk h' ∧ h.next ≤ h'.next := by
  cases hm : c.mode f with
  | look => rw [call_same (.inl hm) hb]; exact ⟨ho, Nat.le_refl _⟩
  | plain => rw [call_same (.inr hm) hb]; exact ⟨ho, Nat.le_refl _⟩
  | step =>
    unfold callE at hb
    rw [hm] at hb
    exact (hc f args h v h' hb).1 ho
  | give =>
    unfold callE at hb
    rw [hm] at hb
    simp only at hb
    split at hb
    · split at hb
      · simp only [Option.some.injEq, Prod.mk.injEq] at hb; obtain ⟨_, rfl⟩ := hb; exact ⟨ho.kills _, Nat.le_refl _⟩
      · cases hb
    · cases hb

theorem opE_hpOk [TInv] {c : Cfg} (hc : CallOk c) {o : Oper} {σ : St} {v : V} (ho : opE c o σ = some (v, h')) (hok : HpOk σ.hp) : HpOk h' ∧ σ.hp.next ≤ h'.next := by
  by_cases ht : touch c.mode o.op ≤ 1
  · have g := opE_grow ht ho
    exact ⟨g.ok hok, g.next⟩
  obtain ⟨dst, op, type, pos, after, guard⟩ := o
  cases op with
  | store t x y =>
    simp only [opE, Option.map_eq_some_iff, Prod.mk.injEq] at ho
    obtain ⟨h1, hs, rfl, rfl⟩ := ho
    exact store_hpOk hs hok
  | call k =>
    obtain ⟨callee, args, argTypes⟩ := k
    cases callee with
    | builtin b =>
      cases b with
      | append =>
        simp only [opE] at ho
        split at ho
        · exact append_hpOk ho hok
        · cases ho
      | len => simp [touch] at ht
      | min => simp [touch] at ht
      | max => simp [touch] at ht
      | _ => simp [opE] at ho
    | value fo =>
      simp only [opE] at ho
      split at ho
      · exact callE_hpOk hc ho hok
      · cases ho
    | invoke _ _ => simp [opE] at ho
  | _ => first | (simp [opE] at ho; done) | (simp [touch] at ht; done) | (exfalso; revert ht; simp [touch])

end Go.Ev
