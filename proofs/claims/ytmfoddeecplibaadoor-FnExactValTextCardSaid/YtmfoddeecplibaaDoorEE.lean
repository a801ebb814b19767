/- Regions. -/
import Derived.Test.YtmfoddeecplibaaDoorED
set_option linter.unusedVariables false
set_option linter.unusedSimpArgs false
namespace Go.Ev
variable {w : World} {ρ : Rho} {I : Nat → Prop} {h : Hp}

def EnvOk (ρ : Rho) (I : Nat → Prop) (w : World) (env : Nat → V) (a : Act) : Prop := ∀ t, RepV ρ I w (env t) (a.tmps.getD t undef)

theorem eval_ok [TInv] {σ : St} {a : Act} (he : EnvOk ρ I w σ.env a) (x : Operand) : RepV ρ I w (σ.eval x) (a.eval x) := by
  cases x with
  | tmp t => exact he t
  | const v => exact ofValue_repV v
  | global g => exact .one (.imm (.lit rfl))
  | func f => exact .one (.imm .fn)

theorem EnvOk.evo [TInv] {ρ' : Rho} {I' : Nat → Prop} {w' : World} {env : Nat → V} {a : Act} (he : EnvOk ρ I w env a) (e : Evo I w I' w') (m : More ρ ρ') : EnvOk ρ' I' w' env a := fun t => (he t).evo e m

def envPut (env : Nat → V) (d : Option Nat) (x : V) : Nat → V :=
  match d with
  | some n => upd env n x
  | none => env
theorem env_put (σ : St) (d : Option Nat) (v : V) : (σ.put d v).env = envPut σ.env d v := by cases d <;> rfl
theorem hp_put (σ : St) (d : Option Nat) (v : V) : (σ.put d v).hp = σ.hp := by cases d <;> rfl

theorem EnvOk.put {env : Nat → V} {a : Act} {d : Option Nat} {x : V} {v : Value} (he : EnvOk ρ I w env a) (hx : RepV ρ I w x v) (hd : ∀ n, d = some n → n < a.tmps.size) :
    EnvOk ρ I w (envPut env d x) (a.put d v) := by
  cases d with
  | none => exact he
  | some n =>
    intro t
    have hn := hd n rfl
    simp only [Act.put, envPut]
    unfold upd
    split
    · rename_i ht; subst ht
      simpa [Array.getD, hn] using hx
    · rename_i ht
      have : (a.tmps.setIfInBounds n v).getD t undef = a.tmps.getD t undef := by
        simp only [Array.getD_eq_getD_getElem?]
        rw [Array.getElem?_setIfInBounds_ne (Ne.symm ht)]
      rw [this]; exact he t

theorem put_size (a : Act) (d : Option Nat) (v : Value) : (a.put d v).tmps.size = a.tmps.size := by cases d <;> simp [Act.put]
theorem put_defers' (a : Act) (d : Option Nat) (v : Value) : (a.put d v).defers = a.defers := by cases d <;> rfl

theorem guard_ok {ops : Array Oper} {o : Oper} {σ : St} {b : Bool} {a : Act} (hg : guardE ops o σ = some b)
    (he : ∀ j want t, o.guard = some (j, want) → (ops[j]?).bind (·.dst) = some t → RepV ρ I w (σ.env t) (a.tmps.getD t undef)) : Region.wanted o (yielded ops a.tmps) = b := by
  unfold guardE at hg
  unfold Region.wanted
  split at hg
  · rename_i hgd; cases hg; rw [hgd]
  · rename_i j want hgd
    rw [hgd]
    simp only
    split at hg
    · rename_i d hd
      have hr := he j want d hgd hd
      unfold yielded
      rw [hd]
      simp only [Option.bind_some]
      split at hg
      · rename_i bb hb
        rw [hb] at hr
        cases hg
        have hv := repV_lit hr
        rw [Array.getD_eq_getD_getElem?] at hv
        cases ht : a.tmps[d]? with
        | none => rw [ht] at hv; simp [undef] at hv
        | some u =>
          rw [ht] at hv
          simp at hv
          subst hv
          simp
      · rename_i hb
        rw [hb] at hr
        cases hg
        cases ht : a.tmps[d]? with
        | none => simp
        | some u =>
          rw [Array.getD_eq_getD_getElem?, ht] at hr
          simp only [Option.getD_some] at hr
          cases hr with
          | tup h1 h2 => simp
      · cases hg
    · cases hg

/-! ### one operation and what it leaves, by the evaluator -/
structure Step1 (c : Cfg) (ops : Array Oper) (o : Oper) (σ σ' : St) (v : V) (b : Bool) : Prop where
  guard : guardE ops o σ = some b
  run : b = true → opE c o σ = some (v, σ'.hp)
  skip : b = false → v = .undef ∧ σ'.hp = σ.hp
  env : σ'.env = envPut σ.env o.dst v

theorem operE_step [TInv] {c : Cfg} {ops : Array Oper} {o : Oper} {σ σ' : St} (h : operE c ops o σ = some σ') : ∃ v b, Step1 c ops o σ σ' v b := by
  unfold operE at h
  split at h
  · cases h
  · rename_i hg
    cases h
    exact ⟨.undef, false, hg, (fun h => by cases h), fun _ => ⟨rfl, hp_put _ _ _⟩, env_put _ _ _⟩
  · rename_i hg
    split at h
    · rename_i v hp ho
      cases h
      exact ⟨v, true, hg, (fun _ => by rw [ho, hp_put]), (fun h => by cases h), env_put _ _ _⟩
    · cases h

/-! ### in the text's order -/
structure Sim [TInv] (n : Nat) (ρ : Rho) (I : Nat → Prop) (σ : St) (a : Act) (w : World) : Prop where
  env : EnvOk ρ I w σ.env a
  rel : Rel ρ I σ.hp w
  dom : Dom ρ σ.hp.next
  ok : HpOk σ.hp
  size : a.tmps.size = n
  defers : a.defers = []

theorem Sim.drew [TInv] {n : Nat} {σ : St} {a : Act} (s : Sim n ρ I σ a w) : Sim n ρ I σ a w.drew :=
  ⟨s.env.evo ⟨fun _ h => h, fun _ _ => rfl, fun _ h => ⟨h, rfl⟩⟩ (More.refl _), s.rel.drew, s.dom, s.ok, s.size, s.defers⟩

theorem oper_ok [TInv] {c : Cfg} (hc : CallOk c) {ops : Array Oper} {o : Oper} {σ σ' : St} (ho : operE c ops o σ = some σ') {n : Nat} (hd : ∀ d, o.dst = some d → d < n) {a : Act} (s : Sim n ρ I σ a w)
    {i : Nat} (hi : ops[i]? = some o) {K : Act → World → Prop} {Q : Exit → Act → World → Prop}
    (hK : ∀ a' w' ρ' I', Sim n ρ' I' σ' a' w' → Stp ρ I σ.hp w ρ' I' σ'.hp w' → K a' w') : wpOp c.P ops Q i K a w := by
  obtain ⟨v, b, st⟩ := operE_step ho
  unfold wpOp
  rw [hi]
  simp only
  have hw := guard_ok (a := a) st.guard (fun j want t _ _ => s.env t)
  rw [hw]
  cases b with
  | false =>
    obtain ⟨rfl, hhp⟩ := st.skip rfl
    simp only [Bool.false_eq_true, if_false]
    refine hK _ w ρ I ⟨?_, by rw [hhp]; exact s.rel, by rw [hhp]; exact s.dom, by rw [hhp]; exact s.ok, by rw [put_size]; exact s.size, by rw [put_defers']; exact s.defers⟩ (by rw [hhp]; exact Stp.refl _ _ _ _)
    rw [st.env]
    exact s.env.put (RepV.tup (vs := #[]) rfl (fun j x v hx _ => by simp at hx)) (fun m hm => by rw [s.size]; exact hd m hm)
  | true =>
    simp only [if_true]
    refine .inl (op_ok hc (st.run rfl) s.ok s.dom s.rel (fun x _ => eval_ok s.env x) (fun v' w' ρ' I' q R' hv => ?_))
    have hm := q.more s.dom
    refine hK _ w' ρ' I' ⟨?_, R', q.dom s.dom, (opE_hpOk hc (st.run rfl) s.ok).1, by rw [put_size]; exact s.size, by rw [put_defers']; exact s.defers⟩ q
    rw [st.env]
    exact (s.env.evo (s.rel.evo q) hm).put hv (fun m hm => by rw [s.size]; exact hd m hm)

theorem ops_ok [TInv] {c : Cfg} (hc : CallOk c) {ops : Array Oper} {n : Nat} (hd : ∀ o ∈ ops, ∀ d, o.dst = some d → d < n) {Q : Exit → Act → World → Prop} {σ' : St} :
    ∀ (m k : Nat) (σ : St) (ρ : Rho) (I : Nat → Prop) (a : Act) (w : World), k + m = ops.size → opsE c ops (ops.toList.drop k) σ = some σ' → Sim n ρ I σ a w →
      (∀ a' w' ρ' I', Sim n ρ' I' σ' a' w' → Stp ρ I σ.hp w ρ' I' σ'.hp w' → Q .normal a' w') → wpOps c.P ops Q (List.range' k m) a w
  | 0, k, σ, ρ, I, a, w, hk, ho, s, hQ => by
    have : ops.toList.drop k = [] := by apply List.drop_of_length_le; simp; omega
    rw [this] at ho
    simp only [opsE, Option.some.injEq] at ho
    subst ho
    exact hQ a w ρ I s (Stp.refl _ _ _ _)
  | m + 1, k, σ, ρ, I, a, w, hk, ho, s, hQ => by
    have hlt : k < ops.toList.length := by simp; omega
    rw [List.drop_eq_getElem_cons hlt] at ho
    simp only [opsE] at ho
    split at ho
    · rename_i σ1 h1
      rw [List.range'_succ, wpOps_cons]
      have hget : ops[k]? = some (ops.toList[k]) := by
        rw [← Array.getElem?_toList]; exact List.getElem?_eq_getElem hlt
      refine oper_ok hc h1 (fun d hdd => hd _ (Array.mem_of_getElem? hget) d hdd) s hget (fun a' w' ρ' I' s' q => ?_)
      exact ops_ok hc hd m (k + 1) σ1 ρ' I' a' w' (by omega) ho s' (fun a2 w2 ρ2 I2 s2 q2 => hQ a2 w2 ρ2 I2 s2 (q.trans q2))
    · cases ho

end Go.Ev
