/- Walking by rewriting: what a function's code answers, as first-order rules with no binder in them. -/
import Derived.Test.YtmfoddeecplibaaDoorEH
import Derived.KernelRfl
set_option linter.unusedVariables false
set_option linter.unusedSimpArgs false
namespace Go.Ev

/-- The same code, no order drawn. -/
def undraw : Code → Code
  | .region id ops _ => .region id ops false
  | .seq a b => .seq (undraw a) (undraw b)
  | .cond x a b => .cond x (undraw a) (undraw b)
  | .block id a => .block id (undraw a)
  | .loop a => .loop (undraw a)
  | c => c

def drawsOk (mode : FuncId → Mode) : Code → Bool
  | .region _ ops d => !d || drawOk mode ops
  | .seq a b => drawsOk mode a && drawsOk mode b
  | .cond _ a b => drawsOk mode a && drawsOk mode b
  | .block _ a => drawsOk mode a
  | .loop a => drawsOk mode a
  | _ => true

theorem codeE_undraw {c : Cfg} {N : Nat} : ∀ (a : Code) (σ : St), drawsOk c.mode a = true → codeE c N (undraw a) σ = codeE c N a σ := by
  intro a
  induction a with
  | region id ops d => intro σ h; cases d <;> simp_all [undraw, codeE, drawsOk]
  | seq a b iha ihb =>
    intro σ h
    simp only [drawsOk, Bool.and_eq_true] at h
    simp only [undraw, codeE, iha σ h.1]
    split <;> simp_all
  | cond x a b iha ihb =>
    intro σ h
    simp only [drawsOk, Bool.and_eq_true] at h
    simp only [undraw, codeE, iha σ h.1, ihb σ h.2]
  | block id a ih => intro σ h; simp only [undraw, codeE, ih σ h]
  | loop a ih =>
    intro σ h
    have : codeE c N (undraw a) = codeE c N a := by funext s; exact ih s h
    simp only [undraw, codeE, this]
  | _ => intro σ h; rfl

inductive Fr where
  | seq (b : Code)
  | block (id : Nat)
  | loop (ts : List Nat) (R : List V → Hp → Prop)

def vals (env : Nat → V) (ts : List Nat) : List V := ts.map env

def goE (c : Cfg) (N : Nat) (Q : St → Prop) : List Fr → Ex → St → Prop
  | [], .exit _, _ => False
  | [], _, σ => Q σ
  | .seq b :: ks, .normal, σ => ∃ e σ', codeE c N (undraw b) σ = some (e, σ') ∧ goE c N Q ks e σ'
  | .seq _ :: ks, e, σ => goE c N Q ks e σ
  | .block id :: ks, .exit id', σ => if id' = id then goE c N Q ks .normal σ else goE c N Q ks (.exit id') σ
  | .block _ :: ks, e, σ => goE c N Q ks e σ
  | .loop ts R :: _, .normal, σ => R (vals σ.env ts) σ.hp
  | .loop _ _ :: ks, e, σ => goE c N Q ks e σ

def wp (c : Cfg) (N : Nat) (Q : St → Prop) (ks : List Fr) (a : Code) (env : Nat → V) (hp : Hp) : Prop :=
  ∃ e σ', codeE c N (undraw a) ⟨env, hp⟩ = some (e, σ') ∧ goE c N Q ks e σ'

/-- What is left of a region. -/
def wpO (c : Cfg) (N : Nat) (Q : St → Prop) (ks : List Fr) (ops : Array Oper) (l : List Oper) (env : Nat → V) (hp : Hp) : Prop :=
  ∃ σ', opsE c ops l ⟨env, hp⟩ = some σ' ∧ goE c N Q ks .normal σ'

def opX (c : Cfg) (op : Op) (env : Nat → V) (hp : Hp) : Option (V × Hp) := opE c ⟨none, op, 0, "", #[], none⟩ ⟨env, hp⟩
def ev (env : Nat → V) (x : Operand) : V := St.eval ⟨env, .empty⟩ x
def putE (env : Nat → V) (d : Option Nat) (v : V) : Nat → V := match d with | some d => upd env d v | none => env

def contO (c : Cfg) (N : Nat) (Q : St → Prop) (ks : List Fr) (ops : Array Oper) (l : List Oper) (env : Nat → V) (d : Option Nat) : Option (V × Hp) → Prop
  | some (v, h) => wpO c N Q ks ops l (putE env d v) h
  | none => False

def contC (c : Cfg) (N : Nat) (Q : St → Prop) (ks : List Fr) (a b : Code) (env : Nat → V) (hp : Hp) : V → Prop
  | .one (.lit (.bool t)) => (t = true → wp c N Q ks a env hp) ∧ (t = false → wp c N Q ks b env hp)
  | _ => False

def gdst : List Oper → Nat → Option Nat
  | [], _ => none
  | o :: _, 0 => o.dst
  | _ :: l, j + 1 => gdst l j

theorem gdst_eq : ∀ (l : List Oper) (j : Nat), gdst l j = (l[j]?).bind (·.dst)
  | [], j => by simp [gdst]
  | o :: l, 0 => by simp [gdst]
  | o :: l, j + 1 => by simp [gdst, gdst_eq l j]

def contG (c : Cfg) (N : Nat) (Q : St → Prop) (ks : List Fr) (ops : Array Oper) (l : List Oper) (env : Nat → V) (hp : Hp) (d : Option Nat) (op : Op) (want : Bool) : V → Prop
  | .one (.lit (.bool b)) => (b = want → contO c N Q ks ops l env d (opX c op env hp)) ∧ (b = !want → wpO c N Q ks ops l (putE env d .undef) hp)
  | .tup [] => wpO c N Q ks ops l (putE env d .undef) hp
  | _ => False

def guardD (env : Nat → V) : Option Nat → V
  | some d => env d
  | none => .junk

section rules
variable {c : Cfg} {N : Nat} {Q : St → Prop} {ks : List Fr} {ops : Array Oper} {l : List Oper} {env : Nat → V} {hp : Hp}

theorem wp_seq {a b : Code} : wp c N Q ks (.seq a b) env hp = wp c N Q (.seq b :: ks) a env hp := by
  apply propext
  simp only [wp, undraw, codeE]
  constructor
  · rintro ⟨e, σ', h, g⟩
    split at h
    · rename_i σ1 h1
      exact ⟨_, _, h1, ⟨_, _, h, g⟩⟩
    · rename_i hn
      refine ⟨e, σ', h, ?_⟩
      cases e with
      | normal => exact absurd h (hn _)
      | _ => exact g
  · rintro ⟨e, σ', h, g⟩
    cases e with
    | normal =>
      obtain ⟨e2, σ2, h2, g2⟩ := g
      exact ⟨e2, σ2, by rw [h]; exact h2, g2⟩
    | _ => exact ⟨_, _, by rw [h], g⟩
theorem wp_skip : wp c N Q ks .skip env hp = goE c N Q ks .normal ⟨env, hp⟩ := by
  apply propext; simp only [wp, undraw, codeE]
  constructor
  · rintro ⟨e, σ', h, g⟩; cases h; exact g
  · intro g; exact ⟨_, _, rfl, g⟩
theorem wp_label {s : Nat} : wp c N Q ks (.label s) env hp = goE c N Q ks .normal ⟨env, hp⟩ := by
  apply propext; simp only [wp, undraw, codeE]
  constructor
  · rintro ⟨e, σ', h, g⟩; cases h; exact g
  · intro g; exact ⟨_, _, rfl, g⟩
theorem wp_ret : wp c N Q ks .ret env hp = goE c N Q ks .ret ⟨env, hp⟩ := by
  apply propext; simp only [wp, undraw, codeE]
  constructor
  · rintro ⟨e, σ', h, g⟩; cases h; exact g
  · intro g; exact ⟨_, _, rfl, g⟩
theorem wp_exit {id : Nat} : wp c N Q ks (.exit id) env hp = goE c N Q ks (.exit id) ⟨env, hp⟩ := by
  apply propext; simp only [wp, undraw, codeE]
  constructor
  · rintro ⟨e, σ', h, g⟩; cases h; exact g
  · intro g; exact ⟨_, _, rfl, g⟩
theorem wp_block {id : Nat} {a : Code} : wp c N Q ks (.block id a) env hp = wp c N Q (.block id :: ks) a env hp := by
  apply propext
  simp only [wp, undraw, codeE]
  constructor
  · rintro ⟨e, σ', h, g⟩
    split at h
    · rename_i id' σ1 h1
      refine ⟨_, _, h1, ?_⟩
      simp only [goE]
      split at h <;> (rename_i hid; cases h; simp [hid]; exact g)
    · rename_i hn
      refine ⟨e, σ', h, ?_⟩
      cases e with
      | exit id' => exact absurd h (hn _ _)
      | _ => exact g
  · rintro ⟨e, σ', h, g⟩
    cases e with
    | exit id' =>
      simp only [goE] at g
      rw [h]; simp only
      split at g
      · rename_i hid; exact ⟨.normal, σ', by rw [if_pos hid], g⟩
      · rename_i hid; exact ⟨.exit id', σ', by rw [if_neg hid], g⟩
    | _ => exact ⟨_, _, by rw [h], g⟩
theorem wp_cond {x : Operand} {a b : Code} : wp c N Q ks (.cond x a b) env hp = contC c N Q ks a b env hp (ev env x) := by
  apply propext
  have he : St.eval ⟨env, hp⟩ x = ev env x := by cases x <;> rfl
  simp only [wp, undraw, codeE, he]
  constructor
  · rintro ⟨e, σ', h, g⟩
    split at h
    · rename_i t ht
      rw [ht]
      cases t with
      | true => exact ⟨fun _ => ⟨e, σ', by simpa using h, g⟩, fun h => by cases h⟩
      | false => exact ⟨(fun h => by cases h), fun _ => ⟨e, σ', by simpa using h, g⟩⟩
    · cases h
  · intro H
    unfold contC at H
    split at H
    · rename_i t ht
      rw [ht]
      cases t with
      | true => obtain ⟨e, σ', h, g⟩ := H.1 rfl; exact ⟨e, σ', by simpa using h, g⟩
      | false => obtain ⟨e, σ', h, g⟩ := H.2 rfl; exact ⟨e, σ', by simpa using h, g⟩
    · exact H.elim
theorem wp_region {id : Nat} {d : Bool} : wp c N Q ks (.region id ops d) env hp = wpO c N Q ks ops ops.toList env hp := by
  apply propext
  simp only [wp, wpO, undraw, codeE]
  constructor
  · rintro ⟨e, σ', h, g⟩
    simp only [Bool.false_and, Bool.false_eq_true, if_false] at h
    split at h
    · rename_i σ1 h1; cases h; exact ⟨_, h1, g⟩
    · cases h
  · rintro ⟨σ', h, g⟩
    exact ⟨.normal, σ', by simp [h], g⟩
theorem wpO_nil : wpO c N Q ks ops [] env hp = goE c N Q ks .normal ⟨env, hp⟩ := by
  apply propext; simp [wpO, opsE]

theorem opE_opX {o : Oper} : opE c o ⟨env, hp⟩ = opX c o.op env hp := rfl
theorem put_eq {d : Option Nat} {v : V} : St.put ⟨env, hp⟩ d v = ⟨putE env d v, hp⟩ := by cases d <;> rfl

theorem wpO_cons {d : Option Nat} {op : Op} {ty : TypeId} {pos : String} {after : Array Edge} : wpO c N Q ks ops (⟨d, op, ty, pos, after, none⟩ :: l) env hp = contO c N Q ks ops l env d (opX c op env hp) := by
  apply propext
  simp only [wpO, opsE, operE, guardE, opE_opX]
  unfold contO
  constructor
  · rintro ⟨σ', h, g⟩
    split at h
    · rename_i σ1 h1
      split at h1
      · rename_i v hh h2
        rw [h2]
        simp only [Option.some.injEq] at h1
        rw [← h1, put_eq] at h
        exact ⟨_, h, g⟩
      · cases h1
    · cases h
  · intro H
    split at H
    · rename_i v hh h2
      obtain ⟨σ', h, g⟩ := H
      refine ⟨σ', ?_, g⟩
      rw [h2]; simp only [put_eq]; exact h
    · exact H.elim

theorem wpO_guard {d : Option Nat} {op : Op} {ty : TypeId} {pos : String} {after : Array Edge} {j : Nat} {want : Bool} :
    wpO c N Q ks ops (⟨d, op, ty, pos, after, some (j, want)⟩ :: l) env hp = contG c N Q ks ops l env hp d op want (guardD env (gdst ops.toList j)) := by
  have hg : gdst ops.toList j = (ops[j]?).bind (·.dst) := by rw [gdst_eq]; simp
  rw [hg]
  apply propext
  simp only [wpO, opsE, operE, guardE, opE_opX]
  cases hd : (ops[j]?).bind (·.dst) with
  | none => simp [guardD, contG]
  | some dd =>
    simp only [guardD]
    generalize env dd = x
    have main : ∀ b : Bool, (∃ σ', (match (match some (b == want) with | none => none | some false => some ({ env := env, hp := hp : St }.put d V.undef) | some true => match opX c op env hp with | some (v, h) => some ({ env := env, hp := h : St }.put d v) | none => none) with | some σ' => opsE c ops l σ' | none => none) = some σ' ∧ goE c N Q ks Ex.normal σ') ↔ ((b = want → contO c N Q ks ops l env d (opX c op env hp)) ∧ (b = !want → wpO c N Q ks ops l (putE env d .undef) hp)) := by
      intro b
      cases hbw : (b == want) with
      | true =>
        have : b = want := by simpa using hbw
        subst this
        simp only [forall_const]
        have hn : (b = !b) ↔ False := by cases b <;> simp
        cases opX c op env hp with
        | none => simp [contO, hn]
        | some p => obtain ⟨v, hh⟩ := p; simp only [contO, put_eq, wpO, hn, false_implies, and_true, true_implies]
      | false =>
        have hne : ¬ b = want := by simpa using hbw
        have hn : b = !want := by cases b <;> cases want <;> simp_all
        simp only [put_eq]
        constructor
        · rintro ⟨σ', h, g⟩
          exact ⟨fun h => absurd h hne, fun _ => ⟨_, h, g⟩⟩
        · rintro ⟨_, H⟩
          exact H hn
    cases x with
    | junk => simp [contG]
    | agg cs => simp [contG]
    | tup vs =>
      cases vs with
      | nil => simp only [contG, put_eq, wpO]
      | cons => simp [contG]
    | one c =>
      cases c with
      | lit v =>
        cases v with
        | bool b => exact main b
        | _ => simp [contG]
      | _ => simp [contG]

theorem go_nil_normal {σ : St} : goE c N Q [] .normal σ = Q σ := rfl
theorem go_nil_ret {σ : St} : goE c N Q [] .ret σ = Q σ := rfl
theorem go_seq_normal {b : Code} : goE c N Q (.seq b :: ks) .normal ⟨env, hp⟩ = wp c N Q ks b env hp := rfl
theorem go_seq_ret {b : Code} {σ : St} : goE c N Q (.seq b :: ks) .ret σ = goE c N Q ks .ret σ := rfl
theorem go_seq_exit {b : Code} {id : Nat} {σ : St} : goE c N Q (.seq b :: ks) (.exit id) σ = goE c N Q ks (.exit id) σ := rfl
theorem go_block_normal {id : Nat} {σ : St} : goE c N Q (.block id :: ks) .normal σ = goE c N Q ks .normal σ := rfl
theorem go_block_ret {id : Nat} {σ : St} : goE c N Q (.block id :: ks) .ret σ = goE c N Q ks .ret σ := rfl
theorem go_block_exit {id id' : Nat} {σ : St} : goE c N Q (.block id :: ks) (.exit id') σ = if id' = id then goE c N Q ks .normal σ else goE c N Q ks (.exit id') σ := rfl
theorem go_loop_normal {ts : List Nat} {R : List V → Hp → Prop} : goE c N Q (.loop ts R :: ks) .normal ⟨env, hp⟩ = R (vals env ts) hp := rfl
theorem vals_nil : vals env [] = [] := rfl
theorem vals_cons {t : Nat} {ts : List Nat} : vals env (t :: ts) = env t :: vals env ts := rfl
theorem go_loop_ret {ts : List Nat} {R : List V → Hp → Prop} {σ : St} : goE c N Q (.loop ts R :: ks) .ret σ = goE c N Q ks .ret σ := rfl
theorem go_loop_exit {ts : List Nat} {R : List V → Hp → Prop} {id : Nat} {σ : St} : goE c N Q (.loop ts R :: ks) (.exit id) σ = goE c N Q ks (.exit id) σ := rfl

theorem contO_some {d : Option Nat} {v : V} {h : Hp} : contO c N Q ks ops l env d (some (v, h)) = wpO c N Q ks ops l (putE env d v) h := rfl
theorem contC_bool {a b : Code} {t : Bool} : contC c N Q ks a b env hp (.one (.lit (.bool t))) = ((t = true → wp c N Q ks a env hp) ∧ (t = false → wp c N Q ks b env hp)) := rfl
theorem contG_bool {d : Option Nat} {op : Op} {want b : Bool} : contG c N Q ks ops l env hp d op want (.one (.lit (.bool b))) = ((b = want → contO c N Q ks ops l env d (opX c op env hp)) ∧ (b = !want → wpO c N Q ks ops l (putE env d .undef) hp)) := rfl
theorem contC_true {a b : Code} : contC c N Q ks a b env hp (.one (.lit (.bool true))) = wp c N Q ks a env hp := by simp [contC]
theorem contC_false {a b : Code} : contC c N Q ks a b env hp (.one (.lit (.bool false))) = wp c N Q ks b env hp := by simp [contC]
theorem contG_tt {d : Option Nat} {op : Op} : contG c N Q ks ops l env hp d op true (.one (.lit (.bool true))) = contO c N Q ks ops l env d (opX c op env hp) := by simp [contG]
theorem contG_ff {d : Option Nat} {op : Op} : contG c N Q ks ops l env hp d op false (.one (.lit (.bool false))) = contO c N Q ks ops l env d (opX c op env hp) := by simp [contG]
theorem contG_tf {d : Option Nat} {op : Op} : contG c N Q ks ops l env hp d op true (.one (.lit (.bool false))) = wpO c N Q ks ops l (putE env d .undef) hp := by simp [contG]
theorem contG_ft {d : Option Nat} {op : Op} : contG c N Q ks ops l env hp d op false (.one (.lit (.bool true))) = wpO c N Q ks ops l (putE env d .undef) hp := by simp [contG]
theorem contC_split {a b : Code} {t : Bool} (h1 : t = true → wp c N Q ks a env hp) (h2 : t = false → wp c N Q ks b env hp) : contC c N Q ks a b env hp (.one (.lit (.bool t))) := ⟨h1, h2⟩
theorem contG_split {d : Option Nat} {op : Op} {want b : Bool} (h1 : b = true → contG c N Q ks ops l env hp d op want (.one (.lit (.bool true)))) (h2 : b = false → contG c N Q ks ops l env hp d op want (.one (.lit (.bool false)))) :
    contG c N Q ks ops l env hp d op want (.one (.lit (.bool b))) := by
  cases b with
  | true => exact h1 rfl
  | false => exact h2 rfl
/-- What is kept from rewriting. -/
def Hd (p : Prop) : Prop := p
theorem Hd.mk {p : Prop} (h : p) : Hd p := h
theorem Hd.out {p : Prop} (h : Hd p) : p := h
theorem contG_undef {d : Option Nat} {op : Op} {want : Bool} : contG c N Q ks ops l env hp d op want (.tup []) = wpO c N Q ks ops l (putE env d .undef) hp := rfl
theorem guardD_some {d : Nat} : guardD env (some d) = env d := rfl
theorem putE_some {d : Nat} {v : V} : putE env (some d) v = upd env d v := rfl
theorem putE_none {v : V} : putE env none v = env := rfl

/-- A loop, by what holds at its head of some temporaries; j: how often it may go round yet. -/
theorem wp_loop {a : Code} (ts : List Nat) (Inv : Nat → List V → Hp → Prop) (k : Nat) (hk : k < N) (h0 : Inv k (vals env ts) hp)
    (hs : ∀ (j : Nat) (env : Nat → V) (at_ : Nat → Option Blk) (next : Nat), j ≤ k → Inv j (vals env ts) ⟨at_, next⟩ → ∀ R : List V → Hp → Prop, Hd (∀ j' vs' hp', j' < j → Inv j' vs' hp' → R vs' hp') → wp c N Q (.loop ts R :: ks) a env ⟨at_, next⟩) :
    wp c N Q ks (.loop a) env hp := by
  have key : ∀ (j : Nat) (m : Nat) (env : Nat → V) (hp : Hp), j ≤ k → j < m → Inv j (vals env ts) hp → ∃ e σ', roundsE (codeE c N (undraw a)) m ⟨env, hp⟩ = some (e, σ') ∧ goE c N Q ks e σ' := by
    intro j
    induction j using Nat.strongRecOn with
    | ind j ih =>
      intro m env hp hj hm hi
      cases m with
      | zero => omega
      | succ m =>
        obtain ⟨at_, next⟩ := hp
        obtain ⟨e, σ', he, hg⟩ := hs j env at_ next hj hi (fun vs hp => ∃ j', j' < j ∧ Inv j' vs hp) (fun j' vs' hp' h1 h2 => ⟨j', h1, h2⟩)
        cases e with
        | normal =>
          obtain ⟨j', h1, h2⟩ := hg
          obtain ⟨e2, σ2, h3, h4⟩ := ih j' h1 m σ'.env σ'.hp (by omega) (by omega) h2
          exact ⟨e2, σ2, by simp only [roundsE, he]; exact h3, h4⟩
        | exit id => exact ⟨_, _, by simp only [roundsE, he], hg⟩
        | ret => exact ⟨_, _, by simp only [roundsE, he], hg⟩
  obtain ⟨e, σ', h1, h2⟩ := key k N env hp (Nat.le_refl _) hk h0
  exact ⟨e, σ', by simpa only [undraw, codeE] using h1, h2⟩

end rules

/-! ### the end of a function -/
def finL (P : Program) (Post : V → Hp → Prop) (acc : List V) (rs : List ResultVar) (env : Nat → V) (hp : Hp) (k : V → Prop) : Option V → Prop
  | some v => k v
  | none => False

def finE (P : Program) (Post : V → Hp → Prop) (env : Nat → V) (hp : Hp) : List V → List ResultVar → Prop
  | acc, [] => Post (joinV acc.reverse) hp
  | acc, .tmp t :: rs => finE P Post env hp (env t :: acc) rs
  | acc, .cell a t :: rs =>
    match loadE P hp t (env a) with
    | some v => finE P Post env hp (v :: acc) rs
    | none => False

def Qf (P : Program) (rs : List ResultVar) (Post : V → Hp → Prop) (σ : St) : Prop := finE P Post σ.env σ.hp [] rs

def finM (P : Program) (Post : V → Hp → Prop) (env : Nat → V) (hp : Hp) (acc : List V) (rs : List ResultVar) : Option V → Prop
  | some v => finE P Post env hp (v :: acc) rs
  | none => False

section fin
variable {P : Program} {Post : V → Hp → Prop} {env : Nat → V} {hp : Hp} {acc : List V} {rs : List ResultVar}
theorem Qf_eq : Qf P rs Post ⟨env, hp⟩ = finE P Post env hp [] rs := rfl
theorem finE_nil : finE P Post env hp acc [] = Post (joinV acc.reverse) hp := rfl
theorem finE_tmp {t : Nat} : finE P Post env hp acc (.tmp t :: rs) = finE P Post env hp (env t :: acc) rs := rfl
theorem finE_cell {a : Nat} {t : TypeId} : finE P Post env hp acc (.cell a t :: rs) = finM P Post env hp acc rs (loadE P hp t (env a)) := by
  unfold finM; simp only [finE]
theorem finM_some {v : V} : finM P Post env hp acc rs (some v) = finE P Post env hp (v :: acc) rs := rfl
end fin

theorem finE_results {P : Program} {Post : V → Hp → Prop} {env : Nat → V} {hp : Hp} : ∀ (rs : List ResultVar) (acc : List V), finE P Post env hp acc rs → ∃ vs, resultsE P ⟨env, hp⟩ rs = some vs ∧ Post (joinV (acc.reverse ++ vs)) hp
  | [], acc, h => ⟨[], rfl, by simpa [finE] using h⟩
  | .tmp t :: rs, acc, h => by
    obtain ⟨vs, h1, h2⟩ := finE_results rs (env t :: acc) h
    exact ⟨env t :: vs, by simp [resultsE, resultE, h1], by simpa using h2⟩
  | .cell a t :: rs, acc, h => by
    simp only [finE] at h
    split at h
    · rename_i v hv
      obtain ⟨vs, h1, h2⟩ := finE_results rs (v :: acc) h
      exact ⟨v :: vs, by simp [resultsE, resultE, h1, hv], by simpa using h2⟩
    · exact h.elim

def fnOk (mode : FuncId → Mode) (fn : Func) (n : Nat) : Bool :=
  fn.name != "runtime.NumGoroutine" && decide (n ≤ fn.ntmps) && (match fn.body with | some b => dstOk fn.ntmps b && drawsOk mode b | none => false)

theorem func_wp {c : Cfg} {N : Nat} {f : FuncId} {fn : Func} {body : Code} {args : List V} {h : Hp} {Post : V → Hp → Prop}
    (hfn : c.P.funcs[f]? = some fn) (hk : fnOk c.mode fn args.length = true) (hb : fn.body = some body)
    (H : wp c N (Qf c.P fn.results.toList Post) [] body (envOf args) h) : ∃ r h', funcE c N f args h = some (r, h') ∧ Post r h' := by
  unfold fnOk at hk
  simp only [hb, Bool.and_eq_true, bne_iff_ne, ne_eq, decide_eq_true_eq] at hk
  obtain ⟨⟨k1, k2⟩, k3, k4⟩ := hk
  obtain ⟨e, σ', h1, h2⟩ := H
  rw [codeE_undraw _ _ k4] at h1
  have hr : Qf c.P fn.results.toList Post σ' ∧ (e = .normal ∨ e = .ret) := by
    cases e with
    | normal => exact ⟨h2, .inl rfl⟩
    | ret => exact ⟨h2, .inr rfl⟩
    | exit id => exact h2.elim
  obtain ⟨vs, h3, h4⟩ := finE_results _ _ hr.1
  refine ⟨joinV vs, σ'.hp, ?_, by simpa using h4⟩
  unfold funcE
  rw [hfn]; simp only [hb]
  rw [if_neg (by simp only [k1, k3, Bool.true_eq_false, or_false, false_or]; omega)]
  rw [h1]
  rcases hr.2 with rfl | rfl <;> (simp only; rw [show (⟨σ'.env, σ'.hp⟩ : St) = σ' from rfl] at h3; rw [h3])

end Go.Ev
