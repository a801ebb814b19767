/- A loop's rule that knows which temporaries its body leaves alone. -/
import Derived.Test.YtmfoddeecplibaaDoorEK
set_option linter.unusedVariables false
set_option linter.unusedSimpArgs false
namespace Go.Ev

def dstsO : List Oper → List Nat
  | [] => []
  | o :: l => match o.dst with | some d => d :: dstsO l | none => dstsO l
def dstsC : Code → List Nat
  | .region _ ops _ => dstsO ops.toList
  | .seq a b => dstsC a ++ dstsC b
  | .cond _ a b => dstsC a ++ dstsC b
  | .block _ a => dstsC a
  | .loop a => dstsC a
  | _ => []

theorem put_frame {σ : St} {d : Option Nat} {v : V} {t : Nat} (h : d ≠ some t) : (σ.put d v).env t = σ.env t := by
  cases d with
  | none => rfl
  | some d => exact upd_other _ _ _ _ (fun e => h (by rw [e]))

theorem operE_frame {c : Cfg} {ops : Array Oper} {o : Oper} {σ σ' : St} {t : Nat} (h : operE c ops o σ = some σ') (ht : o.dst ≠ some t) : σ'.env t = σ.env t := by
  unfold operE at h
  split at h
  · cases h
  · cases h; exact put_frame ht
  · split at h
    · cases h; exact put_frame ht
    · cases h

theorem opsE_frame {c : Cfg} {ops : Array Oper} {t : Nat} : ∀ {l : List Oper} {σ σ' : St}, opsE c ops l σ = some σ' → t ∉ dstsO l → σ'.env t = σ.env t
  | [], σ, σ', h, _ => by cases h; rfl
  | o :: l, σ, σ', h, ht => by
    simp only [opsE] at h
    split at h
    · rename_i σ1 h1
      have a1 : o.dst ≠ some t := by
        intro e; apply ht; simp [dstsO, e]
      have a2 : t ∉ dstsO l := by
        intro e; apply ht; unfold dstsO; split
        · exact List.mem_cons_of_mem _ e
        · exact e
      rw [opsE_frame h a2, operE_frame h1 a1]
    · cases h

theorem codeE_frame {c : Cfg} {N : Nat} {t : Nat} : ∀ (a : Code) {σ σ' : St} {e : Ex}, codeE c N a σ = some (e, σ') → t ∉ dstsC a → σ'.env t = σ.env t := by
  intro a
  induction a with
  | region id ops d =>
    intro σ σ' e h ht
    simp only [codeE] at h
    split at h
    · cases h
    · split at h
      · rename_i h1; cases h; exact opsE_frame h1 ht
      · cases h
  | seq a b iha ihb =>
    intro σ σ' e h ht
    simp only [dstsC, List.mem_append, not_or] at ht
    simp only [codeE] at h
    split at h
    · rename_i σ1 h1
      rw [ihb h ht.2, iha h1 ht.1]
    · exact iha h ht.1
  | cond x a b iha ihb =>
    intro σ σ' e h ht
    simp only [dstsC, List.mem_append, not_or] at ht
    simp only [codeE] at h
    split at h
    · split at h
      · exact iha h ht.1
      · exact ihb h ht.2
    · cases h
  | block id a ih =>
    intro σ σ' e h ht
    simp only [codeE] at h
    split at h
    · rename_i h1
      split at h <;> (cases h; exact ih h1 ht)
    · exact ih h ht
  | loop a ih =>
    intro σ σ' e h ht
    simp only [codeE] at h
    have key : ∀ (n : Nat) (σ : St), roundsE (codeE c N a) n σ = some (e, σ') → σ'.env t = σ.env t := by
      intro n
      induction n with
      | zero => intro σ h; cases h
      | succ n ihn =>
        intro σ h
        simp only [roundsE] at h
        split at h
        · rename_i σ1 h1
          rw [ihn σ1 h, ih h1 ht]
        · exact ih h ht
    exact key N σ h
  | _ =>
    intro σ σ' e h ht
    first
    | (cases h; rfl)
    | (simp only [codeE] at h; cases h; try rfl)

theorem dstsC_undraw : ∀ (a : Code), dstsC (undraw a) = dstsC a := by
  intro a
  induction a with
  | seq a b iha ihb => simp only [undraw, dstsC, iha, ihb]
  | cond x a b iha ihb => simp only [undraw, dstsC, iha, ihb]
  | block id a ih => simp only [undraw, dstsC, ih]
  | loop a ih => simp only [undraw, dstsC, ih]
  | _ => rfl

theorem vals_congr {e1 e2 : Nat → V} : ∀ {ts : List Nat}, (∀ t ∈ ts, e1 t = e2 t) → vals e1 ts = vals e2 ts
  | [], _ => rfl
  | t :: ts, h => by
    simp only [vals_cons, h t (by simp), vals_congr (fun u hu => h u (List.mem_cons_of_mem _ hu))]

theorem wp_loopF {c : Cfg} {N : Nat} {Q : St → Prop} {ks : List Fr} {env : Nat → V} {hp : Hp} {a : Code} (us ts : List Nat) (Inv : Nat → List V → Hp → Prop) (k : Nat) (hk : k < N)
    (hus : us.all (fun t => !(dstsC a).contains t) = true) (h0 : Inv k (vals env ts) hp)
    (hs : ∀ (j : Nat) (env' : Nat → V) (at_ : Nat → Option Blk) (next : Nat), j ≤ k → vals env' us = vals env us → Inv j (vals env' ts) ⟨at_, next⟩ → ∀ R : List V → Hp → Prop, Hd (∀ j' vs' hp', j' < j → Inv j' vs' hp' → R vs' hp') → wp c N Q (.loop ts R :: ks) a env' ⟨at_, next⟩) :
    wp c N Q ks (.loop a) env hp := by
  have key : ∀ (j : Nat) (m : Nat) (env' : Nat → V) (hp : Hp), j ≤ k → j < m → vals env' us = vals env us → Inv j (vals env' ts) hp → ∃ e σ', roundsE (codeE c N (undraw a)) m ⟨env', hp⟩ = some (e, σ') ∧ goE c N Q ks e σ' := by
    intro j
    induction j using Nat.strongRecOn with
    | ind j ih =>
      intro m env' hp hj hm hu hi
      cases m with
      | zero => omega
      | succ m =>
        obtain ⟨at_, next⟩ := hp
        obtain ⟨e, σ', he, hg⟩ := hs j env' at_ next hj hu hi (fun vs hp => ∃ j', j' < j ∧ Inv j' vs hp) (fun j' vs' hp' h1 h2 => ⟨j', h1, h2⟩)
        cases e with
        | normal =>
          obtain ⟨j', h1, h2⟩ := hg
          have hu' : vals σ'.env us = vals env us := by
            rw [← hu]
            refine vals_congr (fun t ht => ?_)
            refine codeE_frame _ he ?_
            rw [dstsC_undraw]
            have := List.all_eq_true.1 hus t ht
            simpa using this
          obtain ⟨e2, σ2, h3, h4⟩ := ih j' h1 m σ'.env σ'.hp (by omega) (by omega) hu' h2
          exact ⟨e2, σ2, by simp only [roundsE, he]; exact h3, h4⟩
        | exit id => exact ⟨_, _, by simp only [roundsE, he], hg⟩
        | ret => exact ⟨_, _, by simp only [roundsE, he], hg⟩
  obtain ⟨e, σ', h1, h2⟩ := key k N env hp (Nat.le_refl _) hk rfl h0
  exact ⟨e, σ', by simpa only [undraw, codeE] using h1, h2⟩


/-- A slice that grows by append: nil, or the whole of a block of its own. -/
def Own (at_ : Nat → Option Blk) (next : Nat) (lo : Nat) (v : V) (s : Nat) (rows : List (List C)) : Prop :=
  (v = .nilSl ∧ rows = []) ∨ ∃ b, v = .one (.ref s b 0 rows.length) ∧ at_ b = some ⟨s, rows⟩ ∧ lo ≤ b ∧ b < next
@[go_sem] theorem Own_nil {at_ : Nat → Option Blk} {next lo s : Nat} : Own at_ next lo .nilSl s [] = True := by simp [Own]
theorem Own.mk {at_ : Nat → Option Blk} {next lo b n s : Nat} {rows : List (List C)} (h1 : n = rows.length) (h2 : at_ b = some ⟨s, rows⟩) (h3 : lo ≤ b) (h4 : b < next) : Own at_ next lo (.one (.ref s b 0 n)) s rows := by
  subst h1
  exact .inr ⟨b, rfl, h2, h3, h4⟩
theorem take_self {α : Type} {l : List α} : l.take l.length = l := List.take_length
end Go.Ev
