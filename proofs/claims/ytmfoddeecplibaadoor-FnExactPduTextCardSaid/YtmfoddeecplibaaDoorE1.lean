/- What a real value and a real memory have to do with the evaluator's. -/
import Derived.Test.YtmfoddeecplibaaDoorE0
import Derived.Laws.IdiomCopy
import Derived.Below
set_option linter.unusedVariables false
set_option linter.unusedSimpArgs false
namespace Go.Ev

abbrev Rho := Nat → Option (Nat × Nat)

/-- A cell that leads to still memory alone. -/
inductive RepI (I : Nat → Prop) (w : World) : C → Value → Prop
  | lit {v : Value} : v.oneCell' = true → RepI I w (.lit v) v
  | sl {s : Nat} {rows : List (List C)} {a : Option Addr} {cap : Nat} (vs : Nat → Nat → Value) : rows.length ≤ cap →
      (∀ (i : Nat) (row : List C), rows[i]? = some row → row.length = s) →
      (∀ (i : Nat) (row : List C) (j : Nat) (c : C), rows[i]? = some row → row[j]? = some c → ∃ ad, a = some ad ∧ I ad.block ∧ w.cell? (ad.add (i * s + j)) = some (vs i j)) →
      (∀ (i : Nat) (row : List C) (j : Nat) (c : C), rows[i]? = some row → row[j]? = some c → RepI I w c (vs i j)) →
      RepI I w (.sl s rows) (.slice a rows.length cap)
  | ip {cells : List C} {ad : Addr} (vs : Nat → Value) :
      (∀ (j : Nat) (c : C), cells[j]? = some c → I ad.block ∧ w.cell? (ad.add j) = some (vs j)) →
      (∀ (j : Nat) (c : C), cells[j]? = some c → RepI I w c (vs j)) →
      RepI I w (.ip cells) (.pointer (some ad))
  | fn {f : FuncId} : RepI I w (.fn f []) (.func (.func f) #[] #[])

/-- There are n cells from here on, and they may be written. -/
def Room (w : World) (r k n : Nat) : Prop := ∀ j, j < n → (w.cell? ⟨r, k + j, none⟩).isSome = true ∧ w.frozen? ⟨r, k + j, none⟩ = false

inductive Rep (ρ : Rho) (I : Nat → Prop) (w : World) : C → Value → Prop
  | imm {c : C} {v : Value} : RepI I w c v → Rep ρ I w c v
  | ref {s b off len : Nat} {a : Option Addr} {cap : Nat} : len ≤ cap →
      ((cap = 0) ∨ ∃ r o, ρ b = some (r, o) ∧ a = some ⟨r, o + off * s, none⟩ ∧ Room w r (o + off * s) (cap * s)) →
      Rep ρ I w (.ref s b off len) (.slice a len cap)
  | ptr {s b row off r o : Nat} : ρ b = some (r, o) → Rep ρ I w (.ptr s b row off) (.pointer (some ⟨r, o + (row * s + off), none⟩))
  | fn {f : FuncId} {caps : List C} {vs : Array Value} : caps.length = vs.size →
      (∀ (j : Nat) (c : C) (v : Value), caps[j]? = some c → vs[j]? = some v → Rep ρ I w c v) → Rep ρ I w (.fn f caps) (.func (.func f) #[] vs)

def RepL (ρ : Rho) (I : Nat → Prop) (w : World) (cs : List C) (vs : List Value) : Prop :=
  cs.length = vs.length ∧ ∀ (j : Nat) (c : C) (v : Value), cs[j]? = some c → vs[j]? = some v → Rep ρ I w c v

inductive RepV (ρ : Rho) (I : Nat → Prop) (w : World) : V → Value → Prop
  | junk {v : Value} : RepV ρ I w .junk v
  | one {c : C} {v : Value} : Rep ρ I w c v → RepV ρ I w (.one c) v
  | agg {cs : List C} {vs : Array Value} : RepL ρ I w cs vs.toList → RepV ρ I w (.agg cs) (.agg vs)
  | tup {xs : List V} {vs : Array Value} : xs.length = vs.size → (∀ (j : Nat) (x : V) (v : Value), xs[j]? = some x → vs[j]? = some v → RepV ρ I w x v) → RepV ρ I w (.tup xs) (.tuple vs)

def RepVs (ρ : Rho) (I : Nat → Prop) (w : World) (xs : List V) (vs : List Value) : Prop :=
  xs.length = vs.length ∧ ∀ (j : Nat) (x : V) (v : Value), xs[j]? = some x → vs[j]? = some v → RepV ρ I w x v

/-- The real blocks that are written. -/
def Mut (ρ : Rho) (h : Hp) (r : Nat) : Prop := ∃ b k o, h.at_ b = some k ∧ ρ b = some (r, o)

/-- The rows k lie from ⟨r, o⟩ on. -/
def Lies (ρ : Rho) (I : Nat → Prop) (w : World) (r o : Nat) (k : Blk) : Prop :=
  ∀ (i : Nat) (row : List C), k.rows[i]? = some row → row.length = k.s ∧ ∀ (j : Nat) (c : C), row[j]? = some c →
    ∃ u, w.cell? ⟨r, o + (i * k.s + j), none⟩ = some u ∧ w.frozen? ⟨r, o + (i * k.s + j), none⟩ = false ∧ Rep ρ I w c u

/-- What is to stand in memory that nobody writes, for as long as a program runs. -/
class TInv where
  T : (Nat → Prop) → World → Prop
  mono : ∀ {I I' : Nat → Prop} {w w' : World}, T I w → (∀ r, I r → I' r) → (∀ r, I r → w'.heap[r]? = w.heap[r]?) → T I' w'
structure Imm [TInv] (I : Nat → Prop) (w : World) : Prop where
  lt : ∀ r, I r → r < w.heap.size
  tab : TInv.T I w
instance [TInv] {I : Nat → Prop} {w : World} : CoeFun (Imm I w) (fun _ => ∀ r, I r → r < w.heap.size) := ⟨Imm.lt⟩
theorem Imm.go [TInv] {I I' : Nat → Prop} {w w' : World} (h : Imm I w) (h1 : ∀ r, I' r → r < w'.heap.size) (h2 : ∀ r, I r → I' r) (h3 : ∀ r, I r → w'.heap[r]? = w.heap[r]?) : Imm I' w' := ⟨h1, TInv.mono h.tab h2 h3⟩

structure Rel [TInv] (ρ : Rho) (I : Nat → Prop) (h : Hp) (w : World) : Prop where
  imm : Imm I w
  blk : ∀ b k r o, h.at_ b = some k → ρ b = some (r, o) → r < w.heap.size ∧ ¬ I r ∧ Lies ρ I w r o k
  inj : ∀ b b' k k' r o o', h.at_ b = some k → h.at_ b' = some k' → ρ b = some (r, o) → ρ b' = some (r, o') → b = b'

/-- From one moment to a later one. M: the real blocks that may have been written. -/
structure Stp (ρ : Rho) (I : Nat → Prop) (h : Hp) (w : World) (ρ' : Rho) (I' : Nat → Prop) (h' : Hp) (w' : World) : Prop where
  next : h.next ≤ h'.next
  rho : ∀ b, b < h.next ∨ h'.next ≤ b → ρ' b = ρ b
  imm : ∀ r, I r → I' r
  immNew : ∀ r, I' r → I r ∨ w.heap.size ≤ r ∨ Mut ρ h r
  frame : ∀ r, r < w.heap.size → ¬ Mut ρ h r → w'.heap[r]? = w.heap[r]?
  wr : ∀ r, Mut ρ' h' r → Mut ρ h r ∨ w.heap.size ≤ r
  cells : ∀ a, (w.cell? a).isSome = true → (w'.cell? a).isSome = true ∧ w'.frozen? a = w.frozen? a
  size : w.heap.size ≤ w'.heap.size
  os : w'.os = w.os
  tape : w'.tape = w.tape
  output : w'.output = w.output

/-- What of a step a cell's reading asks for. -/
structure Evo (I : Nat → Prop) (w : World) (I' : Nat → Prop) (w' : World) : Prop where
  imm : ∀ r, I r → I' r
  same : ∀ a, I a.block → w'.cell? a = w.cell? a
  cells : ∀ a, (w.cell? a).isSome = true → (w'.cell? a).isSome = true ∧ w'.frozen? a = w.frozen? a

theorem RepI.evo {I I' : Nat → Prop} {w w' : World} (e : Evo I w I' w') {c : C} {v : Value} (h : RepI I w c v) : RepI I' w' c v := by
  induction h with
  | lit h => exact .lit h
  | @sl s rows a cap vs h0 h1 h2 h3 ih =>
    refine .sl vs h0 h1 (fun i row j c hi hj => ?_) ih
    obtain ⟨ad, ha, hI, hc⟩ := h2 i row j c hi hj
    refine ⟨ad, ha, e.imm _ hI, ?_⟩
    rw [e.same _ (by unfold Addr.add; split <;> exact hI)]; exact hc
  | @ip cells ad vs h1 h2 ih =>
    refine .ip vs (fun j c hj => ?_) ih
    obtain ⟨hI, hc⟩ := h1 j c hj
    refine ⟨e.imm _ hI, ?_⟩
    rw [e.same _ (by unfold Addr.add; split <;> exact hI)]; exact hc
  | fn => exact .fn

theorem Room.evo {w w' : World} {r k n : Nat} (e : ∀ a, (w.cell? a).isSome = true → (w'.cell? a).isSome = true ∧ w'.frozen? a = w.frozen? a) (h : Room w r k n) : Room w' r k n := fun j hj => by
  obtain ⟨h1, h2⟩ := h j hj
  obtain ⟨h3, h4⟩ := e _ h1
  exact ⟨h3, by rw [h4]; exact h2⟩

/-- ρ' tells at least what ρ tells. -/
def More (ρ ρ' : Rho) : Prop := ∀ b p, ρ b = some p → ρ' b = some p
theorem More.refl (ρ : Rho) : More ρ ρ := fun _ _ h => h
theorem More.trans {a b c : Rho} (h : More a b) (k : More b c) : More a c := fun x p hp => k x p (h x p hp)

theorem Rep.evo [TInv] {ρ ρ' : Rho} {I I' : Nat → Prop} {w w' : World} (e : Evo I w I' w') (m : More ρ ρ') {c : C} {v : Value} (h : Rep ρ I w c v) : Rep ρ' I' w' c v := by
  induction h with
  | imm h => exact .imm (h.evo e)
  | ref h1 h2 =>
    refine .ref h1 (h2.imp id ?_)
    rintro ⟨r, o, h3, h4, h5⟩
    exact ⟨r, o, m _ _ h3, h4, h5.evo e.cells⟩
  | ptr h => exact .ptr (m _ _ h)
  | fn h1 h2 ih => exact .fn h1 ih

theorem RepL.evo [TInv] {ρ ρ' : Rho} {I I' : Nat → Prop} {w w' : World} (e : Evo I w I' w') (m : More ρ ρ') {c : List C} {v : List Value} (h : RepL ρ I w c v) : RepL ρ' I' w' c v :=
  ⟨h.1, fun j c v hc hv => (h.2 j c v hc hv).evo e m⟩

theorem RepV.evo [TInv] {ρ ρ' : Rho} {I I' : Nat → Prop} {w w' : World} (e : Evo I w I' w') (m : More ρ ρ') {c : V} {v : Value} (h : RepV ρ I w c v) : RepV ρ' I' w' c v := by
  induction h with
  | junk => exact .junk
  | one h => exact .one (h.evo e m)
  | agg h => exact .agg (h.evo e m)
  | tup h1 h2 ih => exact .tup h1 ih

theorem RepVs.evo [TInv] {ρ ρ' : Rho} {I I' : Nat → Prop} {w w' : World} (e : Evo I w I' w') (m : More ρ ρ') {c : List V} {v : List Value} (h : RepVs ρ I w c v) : RepVs ρ' I' w' c v :=
  ⟨h.1, fun j c v hc hv => (h.2 j c v hc hv).evo e m⟩

theorem Stp.refl (ρ : Rho) (I : Nat → Prop) (h : Hp) (w : World) : Stp ρ I h w ρ I h w :=
  ⟨Nat.le_refl _, fun _ _ => rfl, fun _ h => h, fun _ h => .inl h, fun _ _ _ => rfl, fun _ h => .inl h, fun _ h => ⟨h, rfl⟩, Nat.le_refl _, rfl, rfl, rfl⟩

theorem cell?_of_heap {w w' : World} {a : Addr} (h : w'.heap[a.block]? = w.heap[a.block]?) : w'.cell? a = w.cell? a := by
  unfold World.cell?; rw [h]

theorem Rel.evo [TInv] {ρ : Rho} {I : Nat → Prop} {h : Hp} {w : World} (R : Rel ρ I h w) {ρ' : Rho} {I' : Nat → Prop} {h' : Hp} {w' : World} (s : Stp ρ I h w ρ' I' h' w') : Evo I w I' w' where
  imm := s.imm
  same := fun a ha => cell?_of_heap (s.frame _ (R.imm _ ha) (fun ⟨b, k, o, h1, h2⟩ => (R.blk b k _ o h1 h2).2.1 ha))
  cells := s.cells

/-- ρ tells of nothing that is still to come. -/
def Dom (ρ : Rho) (n : Nat) : Prop := ∀ b, n ≤ b → ρ b = none

theorem Stp.more {ρ : Rho} {I : Nat → Prop} {h : Hp} {w : World} {ρ' : Rho} {I' : Nat → Prop} {h' : Hp} {w' : World} (s : Stp ρ I h w ρ' I' h' w') (d : Dom ρ h.next) : More ρ ρ' := fun b p hp => by
  rw [s.rho b (.inl ?_)]; exact hp
  apply Nat.lt_of_not_le
  intro hb; rw [d b hb] at hp; cases hp

theorem Stp.dom {ρ : Rho} {I : Nat → Prop} {h : Hp} {w : World} {ρ' : Rho} {I' : Nat → Prop} {h' : Hp} {w' : World} (s : Stp ρ I h w ρ' I' h' w') (d : Dom ρ h.next) : Dom ρ' h'.next := fun b hb => by
  rw [s.rho b (.inr hb)]; exact d b (Nat.le_trans s.next hb)

theorem Stp.trans {ρ : Rho} {I : Nat → Prop} {h : Hp} {w : World} {ρ' : Rho} {I' : Nat → Prop} {h' : Hp} {w' : World} {ρ2 : Rho} {I2 : Nat → Prop} {h2 : Hp} {w2 : World}
    (s : Stp ρ I h w ρ' I' h' w') (t : Stp ρ' I' h' w' ρ2 I2 h2 w2) : Stp ρ I h w ρ2 I2 h2 w2 where
  next := Nat.le_trans s.next t.next
  rho := fun b hb => by
    rcases hb with hb | hb
    · rw [t.rho b (.inl (Nat.lt_of_lt_of_le hb s.next)), s.rho b (.inl hb)]
    · rw [t.rho b (.inr hb), s.rho b (.inr (Nat.le_trans t.next hb))]
  imm := fun r hr => t.imm _ (s.imm _ hr)
  immNew := fun r hr => by
    rcases t.immNew r hr with h | h | h
    · exact s.immNew r h
    · exact .inr (.inl (Nat.le_trans s.size h))
    · rcases s.wr r h with h | h
      · exact .inr (.inr h)
      · exact .inr (.inl h)
  frame := fun r hr hm => by
    rw [t.frame r (Nat.lt_of_lt_of_le hr s.size) (fun hm' => ?_), s.frame r hr hm]
    rcases s.wr r hm' with h | h
    · exact hm h
    · omega
  wr := fun r hr => by
    rcases t.wr r hr with h | h
    · exact s.wr r h
    · exact .inr (Nat.le_trans s.size h)
  cells := fun a ha => by
    obtain ⟨h1, h2⟩ := s.cells a ha
    obtain ⟨h3, h4⟩ := t.cells a h1
    exact ⟨h3, h4.trans h2⟩
  size := Nat.le_trans s.size t.size
  os := t.os.trans s.os
  tape := t.tape.trans s.tape
  output := t.output.trans s.output

/-- A draw. -/
theorem Stp.drew {ρ : Rho} {I : Nat → Prop} {h : Hp} {w : World} {ρ' : Rho} {I' : Nat → Prop} {h' : Hp} {w' : World} (s : Stp ρ I h w ρ' I' h' w') : Stp ρ I h w ρ' I' h' w'.drew :=
  ⟨s.next, s.rho, s.imm, s.immNew, s.frame, s.wr, s.cells, s.size, s.os, s.tape, s.output⟩
theorem Lies.drew [TInv] {ρ : Rho} {I : Nat → Prop} {w : World} {r o : Nat} {k : Blk} (h : Lies ρ I w r o k) : Lies ρ I w.drew r o k := fun i row hi => by
  obtain ⟨h1, h2⟩ := h i row hi
  refine ⟨h1, fun j c hj => ?_⟩
  obtain ⟨u, h3, h4, h5⟩ := h2 j c hj
  exact ⟨u, h3, h4, h5.evo (⟨fun _ h => h, fun _ _ => rfl, fun _ h => ⟨h, rfl⟩⟩ : Evo I w I w.drew) (More.refl _)⟩
theorem Rel.drew [TInv] {ρ : Rho} {I : Nat → Prop} {h : Hp} {w : World} (R : Rel ρ I h w) : Rel ρ I h w.drew :=
  ⟨R.imm.go R.imm.lt (fun _ h => h) (fun _ _ => rfl), fun b k r o h1 h2 => let ⟨h3, h4, h5⟩ := R.blk b k r o h1 h2; ⟨h3, h4, h5.drew⟩, R.inj⟩

theorem Lies.evo [TInv] {ρ ρ' : Rho} {I I' : Nat → Prop} {w w' : World} {r o : Nat} {k : Blk} (e : Evo I w I' w') (m : More ρ ρ')
    (hs : w'.heap[r]? = w.heap[r]?) (h : Lies ρ I w r o k) : Lies ρ' I' w' r o k := fun i row hi => by
  obtain ⟨h1, h2⟩ := h i row hi
  refine ⟨h1, fun j c hj => ?_⟩
  obtain ⟨u, h3, h4, h5⟩ := h2 j c hj
  refine ⟨u, ?_, ?_, h5.evo e m⟩
  · rw [cell?_of_heap (by exact hs)]; exact h3
  · unfold World.frozen? at *; simp only [hs]; exact h4

end Go.Ev
