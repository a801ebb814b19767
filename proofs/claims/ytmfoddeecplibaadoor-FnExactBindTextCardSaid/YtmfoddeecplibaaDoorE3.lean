/- Memory: new blocks, loads, stores. -/
import Derived.Test.YtmfoddeecplibaaDoorE2
set_option linter.unusedVariables false
set_option linter.unusedSimpArgs false
namespace Go.Ev
variable {P : Program} {w : World} {ρ : Rho} {I : Nat → Prop} {h : Hp}

/-- A step that writes nothing that was there. -/
structure QStp (ρ : Rho) (I : Nat → Prop) (h : Hp) (w : World) (ρ' : Rho) (I' : Nat → Prop) (h' : Hp) (w' : World) : Prop where
  next : h.next ≤ h'.next
  rho : ∀ b, b < h.next ∨ h'.next ≤ b → ρ' b = ρ b
  imm : ∀ r, I r → I' r
  immNew : ∀ r, I' r → I r ∨ w.heap.size ≤ r
  frame : ∀ r, r < w.heap.size → w'.heap[r]? = w.heap[r]?
  at_ : ∀ b, b < h.next ∨ h'.next ≤ b → h'.at_ b = h.at_ b
  fresh : ∀ b r o, h.next ≤ b → b < h'.next → ρ' b = some (r, o) → w.heap.size ≤ r
  size : w.heap.size ≤ w'.heap.size
  os : w'.os = w.os
  tape : w'.tape = w.tape
  output : w'.output = w.output

theorem lt_of_cell {w : World} {a : Addr} (h : (w.cell? a).isSome = true) : a.block < w.heap.size := by
  unfold World.cell? at h
  rcases Nat.lt_or_ge a.block w.heap.size with h1 | h1
  · exact h1
  · rw [Array.getElem?_eq_none h1] at h; cases h

theorem frozen_of_heap {w w' : World} {a : Addr} (h : w'.heap[a.block]? = w.heap[a.block]?) : w'.frozen? a = w.frozen? a := by
  unfold World.frozen?; rw [h]

theorem QStp.stp [TInv] {ρ' : Rho} {I' : Nat → Prop} {h' : Hp} {w' : World} (q : QStp ρ I h w ρ' I' h' w') : Stp ρ I h w ρ' I' h' w' where
  next := q.next
  rho := q.rho
  imm := q.imm
  immNew := fun r hr => (q.immNew r hr).elim .inl (fun h => .inr (.inl h))
  frame := fun r hr _ => q.frame r hr
  wr := fun r ⟨b, k, o, h1, h2⟩ => by
    by_cases hb : b < h.next ∨ h'.next ≤ b
    · rw [q.at_ b hb] at h1; rw [q.rho b hb] at h2; exact .inl ⟨b, k, o, h1, h2⟩
    · exact .inr (q.fresh b r o (by omega) (by omega) h2)
  cells := fun a ha => by
    have hl := q.frame _ (lt_of_cell ha)
    rw [cell?_of_heap hl, frozen_of_heap hl]
    exact ⟨ha, rfl⟩
  size := q.size
  os := q.os
  tape := q.tape
  output := q.output

theorem QStp.refl (ρ : Rho) (I : Nat → Prop) (h : Hp) (w : World) : QStp ρ I h w ρ I h w :=
  ⟨Nat.le_refl _, fun _ _ => rfl, fun _ h => h, fun _ h => .inl h, fun _ _ => rfl, fun _ _ => rfl, fun b _ _ h1 h2 => by omega, Nat.le_refl _, rfl, rfl, rfl⟩

theorem QStp.evo [TInv] {ρ' : Rho} {I' : Nat → Prop} {h' : Hp} {w' : World} (q : QStp ρ I h w ρ' I' h' w') (hI : ∀ r, I r → r < w.heap.size) : Evo I w I' w' where
  imm := q.imm
  same := fun a ha => cell?_of_heap (q.frame _ (hI _ ha))
  cells := q.stp.cells

/-- A new block of cells. -/
theorem rel_new [TInv] {k : Blk} {cs : Array Value} {e : TypeId} {fz : Nat × Nat} (R : Rel ρ I h w) (hn : ρ h.next = none)
    (hfz : ∀ j, j < cs.size → ¬ (fz.1 ≤ j ∧ j < fz.2))
    (hk : ∀ (i : Nat) (row : List C), k.rows[i]? = some row → row.length = k.s ∧ ∀ (j : Nat) (c : C), row[j]? = some c → ∃ u, cs[i * k.s + j]? = some u ∧ Rep ρ I w c u) :
    Rel (upd ρ h.next (some (w.heap.size, 0))) I (h.new k) (w.alloc (.cells cs e fz)) ∧
    QStp ρ I h w (upd ρ h.next (some (w.heap.size, 0))) I (h.new k) (w.alloc (.cells cs e fz)) ∧ More ρ (upd ρ h.next (some (w.heap.size, 0))) := by
  have hfr : ∀ r, r < w.heap.size → (w.alloc (.cells cs e fz)).heap[r]? = w.heap[r]? := fun r hr => Go.RowKit.Below.heap_alloc w _ r hr
  have hm : More ρ (upd ρ h.next (some (w.heap.size, 0))) := fun b p hp => by
    unfold upd; split
    · rename_i hb; subst hb; rw [hn] at hp; cases hp
    · exact hp
  have hq : QStp ρ I h w (upd ρ h.next (some (w.heap.size, 0))) I (h.new k) (w.alloc (.cells cs e fz)) :=
    { next := Nat.le_succ _
      rho := fun b hb => by
        unfold upd; split
        · rename_i he; simp only [Hp.new] at hb; omega
        · rfl
      imm := fun _ h => h
      immNew := fun _ h => .inl h
      frame := hfr
      at_ := fun b hb => by
        simp only [Hp.new, upd]
        rw [if_neg]; simp only [Hp.new] at hb; omega
      fresh := fun b r o h1 h2 h3 => by
        simp only [Hp.new] at h2
        have : b = h.next := by omega
        subst this
        rw [upd_same] at h3; cases h3; exact Nat.le_refl _
      size := by simp
      os := rfl
      tape := rfl
      output := rfl }
  have he := hq.evo R.imm.lt
  refine ⟨⟨R.imm.go (fun r hr => by have := R.imm r hr; simp; omega) (fun _ h => h) (fun r hr => hq.frame r (R.imm r hr)), fun b k' r o h1 h2 => ?_, fun b b' k1 k2 r o o' h1 h2 h3 h4 => ?_⟩, hq, hm⟩
  · simp only [Hp.new] at h1
    unfold upd at h1 h2
    split at h2
    · rename_i hb
      subst hb
      rw [if_pos rfl] at h1
      cases h1; cases h2
      refine ⟨by simp, fun hi => Nat.lt_irrefl _ (R.imm _ hi), fun i row hi => ?_⟩
      obtain ⟨h5, h6⟩ := hk i row hi
      refine ⟨h5, fun j c hj => ?_⟩
      obtain ⟨u, hu, hr⟩ := h6 j c hj
      refine ⟨u, ?_, ?_, hr.evo he hm⟩
      · rw [Nat.zero_add]; simp only [World.cell?, World.alloc, Array.getElem?_push_size, Option.isSome_none, Bool.false_eq_true, if_false]; exact hu
      · have hlt : i * k.s + j < cs.size := (Array.getElem?_eq_some_iff.1 hu).1
        have := hfz _ hlt
        simp only [World.frozen?, World.alloc, Nat.zero_add, Array.getElem?_push_size, Bool.and_eq_false_iff, decide_eq_false_iff_not]
        omega
    · rename_i hb
      rw [if_neg hb] at h1
      obtain ⟨h5, h6, h7⟩ := R.blk b k' r o h1 h2
      exact ⟨by simp; omega, h6, h7.evo he hm (hfr r h5)⟩
  · simp only [Hp.new] at h1 h2
    unfold upd at h1 h2 h3 h4
    split at h3 <;> split at h4
    · rename_i ha hb; rw [ha, hb]
    · rename_i ha hb
      cases h3; rw [if_neg hb] at h2
      have := (R.blk b' k2 _ o' h2 h4).1
      omega
    · rename_i ha hb
      cases h4; rw [if_neg ha] at h1
      have := (R.blk b k1 _ o h1 h3).1
      omega
    · rename_i ha hb
      rw [if_neg ha] at h1; rw [if_neg hb] at h2
      exact R.inj b b' k1 k2 r o o' h1 h2 h3 h4

theorem ofValue_rep (v : Value) : ∀ (j : Nat) (c : C), (ofValue v).cells[j]? = some c → ∃ u, v.cells[j]? = some u ∧ Rep ρ I w c u := by
  intro j c hj
  unfold ofValue at hj
  split at hj
  · rename_i cs
    split at hj
    · rename_i hall
      simp only [V.cells, List.getElem?_map, Option.map_eq_some_iff] at hj
      obtain ⟨u, hu, rfl⟩ := hj
      refine ⟨u, by simpa [Value.cells] using hu, .imm (.lit ?_)⟩
      have := List.all_eq_true.1 hall u (List.mem_of_getElem? hu)
      simpa using this
    · simp [V.cells] at hj
  · split at hj <;> simp [V.cells] at hj
  · rename_i h1 h2
    cases j with
    | succ j => simp [V.cells] at hj
    | zero =>
      simp only [V.cells, List.getElem?_cons_zero, Option.some.injEq] at hj
      subst hj
      refine ⟨v, ?_, .imm (.lit ?_)⟩
      · cases v <;> first | rfl | exact absurd rfl (h1 _)
      · cases v <;> first | rfl | exact absurd rfl (h1 _) | exact absurd rfl (h2 _)

theorem ofValue_repV (v : Value) : RepV ρ I w (ofValue v) v := by
  unfold ofValue
  split
  · rename_i cs
    split
    · rename_i hall
      refine .agg ⟨by simp, fun j c u hj hu => ?_⟩
      simp only [List.getElem?_map, Option.map_eq_some_iff] at hj
      obtain ⟨u', hu', rfl⟩ := hj
      rw [hu'] at hu; cases hu
      exact .imm (.lit (by simpa using List.all_eq_true.1 hall u (List.mem_of_getElem? hu')))
    · exact .junk
  · split
    · rename_i vs hz
      refine .tup (by simp [hz]) (fun j x v hx hv => by simp at hx)
    · exact .junk
  · rename_i h1 h2
    refine .one (.imm (.lit ?_))
    cases v <;> first | rfl | exact absurd rfl (h1 _) | exact absurd rfl (h2 _)

theorem RepV.at {x : V} {v : Value} (hx : RepV ρ I w x v) : ∀ (j : Nat) (c : C), x.cells[j]? = some c → ∃ u, v.cells[j]? = some u ∧ Rep ρ I w c u := by
  intro j c hj
  cases hx with
  | junk => simp [V.cells] at hj
  | one hr =>
    cases j with
    | succ j => simp [V.cells] at hj
    | zero =>
      simp only [V.cells, List.getElem?_cons_zero, Option.some.injEq] at hj
      subst hj
      refine ⟨v, ?_, hr⟩
      have := hr.cell
      cases v <;> first | rfl | cases this
  | @agg cs vs hr =>
    simp only [V.cells] at hj
    have hlt : j < vs.toList.length := by rw [← hr.1]; exact (List.getElem?_eq_some_iff.1 hj).1
    refine ⟨vs.toList[j], ?_, hr.2 j c _ hj (List.getElem?_eq_getElem hlt)⟩
    simp only [Value.cells]
    rw [← Array.getElem?_toList]
    exact List.getElem?_eq_getElem hlt
  | tup => simp [V.cells] at hj

theorem RepV.cellsLen [TInv] {x : V} {v : Value} (hx : RepV ρ I w x v) : x.cells.length ≤ v.cells.size := by
  rcases Nat.lt_or_ge v.cells.size x.cells.length with h | h
  · obtain ⟨u, hu, _⟩ := hx.at v.cells.size _ (List.getElem?_eq_getElem h)
    simp at hu
  · exact h

theorem RepV.cellsEq {x : V} {v : Value} (hx : RepV ρ I w x v) (hp : 0 < x.cells.length) : x.cells.length = v.cells.size ∧ ∀ u ∈ v.cells.toList, u.oneCell' = true := by
  cases hx with
  | junk => simp [V.cells] at hp
  | one hr => have := hr.cell; cases v <;> first | exact ⟨rfl, fun u hu => by simp [Value.cells] at hu; subst hu; rfl⟩ | cases this
  | agg hr => exact ⟨by simpa [V.cells, Value.cells] using hr.1, hr.cell⟩
  | tup => simp [V.cells] at hp

/-! ### loads -/
theorem add_add (a : Addr) (m n : Nat) : (a.add m).add n = a.add (m + n) := by
  unfold Addr.add
  by_cases hm : m = 0
  · subst hm; simp
  · by_cases hn : n = 0
    · subst hn; simp [hm]
    · simp [hm, hn]; omega

theorem add_plain (b o n : Nat) : (⟨b, o, none⟩ : Addr).add n = ⟨b, o + n, none⟩ := by
  unfold Addr.add; split
  · rename_i h; subst h; rfl
  · rfl

theorem run_loadVar {t : TypeId} {k : Nat} (hk : sizeT P t = some k) {a : Addr} {cs : List C} (hcs : cs.length = k) {x : V} (hp : packT P t cs = some x)
    (hd : ∃ d, P.underlying t = some d) (hc : ∀ (j : Nat) (c : C), cs[j]? = some c → ∃ u, w.cell? (a.add j) = some u ∧ Rep ρ I w c u) :
    ∃ v, (loadVar t a).run P w = .ok v w ∧ RepV ρ I w x v := by
  obtain ⟨d, hd⟩ := hd
  unfold packT at hp
  unfold loadVar
  rw [hd] at hp
  simp only [Sem.run_bind, run_isAgg t d hd, Result.andThen_ok]
  have hex : ∃ us : List Value, us.length = cs.length ∧ (∀ (j : Nat) (u : Value), us[j]? = some u → w.cell? (a.add j) = some u) ∧ ∀ (j : Nat) (c : C) (u : Value), cs[j]? = some c → us[j]? = some u → Rep ρ I w c u := by
    refine ⟨(List.range cs.length).map fun j => (w.cell? (a.add j)).getD undef, by simp, fun j u hj => ?_, fun j c u hj hu => ?_⟩
    · simp only [List.getElem?_map, Option.map_eq_some_iff] at hj
      obtain ⟨j', hj', rfl⟩ := hj
      obtain ⟨hlt, rfl⟩ := List.getElem?_eq_some_iff.1 hj'
      simp only [List.length_range] at hlt
      obtain ⟨u, hu, _⟩ := hc j _ (List.getElem?_eq_getElem hlt)
      simp [hu]
    · simp only [List.getElem?_map, Option.map_eq_some_iff] at hu
      obtain ⟨j', hj', rfl⟩ := hu
      obtain ⟨hlt, rfl⟩ := List.getElem?_eq_some_iff.1 hj'
      simp only [List.length_range] at hlt
      obtain ⟨u, hu, hr⟩ := hc j c hj
      simpa [hu] using hr
  obtain ⟨us, hl, hus, hrep⟩ := hex
  cases ha : isAggD (some d) with
  | true =>
    rw [if_pos (by rw [ha])] at hp
    cases hp
    simp only [if_true, Sem.run_bind, run_sizeOf' t k hk, Result.andThen_ok]
    have := run_loadCells_list (P := P) w a us hus
    rw [show k = us.length by omega, this]
    exact ⟨_, rfl, .agg ⟨by simp [hl], fun j c v hj hv => hrep j c v hj (by simpa using hv)⟩⟩
  | false =>
    rw [if_neg (by rw [ha]; simp)] at hp
    split at hp
    · rename_i c
      cases hp
      obtain ⟨u, hu, hr⟩ := hc 0 c rfl
      refine ⟨u, ?_, .one hr⟩
      have : a.add 0 = a := by unfold Addr.add; simp
      rw [this] at hu
      simp [hu]
    · cases hp

end Go.Ev
