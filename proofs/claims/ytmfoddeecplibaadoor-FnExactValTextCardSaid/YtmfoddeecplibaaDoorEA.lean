/- Operations that write. -/
import Derived.Test.YtmfoddeecplibaaDoorE9
set_option linter.unusedVariables false
set_option linter.unusedSimpArgs false
namespace Go.Ev
variable {P : Program} {w : World} {ρ : Rho} {I : Nat → Prop} {h : Hp}

theorem setCells_heap (b : Nat) : ∀ (vs : List Value) (o : Nat) (w : World) (r : Nat), r ≠ b → (w.setCells b o vs).heap[r]? = w.heap[r]?
  | [], _, _, _, _ => rfl
  | v :: vs, o, w, r, h => by
    rw [World.setCells, setCells_heap b vs (o + 1) _ r h]
    exact Go.RowKit.Below.heap_setCell _ _ _ _ h
theorem setCells_size (b : Nat) : ∀ (vs : List Value) (o : Nat) (w : World), (w.setCells b o vs).heap.size = w.heap.size
  | [], _, _ => rfl
  | v :: vs, o, w => by rw [World.setCells, setCells_size b vs (o + 1)]; simp
theorem setCells_os (b : Nat) : ∀ (vs : List Value) (o : Nat) (w : World), (w.setCells b o vs).os = w.os ∧ (w.setCells b o vs).tape = w.tape ∧ (w.setCells b o vs).output = w.output
  | [], _, _ => ⟨rfl, rfl, rfl⟩
  | v :: vs, o, w => by
    obtain ⟨h1, h2, h3⟩ := setCells_os b vs (o + 1) (w.setCell ⟨b, o, none⟩ v)
    exact ⟨h1, h2, h3⟩
theorem setCells_some (b : Nat) : ∀ (vs : List Value) (o : Nat) (w : World) (a : Addr), (w.cell? a).isSome = true → ((w.setCells b o vs).cell? a).isSome = true
  | [], _, _, _, h => h
  | v :: vs, o, w, a, h => by
    rw [World.setCells]
    refine setCells_some b vs (o + 1) _ a ?_
    by_cases he : (⟨b, o, none⟩ : Addr) = a
    · subst he
      obtain ⟨u, hu⟩ := Option.isSome_iff_exists.1 h
      rw [World.cell?_setCell_same _ _ _ hu]; rfl
    · rw [World.cell?_setCell_other _ _ _ _ he]; exact h

/-- Cells of one of our blocks are written. -/
theorem setCells_evo [TInv] {r o : Nat} {vs : List Value} (hI : ¬ I r) : Evo I w I (w.setCells r o vs) where
  imm := fun _ h => h
  same := fun a ha => cell?_of_heap (setCells_heap r vs o w a.block (fun e => hI (e ▸ ha)))
  cells := fun a ha => ⟨setCells_some r vs o w a ha, World.frozen?_setCells r vs o w a⟩

theorem storeCells_run {r k : Nat} {vs : List Value} (hc : Room w r k vs.length) (h1 : ∀ v ∈ vs, v.oneCell' = true) : (storeCells ⟨r, k, none⟩ vs).run P w = .ok () (w.setCells r k vs) := by
  have := run_storeCells_cells (P := P) r k vs 0 w (fun j hj => by simpa using (hc j hj).1) (fun j hj => by simpa using (hc j hj).2) h1
  simpa using this

theorem store_ok [TInv] {t : TypeId} {x v : V} {x' v' : Value} {h' : Hp} (R : Rel ρ I h w) (hs : storeE P h t x v = some h') (hx : RepV ρ I w x x') (hv : RepV ρ I w v v') :
    ∃ w', (Instr.storeAt t x' v').run P w = .ok () w' ∧ Stp ρ I h w ρ I h' w' ∧ Rel ρ I h' w' := by
  unfold storeE at hs
  split at hs
  · rename_i k s b row off hk
    split at hs
    · rename_i blk hblk
      split at hs
      · rename_i hc
        obtain ⟨hpos, c1, c2, c3, c4⟩ := hc
        cases hs
        cases rep_one hx with
        | imm hi => cases hi
        | @ptr _ _ _ _ r o hρ =>
          obtain ⟨g0, g1, hlies⟩ := R.blk b blk r o hblk hρ
          obtain ⟨e1, e2⟩ := hv.cellsEq (by omega)
          obtain ⟨l1, l2⟩ := hlies row _ (row_get c2)
          have hroom : Room w r (o + (row * s + off)) v'.cells.toList.length := fun j hj => by
            simp only [Array.length_toList] at hj
            have hlt : off + j < (blk.rows.getD row []).length := by rw [l1, c1]; omega
            obtain ⟨u, hu, hf, _⟩ := l2 _ _ (List.getElem?_eq_getElem hlt)
            rw [c1, show o + (row * s + (off + j)) = o + (row * s + off) + j by omega] at hu hf
            rw [hu, hf]; exact ⟨rfl, rfl⟩
          have hrun : (Instr.storeAt t (.pointer (some ⟨r, o + (row * s + off), none⟩)) v').run P w = .ok () (w.setCells r (o + (row * s + off)) v'.cells.toList) := by
            have hsz : ¬ v'.cells.size ≠ k := by omega
            simp only [Instr.storeAt, Instr.sureAddr, storeVar, Sem.run_bind, Sem.run_pure, Result.andThen_ok, run_sizeOf' t k hk, Sem.run_ite, hsz, if_false, storeCells_run hroom e2]
          refine ⟨_, hrun, ?_, ?_⟩
          · exact ⟨Nat.le_refl _, fun _ _ => rfl, fun _ h => h, fun _ h => .inl h,
              fun r' hr' hm => setCells_heap r _ _ w r' (fun e => hm (e ▸ ⟨b, blk, o, hblk, hρ⟩)),
              fun r' ⟨b', k', o', h1, h2⟩ => by
                simp only [Hp.set] at h1
                unfold upd at h1
                split at h1
                · rename_i hb; subst hb; exact .inl ⟨_, blk, o', hblk, h2⟩
                · exact .inl ⟨b', k', o', h1, h2⟩,
              (setCells_evo g1).cells, Nat.le_of_eq (setCells_size _ _ _ _).symm, (setCells_os _ _ _ _).1, (setCells_os _ _ _ _).2.1, (setCells_os _ _ _ _).2.2⟩
          · refine ⟨R.imm.go (fun r hr => by rw [setCells_size]; exact R.imm r hr) (fun _ h => h) (fun r' hr' => setCells_heap r _ _ w r' (fun e => g1 (e ▸ hr'))), fun b' k' r' o' h1 h2 => ?_, fun b1 b2 k1 k2 r1 o1 o2 h1 h2 h3 h4 => ?_⟩
            · simp only [Hp.set] at h1
              unfold upd at h1
              split at h1
              · rename_i hb; subst hb
                rw [hρ] at h2; cases h2
                cases h1
                refine ⟨by rw [setCells_size]; exact g0, g1, fun i row' hi => ?_⟩
                simp only at hi
                rw [List.getElem?_set] at hi
                have hlen0 : off + v.cells.length ≤ (blk.rows.getD row []).length := by rw [l1, c1]; omega
                have cellAt : ∀ (i' j : Nat) (row0 : List C), blk.rows[i']? = some row0 → j < row0.length → (i' ≠ row ∨ j < off ∨ off + v.cells.length ≤ j) →
                    (w.setCells r (o + (row * s + off)) v'.cells.toList).cell? ⟨r, o + (i' * s + j), none⟩ = w.cell? ⟨r, o + (i' * s + j), none⟩ := fun i' j row0 hi' hj hor => by
                  refine World.cell?_setCells_out r _ _ _ _ (fun _ _ => ?_)
                  simp only [Array.length_toList]
                  have hjs : j < s := by rw [← c1, ← (hlies i' row0 hi').1]; exact hj
                  by_cases hir : i' = row
                  · subst hir
                    rcases hor with h | h | h
                    · exact absurd rfl h
                    · left; omega
                    · right; omega
                  · rcases Nat.lt_or_gt_of_ne hir with hlt | hlt
                    · have : (i' + 1) * s ≤ row * s := Nat.mul_le_mul_right s hlt
                      rw [Nat.add_mul] at this
                      left; omega
                    · have : (row + 1) * s ≤ i' * s := Nat.mul_le_mul_right s hlt
                      rw [Nat.add_mul] at this
                      right; omega
                by_cases hir : row = i
                · subst hir
                  rw [if_pos rfl, if_pos c2] at hi
                  cases hi
                  refine ⟨by rw [setCells_length hlen0, l1, c1], fun j c hj => ?_⟩
                  rw [setCells_get hlen0] at hj
                  by_cases hin : off ≤ j ∧ j < off + v.cells.length
                  · rw [if_pos hin] at hj
                    obtain ⟨u, hu, hr⟩ := hv.at _ c hj
                    have hlt : j - off < v'.cells.toList.length := by simp; omega
                    have := World.cell?_setCells_in r v'.cells.toList (o + (row * s + off)) w (fun j hj => (hroom j hj).1) (j - off) hlt
                    refine ⟨u, ?_, ?_, hr.evo (setCells_evo g1) (More.refl _)⟩
                    · rw [show o + (row * s + j) = o + (row * s + off) + (j - off) by omega, this]
                      rw [← hu, ← Array.getElem?_toList, List.getElem?_eq_getElem hlt]
                    · rw [World.frozen?_setCells]
                      have := (hroom (j - off) hlt).2
                      rwa [show o + (row * s + off) + (j - off) = o + (row * s + j) by omega] at this
                  · rw [if_neg hin] at hj
                    obtain ⟨u, hu, hf, hr⟩ := l2 j c hj
                    rw [c1] at hu hf
                    refine ⟨u, ?_, by rw [World.frozen?_setCells]; exact hf, hr.evo (setCells_evo g1) (More.refl _)⟩
                    rw [cellAt row j _ (row_get c2) (List.getElem?_eq_some_iff.1 hj).1 (by omega)]; exact hu
                · rw [if_neg hir] at hi
                  obtain ⟨m1, m2⟩ := hlies i row' hi
                  refine ⟨by rw [m1, c1], fun j c hj => ?_⟩
                  obtain ⟨u, hu, hf, hr⟩ := m2 j c hj
                  rw [c1] at hu hf
                  refine ⟨u, ?_, by rw [World.frozen?_setCells]; exact hf, hr.evo (setCells_evo g1) (More.refl _)⟩
                  rw [cellAt i j row' hi (List.getElem?_eq_some_iff.1 hj).1 (.inl (Ne.symm hir))]; exact hu
              · rename_i hb
                obtain ⟨m0, m1, m2⟩ := R.blk b' k' r' o' h1 h2
                refine ⟨by rw [setCells_size]; exact m0, m1, m2.evo (setCells_evo g1) (More.refl _) (setCells_heap _ _ _ _ _ (fun e => hb ?_))⟩
                subst e
                exact R.inj b' b k' blk r' o' o h1 hblk h2 hρ
            · have up : ∀ b' k', (h.set b ⟨s, blk.rows.set row (setCells (blk.rows.getD row []) off v.cells)⟩).at_ b' = some k' → ∃ k0, h.at_ b' = some k0 := fun b' k' hb' => by
                simp only [Hp.set] at hb'
                unfold upd at hb'
                split at hb'
                · rename_i hb; subst hb; exact ⟨_, hblk⟩
                · exact ⟨_, hb'⟩
              obtain ⟨k1', h1'⟩ := up _ _ h1
              obtain ⟨k2', h2'⟩ := up _ _ h2
              exact R.inj b1 b2 k1' k2' r1 o1 o2 h1' h2' h3 h4
      · cases hs
    · cases hs
  · cases hs

theorem rel_kill [TInv] (R : Rel ρ I h w) (b : Nat) : Rel ρ I (h.kill b) w ∧ Stp ρ I h w ρ I (h.kill b) w := by
  have up : ∀ b' k', (h.kill b).at_ b' = some k' → h.at_ b' = some k' := fun b' k' hb' => by
    simp only [Hp.kill] at hb'
    unfold upd at hb'
    split at hb'
    · cases hb'
    · exact hb'
  refine ⟨⟨R.imm, fun b' k r o h1 h2 => R.blk b' k r o (up _ _ h1) h2, fun b1 b2 k1 k2 r o o' h1 h2 => R.inj b1 b2 k1 k2 r o o' (up _ _ h1) (up _ _ h2)⟩, ?_⟩
  exact ⟨Nat.le_refl _, fun _ _ => rfl, fun _ h => h, fun _ h => .inl h, fun _ _ _ => rfl, fun r ⟨b', k, o, h1, h2⟩ => .inl ⟨b', k, o, up _ _ h1, h2⟩, fun _ h => ⟨h, rfl⟩, Nat.le_refl _, rfl, rfl, rfl⟩

end Go.Ev
