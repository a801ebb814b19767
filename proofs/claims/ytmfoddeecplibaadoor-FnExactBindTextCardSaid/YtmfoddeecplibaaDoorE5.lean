/- Operations that write nothing that was there. -/
import Derived.Test.YtmfoddeecplibaaDoorE4
import Derived.Laws.MakeOwn
import Derived.Laws.Slices
import Derived.Laws.Tables
set_option linter.unusedVariables false
set_option linter.unusedSimpArgs false
namespace Go.Ev
variable {P : Program} {w : World} {ρ : Rho} {I : Nat → Prop} {h : Hp}

/-- An operation has run: its value, and what has become of memory. -/
def Out [TInv] (P : Program) (ρ : Rho) (I : Nat → Prop) (h : Hp) (w : World) (v : V) (h' : Hp) (s : Sem Value) : Prop :=
  ∃ v' w' ρ' I', s.run P w = .ok v' w' ∧ QStp ρ I h w ρ' I' h' w' ∧ More ρ ρ' ∧ Rel ρ' I' h' w' ∧ RepV ρ' I' w' v v'

theorem Out.same [TInv] {v : V} {s : Sem Value} {v' : Value} (R : Rel ρ I h w) (hr : s.run P w = .ok v' w) (hv : RepV ρ I w v v') : Out P ρ I h w v h s :=
  ⟨v', w, ρ, I, hr, .refl _ _ _ _, .refl _, R, hv⟩

theorem Out.newPtr [TInv] {k : Blk} {cs : Array Value} {e : TypeId} {s : Sem Value} (R : Rel ρ I h w) (hn : ρ h.next = none)
    (hr : s.run P w = .ok (.pointer (some ⟨w.heap.size, 0, none⟩)) (w.alloc (.cells cs e)))
    (hk : ∀ (i : Nat) (row : List C), k.rows[i]? = some row → row.length = k.s ∧ ∀ (j : Nat) (c : C), row[j]? = some c → ∃ u, cs[i * k.s + j]? = some u ∧ Rep ρ I w c u) :
    Out P ρ I h w (.one (.ptr k.s h.next 0 0)) (h.new k) s := by
  obtain ⟨R', q, m⟩ := rel_new (fz := (0, 0)) (e := e) R hn (by simp) hk
  refine ⟨_, _, _, _, hr, q, m, R', .one ?_⟩
  have : Rep (upd ρ h.next (some (w.heap.size, 0))) I (w.alloc (.cells cs e)) (.ptr k.s h.next 0 0) (.pointer (some ⟨w.heap.size, 0 + (0 * k.s + 0), none⟩)) := .ptr (upd_same _ _ _)
  simpa using this

theorem Out.newRef [TInv] {k : Blk} {cs : Array Value} {e : TypeId} {s : Sem Value} {cap : Nat} {n : Nat} (R : Rel ρ I h w) (hn : ρ h.next = none)
    (hr : s.run P w = .ok (.slice (some ⟨w.heap.size, 0, none⟩) n cap) (w.alloc (.cells cs e)))
    (hnc : n ≤ cap) (hcap : cap * k.s ≤ cs.size)
    (hk : ∀ (i : Nat) (row : List C), k.rows[i]? = some row → row.length = k.s ∧ ∀ (j : Nat) (c : C), row[j]? = some c → ∃ u, cs[i * k.s + j]? = some u ∧ Rep ρ I w c u) :
    Out P ρ I h w (.one (.ref k.s h.next 0 n)) (h.new k) s := by
  obtain ⟨R', q, m⟩ := rel_new (fz := (0, 0)) (e := e) R hn (by simp) hk
  refine ⟨_, _, _, _, hr, q, m, R', .one (.ref hnc (.inr ⟨w.heap.size, 0, upd_same _ _ _, by simp, fun j hj => ?_⟩))⟩
  have hlt : j < cs.size := by omega
  refine ⟨?_, ?_⟩
  · simp only [World.cell?, World.alloc, Array.getElem?_push_size, Option.isSome_none, Bool.false_eq_true, if_false]
    rw [show 0 + 0 * k.s + j = j by omega, Array.getElem?_eq_getElem hlt]; rfl
  · simp only [World.frozen?, World.alloc, Array.getElem?_push_size, Bool.and_eq_false_iff, decide_eq_false_iff_not]; omega

theorem sizeT_info {t : TypeId} {k : Nat} (hk : sizeT P t = some k) : ∃ i, P.info? t = some i ∧ i.size = k := by
  unfold sizeT at hk
  cases hi : P.info? t with
  | none => simp [hi] at hk
  | some i => simp [hi] at hk; exact ⟨i, rfl, hk⟩

theorem zeroT_info {t : TypeId} {z : List C} (hz : zeroT P t = some z) : ∃ i v, P.info? t = some i ∧ i.zero = some v ∧ z = (ofValue v).cells ∧ (ofValue v).cells.length = v.cells.size := by
  unfold zeroT at hz
  cases hi : P.info? t with
  | none => simp [hi] at hz
  | some i =>
    cases hv : i.zero with
    | none => simp [hi, hv] at hz
    | some v =>
      simp only [hi, hv, Option.bind_some] at hz
      split at hz
      · rename_i hl; cases hz; exact ⟨i, v, rfl, hv, rfl, hl⟩
      · cases hz

theorem out_alloc [TInv] {t : TypeId} {s : Nat} {z : List C} (R : Rel ρ I h w) (hn : ρ h.next = none) (hs : sizeT P t = some s) (hz : zeroT P t = some z) (hl : z.length = s) :
    Out P ρ I h w (.one (.ptr s h.next 0 0)) (h.new ⟨s, [z]⟩) (Instr.alloc t true (.tuple #[])) := by
  obtain ⟨i, v, hi, hv, rfl, _⟩ := zeroT_info hz
  refine Out.newPtr (k := ⟨s, [(ofValue v).cells]⟩) (cs := v.cells) (e := t) R hn ?_ ?_
  · simp [Instr.alloc, zeroValue, typeInfo, hi, hv, newVar, newRow]
  · intro i' row hi'
    cases i' with
    | succ i' => simp at hi'
    | zero =>
      simp at hi'; subst hi'
      exact ⟨hl, fun j c hj => by simpa using ofValue_rep v j c hj⟩

theorem out_box [TInv] {t : TypeId} {s : Nat} {x : V} {v : Value} (R : Rel ρ I h w) (hn : ρ h.next = none) (hx : RepV ρ I w x v) (hl : x.cells.length = s) :
    Out P ρ I h w (.one (.ptr s h.next 0 0)) (h.new ⟨s, [x.cells]⟩) (Instr.box t v) := by
  refine Out.newPtr (k := ⟨s, [x.cells]⟩) (cs := v.cells) (e := t) R hn ?_ ?_
  · simp [Instr.box, newVar, newRow]
  · intro i' row hi'
    cases i' with
    | succ i' => simp at hi'
    | zero =>
      simp at hi'; subst hi'
      exact ⟨hl, fun j c hj => by simpa using hx.at j c hj⟩

/-! ### cells filled in -/
/-- One list of values stands for cells. -/
def Fit (ρ : Rho) (I : Nat → Prop) (w : World) (cs : List C) (vs : Array Value) : Prop := cs.length = vs.size ∧ ∀ (j : Nat) (c : C), cs[j]? = some c → ∃ u, vs[j]? = some u ∧ Rep ρ I w c u

theorem fold_set (off : Nat) : ∀ (xs : List Value) (j : Nat) (cs : Array Value), off + j + xs.length ≤ cs.size →
    ((xs.zipIdx j).foldl (fun cs (c, j) => cs.setIfInBounds (off + j) c) cs).size = cs.size ∧
    ∀ k, ((xs.zipIdx j).foldl (fun cs (c, j) => cs.setIfInBounds (off + j) c) cs)[k]? = if off + j ≤ k ∧ k < off + j + xs.length then xs[k - (off + j)]? else cs[k]?
  | [], j, cs, h => by
    refine ⟨rfl, fun k => ?_⟩
    simp only [List.zipIdx_nil, List.foldl_nil]
    rw [if_neg]
    simp only [List.length_nil]; omega
  | x :: xs, j, cs, h => by
    simp only [List.length_cons] at h
    simp only [List.zipIdx_cons, List.foldl_cons]
    obtain ⟨h1, h2⟩ := fold_set off xs (j + 1) (cs.setIfInBounds (off + j) x) (by simp; omega)
    refine ⟨by rw [h1]; simp, fun k => ?_⟩
    rw [h2]
    by_cases hk : k = off + j
    · subst hk
      rw [if_neg (by omega), if_pos (by simp)]
      simp [Array.getElem?_setIfInBounds]
      omega
    · by_cases hk2 : off + (j + 1) ≤ k ∧ k < off + (j + 1) + xs.length
      · rw [if_pos hk2, if_pos (by simp only [List.length_cons]; omega)]
        rw [show k - (off + j) = (k - (off + (j + 1))) + 1 by omega]
        simp
      · rw [if_neg hk2, if_neg (by simp only [List.length_cons]; omega)]
        rw [Array.getElem?_setIfInBounds, if_neg (by omega)]

theorem setCells_length {row : List C} {off : Nat} {cs : List C} (h : off + cs.length ≤ row.length) : (setCells row off cs).length = row.length := by
  unfold setCells; simp; omega

theorem setCells_get {row : List C} {off : Nat} {cs : List C} (h : off + cs.length ≤ row.length) (k : Nat) :
    (setCells row off cs)[k]? = if off ≤ k ∧ k < off + cs.length then cs[k - off]? else row[k]? := by
  unfold setCells
  have h1 : (row.take off).length = off := by simp; omega
  rw [List.append_assoc, List.getElem?_append, h1]
  by_cases hk : k < off
  · rw [if_pos hk, if_neg (by omega), List.getElem?_take, if_pos hk]
  · rw [if_neg hk, List.getElem?_append]
    by_cases hk2 : k - off < cs.length
    · rw [if_pos hk2, if_pos (by omega)]
    · rw [if_neg hk2, if_neg (by omega), List.getElem?_drop]
      congr 1; omega

theorem fit_set [TInv] {cs : List C} {vs : Array Value} (hf : Fit ρ I w cs vs) {x : V} {v : Value} (hx : RepV ρ I w x v) {off : Nat} (ho : off + x.cells.length ≤ cs.length) (he : x.cells.length = v.cells.size) :
    Fit ρ I w (setCells cs off x.cells) (v.cells.zipIdx.foldl (fun cs (c, j) => cs.setIfInBounds (off + j) c) vs) := by
  have hz : v.cells.zipIdx.foldl (fun cs (c, j) => cs.setIfInBounds (off + j) c) vs = (v.cells.toList.zipIdx 0).foldl (fun cs (c, j) => cs.setIfInBounds (off + j) c) vs := by
    rw [← Array.foldl_toList]; simp
  rw [hz]
  obtain ⟨h1, h2⟩ := fold_set off v.cells.toList 0 vs (by rw [← hf.1]; simp; omega)
  refine ⟨by rw [setCells_length ho, h1]; exact hf.1, fun j c hj => ?_⟩
  rw [setCells_get ho] at hj
  rw [h2]
  by_cases hk : off ≤ j ∧ j < off + x.cells.length
  · rw [if_pos hk] at hj
    obtain ⟨u, hu, hr⟩ := hx.at _ c hj
    refine ⟨u, ?_, hr⟩
    rw [if_pos (by simp; omega)]
    simpa using hu
  · rw [if_neg hk] at hj
    rw [if_neg (by simp; omega)]
    exact hf.2 j c hj

theorem fill_ok [TInv] {place : Nat → Option (Nat × Nat)} : ∀ (parts : List (Nat × V)) (parts' : List (Nat × Value)) (cs cs' : List C) (vs : Array Value), fillC place cs parts = some cs' →
    parts.length = parts'.length → (∀ (j : Nat) (p : Nat × V) (p' : Nat × Value), parts[j]? = some p → parts'[j]? = some p' → p.1 = p'.1 ∧ RepV ρ I w p.2 p'.2) →
    (∀ i o s, place i = some (o, s) → 0 < s) → Fit ρ I w cs vs → ∃ vs', Instr.fill place vs parts' = some vs' ∧ Fit ρ I w cs' vs'
  | [], [], cs, cs', vs, hf, _, _, _, hfit => by simp only [fillC, Option.some.injEq] at hf; subst hf; exact ⟨vs, rfl, hfit⟩
  | [], _ :: _, _, _, _, _, hl, _, _, _ => by simp at hl
  | _ :: _, [], _, _, _, _, hl, _, _, _ => by simp at hl
  | (i, x) :: parts, (i', v) :: parts', cs, cs', vs, hf, hl, hp, hpos, hfit => by
    obtain ⟨h1, h2⟩ := hp 0 _ _ rfl rfl
    simp only at h1 h2
    subst h1
    simp only [fillC] at hf
    split at hf
    · cases hf
    · rename_i off size hpl
      split at hf
      · rename_i hc
        obtain ⟨hc1, hc2⟩ := hc
        have he := (h2.cellsEq (by rw [hc1]; exact hpos _ _ _ hpl)).1
        have := fill_ok parts parts' _ cs' _ hf (by simpa using hl) (fun j p p' a b => hp (j + 1) p p' (by simpa using a) (by simpa using b)) hpos (fit_set hfit h2 (off := off) (by omega) he)
        obtain ⟨vs', hv, hfit'⟩ := this
        refine ⟨vs', ?_, hfit'⟩
        simp only [Instr.fill, hpl]
        rw [if_neg]
        · exact hv
        · simp only [Bool.or_eq_true, bne_iff_ne, ne_eq, decide_eq_true_eq, not_or, Decidable.not_not]
          have := hfit.1
          omega
      · cases hf

theorem mapM_at {α β : Type} {f : α → Option β} : ∀ (l : List α), (∀ x ∈ l, (f x).isSome = true) → ∃ r, l.mapM f = some r ∧ ∀ i : Nat, r[i]? = (l[i]?).bind f
  | [], _ => ⟨[], rfl, fun i => by simp⟩
  | x :: l, h => by
    obtain ⟨y, hy⟩ := Option.isSome_iff_exists.1 (h x (by simp))
    obtain ⟨r, hr, hi⟩ := mapM_at l (fun x hx => h x (by simp [hx]))
    refine ⟨y :: r, by simp [List.mapM_cons, hy, hr], fun i => ?_⟩
    cases i with
    | zero => simp [hy]
    | succ i => simpa using hi i

theorem ofValue_fit [TInv] {v : Value} (h : (ofValue v).cells.length = v.cells.size) : Fit ρ I w (ofValue v).cells v.cells := ⟨h, ofValue_rep v⟩

theorem out_build [TInv] {t : TypeId} {parts : List (Nat × V)} {parts' : Array (Nat × Value)} {v : V} (R : Rel ρ I h w) (hb : buildE P t parts = some v) (hl : parts.length = parts'.toList.length)
    (hp : ∀ (j : Nat) (p : Nat × V) (p' : Nat × Value), parts[j]? = some p → parts'.toList[j]? = some p' → p.1 = p'.1 ∧ RepV ρ I w p.2 p'.2) :
    Out P ρ I h w v h (Instr.build t parts') := by
  unfold buildE at hb
  split at hb
  · rename_i fs z hu hz
    split at hb
    · rename_i hall
      obtain ⟨it, zv, hit, hzv, rfl, hzl⟩ := zeroT_info hz
      simp only [Option.map_eq_some_iff] at hb
      obtain ⟨cs', hf, rfl⟩ := hb
      obtain ⟨places, hpl, hat⟩ := mapM_at (f := fun f : Field => (P.info? f.type).map fun i => (f.offset, i.size)) fs.toList (fun f hfm => by
        have hh := hall f hfm
        unfold sizeT at hh
        cases hi : P.info? f.type with
        | none => simp [hi] at hh
        | some i => simp)
      have hpe : placesT P fs = fun i => places.toArray[i]? := by
        funext i
        simp only [placesT, List.getElem?_toArray, hat i, Array.getElem?_toList]
        cases fs[i]? with
        | none => rfl
        | some f => simp only [Option.bind_some, sizeT]; cases P.info? f.type <;> rfl
      rw [hpe] at hf
      obtain ⟨vs', hv, hfit⟩ := fill_ok parts parts'.toList _ cs' zv.cells hf hl hp (fun i o sz hpi => by
        simp only [List.getElem?_toArray, hat i, Array.getElem?_toList] at hpi
        cases hfi : fs[i]? with
        | none => simp [hfi] at hpi
        | some f =>
          have hh := hall f (List.mem_of_getElem? (by rw [Array.getElem?_toList]; exact hfi))
          simp only [hfi, Option.bind_some] at hpi
          cases hin : P.info? f.type with
          | none => simp [hin] at hpi
          | some inf =>
            simp only [hin, Option.map_some, Option.some.injEq, Prod.mk.injEq] at hpi
            simp only [sizeT, hin, Option.map_some, Option.getD_some] at hh
            omega) (ofValue_fit hzl)
      have hbuilt : P.built t parts'.toList = some vs' := by
        unfold Program.built
        simp only [hit, hu, hzv, hpl]
        exact hv
      refine Out.same R (run_build w t parts' vs' hbuilt) (.agg ⟨by simpa using hfit.1, fun j c u hc hu' => ?_⟩)
      obtain ⟨u2, hu2, hr⟩ := hfit.2 j c hc
      have : u = u2 := by
        rw [Array.getElem?_toList, hu2] at hu'; cases hu'; rfl
      subst this; exact hr
    · cases hb
  · cases hb

end Go.Ev
