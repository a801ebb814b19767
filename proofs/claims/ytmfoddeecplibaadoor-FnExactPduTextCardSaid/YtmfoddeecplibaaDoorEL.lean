/- What is handed to a law, read as a tree of values. -/
import Derived.Test.YtmfoddeecplibaaDoorEH
import Derived.ChangeArms
import Derived.ChangeOld
import Derived.DataReads
import Derived.DataElems
import Derived.SizedLaws
set_option linter.unusedVariables false
set_option linter.unusedSimpArgs false
namespace Go.Ev

inductive TD where
  | bool
  | int (k : IntKind)
  | str
  | slc (s bytes : Nat) (e : TD)
  | st (fs : List TD)

mutual
def TD.n : TD → Nat
  | .bool => 1
  | .int _ => 1
  | .str => 1
  | .slc _ _ _ => 1
  | .st fs => TD.ns fs
def TD.ns : List TD → Nat
  | [] => 0
  | t :: ts => t.n + TD.ns ts
end

def tdFs (P : Program) (g : TypeId → Option TD) : Nat → List Field → Option (List TD × Nat)
  | o, [] => some ([], o)
  | o, f :: fs =>
    match g f.type with
    | some td =>
      if f.offset = o ∧ td.n = P.cellsOf f.type then
        match tdFs P g (o + td.n) fs with
        | some (l, e) => some (td :: l, e)
        | none => none
      else none
    | none => none

/-- A type, as a tree. -/
def tdT (P : Program) : Nat → TypeId → Option TD
  | 0, _ => none
  | d + 1, t =>
    match P.underlying t with
    | some .bool => some .bool
    | some (.int k) => some (.int k)
    | some .string => some .str
    | some (.slice e) =>
      match tdT P d e with
      | some td => if td.n = P.cellsOf e then some (.slc (P.cellsOf e) (P.bytesOf e) td) else none
      | none => none
    | some (.struct fs) =>
      match tdFs P (tdT P d) 0 fs.toList with
      | some (l, e) => if e = P.cellsOf t then some (.st l) else none
      | none => none
    | _ => none

mutual
/-- A row that is a value of such a type. -/
inductive FitT : TD → List C → Prop
  | bool (b : Bool) : FitT .bool [.lit (.bool b)]
  | int (k : IntKind) (n : Int) : (Lit.int k n).wf = true → FitT (.int k) [.lit (.int k n)]
  | str (s : ByteArray) : s.size ≤ reachBytes → FitT .str [.lit (.string s)]
  | slc (s bytes : Nat) (e : TD) (rows : List (List C)) : (∀ r ∈ rows, FitT e r) → rows.length * bytes ≤ reachBytes → FitT (.slc s bytes e) [.sl s rows]
  | st (fs : List TD) (cs : List C) : FitTs fs cs → FitT (.st fs) cs
inductive FitTs : List TD → List C → Prop
  | nil : FitTs [] []
  | cons (t : TD) (ts : List TD) (a b : List C) : FitT t a → FitTs ts b → FitTs (t :: ts) (a ++ b)
end

mutual
theorem FitT.len : ∀ {t : TD} {cs : List C}, FitT t cs → cs.length = t.n
  | _, _, .bool b => rfl
  | _, _, .int k n _ => rfl
  | _, _, .str s _ => rfl
  | _, _, .slc s b e rows _ _ => rfl
  | _, _, .st fs cs h => by rw [TD.n]; exact h.len
theorem FitTs.len : ∀ {t : List TD} {cs : List C}, FitTs t cs → cs.length = TD.ns t
  | _, _, .nil => by simp [TD.ns]
  | _, _, .cons t ts a b h1 h2 => by rw [TD.ns, List.length_append, h1.len, h2.len]
end

/-- The cells cs are such values. -/
def RepIs (w : World) (ccs : List C) (cs : List Value) : Prop :=
  ccs.length = cs.length ∧ ∀ (j : Nat) (c : C) (v : Value), ccs[j]? = some c → cs[j]? = some v → RepI (fun r => r < w.heap.size) w c v

theorem RepIs.one {w : World} {c : C} {v : Value} (h : RepI (fun r => r < w.heap.size) w c v) : RepIs w [c] [v] := by
  refine ⟨rfl, fun j x u hx hu => ?_⟩
  cases j with
  | zero => simp at hx hu; subst hx; subst hu; exact h
  | succ j => simp at hx

theorem RepIs.append {w : World} {a b : List C} {x y : List Value} (h1 : RepIs w a x) (h2 : RepIs w b y) : RepIs w (a ++ b) (x ++ y) := by
  refine ⟨by simp [h1.1, h2.1], fun j c v hc hv => ?_⟩
  by_cases hj : j < a.length
  · rw [List.getElem?_append_left hj] at hc
    rw [List.getElem?_append_left (by rw [← h1.1]; exact hj)] at hv
    exact h1.2 j c v hc hv
  · rw [List.getElem?_append_right (by omega)] at hc
    rw [List.getElem?_append_right (by rw [← h1.1]; omega), ← h1.1] at hv
    exact h2.2 _ c v hc hv

theorem pick_rows {α : Type} {Q : Nat → α → Prop} : ∀ (n : Nat), (∀ i, i < n → ∃ r, Q i r) → ∃ rows : List α, rows.length = n ∧ ∀ i r, rows[i]? = some r → Q i r
  | 0, _ => ⟨[], rfl, fun i r h => by simp at h⟩
  | n + 1, h => by
    obtain ⟨rows, h1, h2⟩ := pick_rows n (fun i hi => h i (by omega))
    obtain ⟨r, hr⟩ := h n (by omega)
    refine ⟨rows ++ [r], by simp [h1], fun i x hx => ?_⟩
    by_cases hi : i < rows.length
    · rw [List.getElem?_append_left hi] at hx; exact h2 i x hx
    · rw [List.getElem?_append_right (by omega)] at hx
      have : i = n := by
        have := (List.getElem?_eq_some_iff.1 hx).1
        simp at this; omega
      subst this
      rw [h1] at hx; simp at hx; subst hx; exact hr

section
variable {H : Type} {enc : TypeId × Value → H} {P : Program} {w : World} {spare : Nat → Bool} {held : Bool}

theorem weightsAll_mem {e : TypeId} : ∀ {ds : List (DataW H)} {d : DataW H}, d ∈ ds → ∀ n ∈ d.weights P e, n ∈ DataW.weightsAll P e ds
  | d0 :: ds, d, hd, n, hn => by
    simp only [DataW.weightsAll, List.mem_append]
    rcases List.mem_cons.1 hd with rfl | hd
    · exact .inl hn
    · exact .inr (weightsAll_mem hd n hn)

theorem trod_fit : ∀ (d : Nat) (t : TypeId) (td : TD) (fuel : Nat) (cs : List Value) (x : DataW H × List MemPlace), tdT P d t = some td →
    DataW.trod enc P w 0 spare held fuel t cs = some x → (∀ n ∈ x.1.weights P t, n ≤ reachBytes) → ∃ ccs, FitT td ccs ∧ RepIs w ccs cs := by
  intro d
  induction d with
  | zero => intro t td fuel cs x h; simp [tdT] at h
  | succ d ih =>
    intro t td fuel cs x htd hx hw
    unfold tdT at htd
    split at htd
    · rename_i hu
      cases htd
      cases fuel with
      | zero => simp [DataW.trod] at hx
      | succ n =>
        unfold DataW.trod at hx
        rw [hu] at hx
        split at hx <;> simp_all
        exact ⟨_, .bool _, RepIs.one (.lit rfl)⟩
    · rename_i k hu
      cases htd
      cases fuel with
      | zero => simp [DataW.trod] at hx
      | succ n =>
        unfold DataW.trod at hx
        rw [hu] at hx
        split at hx <;> simp_all
        exact ⟨_, .int _ _ (by simp_all), RepIs.one (.lit rfl)⟩
    · rename_i hu
      cases htd
      cases fuel with
      | zero => simp [DataW.trod] at hx
      | succ n =>
        unfold DataW.trod at hx
        rw [hu] at hx
        split at hx <;> simp_all
        obtain ⟨_, rfl⟩ := hx
        exact ⟨_, .str _ (by simpa [DataW.weights] using hw), RepIs.one (.lit rfl)⟩
    · rename_i e hu
      split at htd
      case h_2 => cases htd
      rename_i te hte
      split at htd
      case isFalse => cases htd
      rename_i hn
      cases htd
      rcases DataW.trod_slice hu hx with ⟨rfl, _⟩ | ⟨a, len, cap, elems, rest, n, rfl, rfl, rfl, hb, hl, hm, hlen, hel, _, _⟩
      · exact ⟨_, .slc _ _ _ [] (fun r hr => by simp at hr) (by simp), RepIs.one (RepI.sl (rows := []) (fun _ _ => undef) (Nat.le_refl _) (fun i row hi => by simp at hi) (fun i row j c hi => by simp at hi) (fun i row j c hi => by simp at hi))⟩
      · simp only [DataW.weights, hu] at hw
        have hel' : ∀ i, i < len → ∃ r : List C, FitT te r ∧ r.length = P.cellsOf e ∧ ∀ j c, r[j]? = some c → ∃ v, w.cell? (a.add (i * P.cellsOf e + j)) = some v ∧ RepI (fun r => r < w.heap.size) w c v := by
          intro i hi
          have h1 := hel i hi
          have h2 : elems[i]? = some (elems[i]'(by omega)) := List.getElem?_eq_getElem (by omega)
          rw [h2, Option.bind_eq_some_iff] at h1
          obtain ⟨cs1, h3, h4⟩ := h1
          obtain ⟨_, h5, h6⟩ := World.cells?_some h3
          obtain ⟨ccs, f1, f2⟩ := ih e te n cs1 _ hte h4 (fun k hk => hw k (by
            refine List.mem_cons_of_mem _ (List.mem_append.2 (.inl (weightsAll_mem (List.mem_map.2 ⟨_, List.getElem_mem (by omega), rfl⟩) k hk)))))
          refine ⟨ccs, f1, by rw [f2.1, h5], fun j c hj => ?_⟩
          have hj' : j < P.cellsOf e := by have := (List.getElem?_eq_some_iff.1 hj).1; rw [f2.1, h5] at this; exact this
          have h7 := h6 j hj'
          rw [Addr.add_add] at h7
          have h8 : cs1[j]? = some (cs1[j]'(by omega)) := List.getElem?_eq_getElem (by omega)
          exact ⟨_, h7.trans h8, f2.2 j c _ hj h8⟩
        obtain ⟨rows, r1, r2⟩ := pick_rows len hel'
        refine ⟨_, .slc _ _ _ rows (fun r hr => ?_) ?_, RepIs.one ?_⟩
        · obtain ⟨i, hi⟩ := List.mem_iff_getElem?.1 hr
          exact (r2 i r hi).1
        · have := hw _ (List.mem_cons_self ..)
          simp only [List.length_map] at this
          refine Nat.le_trans (Nat.mul_le_mul_right _ ?_) this
          omega
        · rw [← r1]
          refine RepI.sl (fun i j => (w.cell? (a.add (i * P.cellsOf e + j))).getD undef) (by omega) (fun i row hi => (r2 i row hi).2.1) (fun i row j c hi hj => ?_) (fun i row j c hi hj => ?_)
          · obtain ⟨v, g1, _⟩ := (r2 i row hi).2.2 j c hj
            refine ⟨a, rfl, ?_, by rw [g1]; rfl⟩
            have hh : (w.cells? 0 (a.add (i * P.cellsOf e + j)) 1) = some [v] := by simp [World.cells?, List.range_succ, g1, Addr.add_add]
            have := World.cells?_block hh (by omega)
            have hb' : (a.add (i * P.cellsOf e + j)).block = a.block := by unfold Addr.add; split <;> rfl
            rw [hb'] at this
            exact this
          · obtain ⟨v, g1, g2⟩ := (r2 i row hi).2.2 j c hj
            rw [g1]; exact g2
    · rename_i fs hu
      split at htd
      case h_2 => cases htd
      rename_i l e hfs
      split at htd
      case isFalse => cases htd
      rename_i he
      cases htd
      obtain ⟨xs, n, rfl, rfl, hl, hxl, hf⟩ := DataW.trod_struct hu hx
      simp only [DataW.weights, hu] at hw
      have key : ∀ (fl : List Field) (xl : List (DataW H × List MemPlace)) (o : Nat) (l : List TD) (e : Nat), tdFs P (tdT P d) o fl = some (l, e) → e ≤ cs.length → xl.length = fl.length →
          (∀ (i : Nat) (f : Field), fl[i]? = some f → DataW.trod enc P w 0 spare held n f.type ((cs.drop f.offset).take (P.cellsOf f.type)) = xl[i]?) →
          (∀ k ∈ DataW.weightsEach P (fl.map (·.type)) (xl.map (·.1)), k ≤ reachBytes) → o ≤ e ∧ ∃ ccs, FitTs l ccs ∧ RepIs w ccs ((cs.drop o).take (e - o)) := by
        intro fl
        induction fl with
        | nil =>
          intro xl o l e h1 h2 h3 h4 h5
          simp only [tdFs, Option.some.injEq, Prod.mk.injEq] at h1
          obtain ⟨rfl, rfl⟩ := h1
          exact ⟨Nat.le_refl _, [], .nil, by simp, fun j c v hc => by simp at hc⟩
        | cons f fl ihf =>
          intro xl o l e h1 h2 h3 h4 h5
          cases xl with
          | nil => simp at h3
          | cons y xl =>
          simp only [tdFs] at h1
          split at h1
          case h_2 => cases h1
          rename_i td0 ht0
          split at h1
          case isFalse => cases h1
          rename_i hc
          obtain ⟨hoff, hn0⟩ := hc
          split at h1
          case h_2 => cases h1
          rename_i l1 e1 hr
          simp only [Option.some.injEq, Prod.mk.injEq] at h1
          obtain ⟨rfl, rfl⟩ := h1
          simp only [List.map_cons, DataW.weightsEach, List.mem_append] at h5
          obtain ⟨g1, ccs1, g2, g3⟩ := ihf xl (o + td0.n) l1 e1 hr h2 (by simpa using h3) (fun i f hi => by simpa using h4 (i + 1) f (by simpa using hi)) (fun k hk => h5 k (.inr hk))
          have h0 := h4 0 f rfl
          simp only [List.getElem?_cons_zero] at h0
          obtain ⟨ccs0, f1, f2⟩ := ih f.type td0 n _ y ht0 h0 (fun k hk => h5 k (.inl hk))
          refine ⟨by omega, ccs0 ++ ccs1, .cons _ _ _ _ f1 g2, ?_⟩
          have hsplit : (cs.drop o).take (e1 - o) = (cs.drop f.offset).take (P.cellsOf f.type) ++ (cs.drop (o + td0.n)).take (e1 - (o + td0.n)) := by
            rw [hoff, ← hn0]
            have : e1 - o = td0.n + (e1 - (o + td0.n)) := by omega
            rw [this, List.take_add, List.drop_drop]
          rw [hsplit]
          exact f2.append g3
      obtain ⟨_, ccs, g1, g2⟩ := key fs.toList xs 0 l e hfs (by rw [he, hl]; exact Nat.le_refl _) (by simpa using hxl) (fun i f hi => hf i f (by simpa using hi)) (by simpa using hw)
      refine ⟨ccs, .st _ _ g1, ?_⟩
      have ht : List.take (P.cellsOf t) cs = cs := by rw [← hl]; exact List.take_length
      simpa [he, ht] using g2
    · cases htd

end
end Go.Ev
