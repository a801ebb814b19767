/- Rules for each operation. -/
import Derived.Test.YtmfoddeecplibaaDoorEI
import Derived.Laws.Strings
set_option linter.unusedVariables false
set_option linter.unusedSimpArgs false
namespace Go.Ev

def mapV (hp : Hp) : Option V → Option (V × Hp)
  | some v => some (v, hp)
  | none => none
def mapH : Option Hp → Option (V × Hp)
  | some h => some (.undef, h)
  | none => none
theorem mapV_some {hp : Hp} {v : V} : mapV hp (some v) = some (v, hp) := rfl
theorem mapH_some {hp : Hp} : mapH (some hp) = some (.undef, hp) := rfl

def pickK (hp : Hp) (x y : V) : V → Option (V × Hp)
  | .one (.lit (.bool t)) => some (if t then x else y, hp)
  | _ => none
theorem pickK_bool {hp : Hp} {x y : V} {t : Bool} : pickK hp x y (.one (.lit (.bool t))) = some (if t then x else y, hp) := rfl
theorem pick_bools {t a b : Bool} : (if t = true then V.one (.lit (.bool a)) else V.one (.lit (.bool b))) = V.one (.lit (.bool (if t = true then a else b))) := by cases t <;> rfl

def allocE (P : Program) (t : TypeId) (hp : Hp) : Option (V × Hp) :=
  match sizeT P t, zeroT P t with
  | some s, some z => if z.length = s then some (.one (.ptr s hp.next 0 0), hp.new ⟨s, [z]⟩) else none
  | _, _ => none
def boxE (P : Program) (t : TypeId) (v : V) (hp : Hp) : Option (V × Hp) :=
  match sizeT P t with
  | some s => boxK s hp v.cells
  | none => none
where boxK (s : Nat) (hp : Hp) (cs : List C) : Option (V × Hp) := if cs.length = s then some (.one (.ptr s hp.next 0 0), hp.new ⟨s, [cs]⟩) else none

def nilK (hp : Hp) : V → Option (V × Hp)
  | .one (.ptr s b r f) => some (.one (.ptr s b r f), hp)
  | .one (.ip cs) => some (.one (.ip cs), hp)
  | _ => none

def exK (hp : Hp) (i : Nat) : V → Option (V × Hp)
  | .tup vs => mapV hp vs[i]?
  | _ => none

def callK (c : Cfg) (args : List V) (hp : Hp) : V → Option (V × Hp)
  | .one (.fn f caps) => callE c f (args ++ caps.map .one) hp
  | _ => none

def evs (env : Nat → V) (xs : List Operand) : List V := xs.map (ev env)
def evps (env : Nat → V) (xs : List (Nat × Operand)) : List (Nat × V) := xs.map fun p => (p.1, ev env p.2)
def evo (env : Nat → V) (x : Option Operand) : Option V := x.map (ev env)

section rules
variable {c : Cfg} {env : Nat → V} {hp : Hp} {t u : TypeId} {x y z : Operand}
theorem eval_ev : St.eval ⟨env, hp⟩ x = ev env x := by cases x <;> rfl
theorem eval_fun : St.eval ⟨env, hp⟩ = ev env := by funext x; exact eval_ev
theorem ev_tmp {t : Tmp} : ev env (.tmp t) = env t := rfl
theorem ev_int {k : IntKind} {n : Int} : ev env (.const (.int k n)) = .one (.lit (.int k n)) := rfl
theorem ev_bool {b : Bool} : ev env (.const (.bool b)) = .one (.lit (.bool b)) := rfl
theorem ev_str {s : ByteArray} : ev env (.const (.string s)) = .one (.lit (.string s)) := rfl
theorem ev_slice {a : Option Addr} {n k : Nat} : ev env (.const (.slice a n k)) = .one (.lit (.slice a n k)) := rfl
theorem ev_const {v : Value} : ev env (.const v) = ofValue v := rfl
theorem ev_func {f : FuncId} : ev env (.func f) = .one (.fn f []) := rfl
theorem ev_global {g : Nat} : ev env (.global g) = .one (.lit (.pointer (some ⟨g, 0, none⟩))) := rfl
theorem evs_nil : evs env [] = [] := rfl
theorem evs_cons {xs : List Operand} : evs env (x :: xs) = ev env x :: evs env xs := rfl
theorem evps_nil : evps env [] = [] := rfl
theorem evps_cons {i : Nat} {xs : List (Nat × Operand)} : evps env ((i, x) :: xs) = (i, ev env x) :: evps env xs := rfl
theorem evo_none : evo env none = none := rfl
theorem evo_some : evo env (some x) = some (ev env x) := rfl

theorem opX_move : opX c (.move x) env hp = some (ev env x, hp) := by simp only [opX, opE, eval_ev]
theorem opX_assign : opX c (.assign x) env hp = some (ev env x, hp) := by simp only [opX, opE, eval_ev]
theorem opX_pick : opX c (.pick x y z) env hp = pickK hp (ev env y) (ev env z) (ev env x) := by
  simp only [opX, opE, eval_ev]; unfold pickK; rfl
theorem opX_alloc : opX c (.alloc t) env hp = allocE c.P t hp := rfl
theorem opX_box : opX c (.box t x) env hp = boxE c.P t (ev env x) hp := by simp only [opX, opE, eval_ev, boxE, boxE.boxK]; rfl
theorem opX_build {ps : Array (Nat × Operand)} : opX c (.build t ps) env hp = mapV hp (buildE c.P t (evps env ps.toList)) := by
  simp only [opX, opE, eval_fun, evps]; cases buildE c.P t _ <;> rfl
theorem opX_buildSlice {n : Nat} {ps : Array (Nat × Operand)} : opX c (.buildSlice t n ps) env hp = buildSliceE c.P hp t n (evps env ps.toList) := by
  simp only [opX, opE, eval_fun, evps]
theorem opX_load : opX c (.load t x) env hp = mapV hp (loadE c.P hp t (ev env x)) := by
  simp only [opX, opE, eval_ev]; cases loadE c.P hp t _ <;> rfl
theorem opX_store : opX c (.store t x y) env hp = mapH (storeE c.P hp t (ev env x) (ev env y)) := by
  simp only [opX, opE, eval_ev]; cases storeE c.P hp t _ _ <;> rfl
theorem opX_nilCheck : opX c (.nilCheck x) env hp = nilK hp (ev env x) := by simp only [opX, opE, eval_ev]; unfold nilK; rfl
theorem opX_binOp {o : BinOp} : opX c (.binOp o t x y u) env hp = mapV hp (binOpE c.P o t (ev env x) (ev env y)) := by
  simp only [opX, opE, eval_ev]; cases binOpE c.P o t _ _ <;> rfl
theorem opX_unOp {o : UnOp} : opX c (.unOp o t x) env hp = mapV hp (unOpE o (ev env x)) := by
  simp only [opX, opE, eval_ev]; cases unOpE o _ <;> rfl
theorem opX_convert : opX c (.convert t u x) env hp = convertE c.P hp t u (ev env x) := by simp only [opX, opE, eval_ev]
theorem opX_makeSlice : opX c (.makeSlice t x y) env hp = makeSliceE c.P hp t (ev env x) (ev env y) := by simp only [opX, opE, eval_ev]
theorem opX_slice {lo hi : Option Operand} : opX c (.slice t x lo hi none) env hp = mapV hp (sliceE c.P t (ev env x) (evo env lo) (evo env hi)) := by
  simp only [opX, opE, eval_fun, evo]; cases sliceE c.P t _ _ _ <;> rfl
theorem opX_fieldAddr {f : Nat} : opX c (.fieldAddr t x f) env hp = mapV hp (fieldAddrE c.P t (ev env x) f) := by
  simp only [opX, opE, eval_ev]; cases fieldAddrE c.P t _ f <;> rfl
theorem opX_field {f : Nat} : opX c (.field t x f) env hp = mapV hp (fieldE c.P t (ev env x) f) := by
  simp only [opX, opE, eval_ev]; cases fieldE c.P t _ f <;> rfl
theorem opX_indexAddr : opX c (.indexAddr t x y) env hp = mapV hp (indexAddrE c.P t (ev env x) (ev env y)) := by
  simp only [opX, opE, eval_ev]; cases indexAddrE c.P t _ _ <;> rfl
theorem opX_index : opX c (.index t x y) env hp = mapV hp (indexE c.P t (ev env x) (ev env y)) := by
  simp only [opX, opE, eval_ev]; cases indexE c.P t _ _ <;> rfl
theorem opX_extract {i : Nat} : opX c (.extract x i) env hp = exK hp i (ev env x) := by
  simp only [opX, opE, eval_ev]
  unfold exK
  cases ev env x with
  | tup vs => simp only; cases vs[i]? <;> rfl
  | _ => rfl
theorem opX_makeFunc {f : FuncId} {cap : Array Operand} : opX c (.makeFunc (.func f) #[] cap) env hp = (capsE (evs env cap.toList)).map fun cs => (.one (.fn f cs), hp) := by
  simp only [opX, opE, eval_fun, evs]; rfl
theorem opX_len {a : Operand} {ty : TypeId} : opX c (.call { callee := .builtin .len, args := #[a], argTypes := #[ty] }) env hp = mapV hp (lenE c.P ty (ev env a)) := by
  simp only [opX, opE, eval_ev]; cases lenE c.P ty _ <;> rfl
theorem opX_append {a b : Operand} {ta tb : TypeId} : opX c (.call { callee := .builtin .append, args := #[a, b], argTypes := #[ta, tb] }) env hp = appendE c.P hp ta tb (ev env a) (ev env b) := by
  simp only [opX, opE, eval_ev]
theorem opX_min {args : Array Operand} {ts : Array TypeId} {a : Operand} {rest : List Operand} (h : args.toList = a :: rest) : opX c (.call { callee := .builtin .min, args := args, argTypes := ts }) env hp = mapV hp (foldMin (fun x y => if y < x then y else x) (ev env a) (evs env rest)) := by
  simp only [opX, opE, eval_fun, h, List.map_cons, evs]; cases foldMin _ _ _ <;> rfl
theorem opX_max {args : Array Operand} {ts : Array TypeId} {a : Operand} {rest : List Operand} (h : args.toList = a :: rest) : opX c (.call { callee := .builtin .max, args := args, argTypes := ts }) env hp = mapV hp (foldMin (fun x y => if y > x then y else x) (ev env a) (evs env rest)) := by
  simp only [opX, opE, eval_fun, h, List.map_cons, evs]; cases foldMin _ _ _ <;> rfl
theorem opX_call {f : Operand} {args : Array Operand} {ts : Array TypeId} : opX c (.call { callee := .value f, args := args, argTypes := ts }) env hp = callK c (evs env args.toList) hp (ev env f) := by
  simp only [opX, opE, eval_fun, evs]
  unfold callK; rfl

theorem callK_fn {args : List V} {f : FuncId} : callK c args hp (.one (.fn f [])) = callE c f args hp := by simp [callK]
theorem callK_caps {args : List V} {f : FuncId} {caps : List C} : callK c args hp (.one (.fn f caps)) = callE c f (args ++ caps.map .one) hp := rfl
theorem nilK_ptr {s b r o : Nat} : nilK hp (.one (.ptr s b r o)) = some (.one (.ptr s b r o), hp) := rfl
theorem nilK_ip {cs : List C} : nilK hp (.one (.ip cs)) = some (.one (.ip cs), hp) := rfl
theorem exK_tup {i : Nat} {vs : List V} : exK hp i (.tup vs) = mapV hp vs[i]? := rfl
end rules

/-! ### the heap -/
theorem new_mk {a : Nat → Option Blk} {n : Nat} {k : Blk} : Hp.new ⟨a, n⟩ k = ⟨upd a n (some k), n + 1⟩ := rfl
theorem empty_mk : Hp.empty = ⟨fun _ => none, 0⟩ := rfl
theorem kill_mk {a : Nat → Option Blk} {n b : Nat} : Hp.kill ⟨a, n⟩ b = ⟨upd a b none, n⟩ := rfl
theorem upd_eq {α : Type} {f : Nat → α} {k j : Nat} {x : α} : upd f k x j = if j = k then x else f j := rfl
theorem upd_upd {α : Type} {f : Nat → α} {k : Nat} {x y : α} : upd (upd f k x) k y = upd f k y := by funext j; unfold upd; split <;> rfl
theorem envOf_nil {t : Nat} : envOf [] t = .undef := rfl
theorem envOf_zero {v : V} {vs : List V} : envOf (v :: vs) 0 = v := rfl
theorem envOf_succ {v : V} {vs : List V} {t : Nat} : envOf (v :: vs) (t + 1) = envOf vs t := rfl
theorem ne_nat {j k : Nat} (h : j ≠ k) : (j = k) = False := by simp [h]

/-! ### loads and stores, by the type's size -/
def loadA (k s row off : Nat) : Option Blk → Option V
  | some ⟨s', rows⟩ => if s' = s ∧ row < rows.length ∧ off + k ≤ s then some (.agg (((rows.getD row []).drop off).take k)) else none
  | none => none
def oneK : List C → Option V
  | c :: _ => some (.one c)
  | [] => none
def loadO (s row off : Nat) : Option Blk → Option V
  | some ⟨s', rows⟩ => if s' = s ∧ row < rows.length ∧ off + 1 ≤ s then oneK ((rows.getD row []).drop off) else none
  | none => none
theorem oneK_cons {c : C} {cs : List C} : oneK (c :: cs) = some (.one c) := rfl
theorem loadA_some {k s s' row off : Nat} {rows : List (List C)} : loadA k s row off (some ⟨s', rows⟩) = if s' = s ∧ row < rows.length ∧ off + k ≤ s then some (.agg (((rows.getD row []).drop off).take k)) else none := rfl
theorem loadO_some {s s' row off : Nat} {rows : List (List C)} : loadO s row off (some ⟨s', rows⟩) = if s' = s ∧ row < rows.length ∧ off + 1 ≤ s then oneK ((rows.getD row []).drop off) else none := rfl

/-- What the walk has to know of a type whose values have several cells. -/
structure AggT (P : Program) (t : TypeId) (k : Nat) (z : List C) : Prop where
  size : sizeT P t = some k
  agg : isAggD (P.underlying t) = true
  zero : zeroT P t = some z
  zlen : z.length = k
  pos : 0 < k
/-- .. of a type whose values have one cell. -/
structure OneT (P : Program) (t : TypeId) (z : C) : Prop where
  size : sizeT P t = some 1
  agg : isAggD (P.underlying t) = false
  und : (P.underlying t).isSome = true
  zero : zeroT P t = some [z]

theorem aggT_und {P : Program} {t : TypeId} (h : isAggD (P.underlying t) = true) : (P.underlying t).isSome = true := by
  cases hu : P.underlying t with
  | none => rw [hu] at h; cases h
  | some d => rfl

section types
variable {P : Program} {t : TypeId} {k : Nat} {z : List C} {z1 : C} {hp : Hp} {s b row off : Nat}
theorem AggT.load (h : AggT P t k z) : loadE P hp t (.one (.ptr s b row off)) = loadA k s row off (hp.at_ b) := by
  have hu := aggT_und h.agg
  simp only [loadE, h.size, hu, packT, h.agg, true_and, if_true]
  unfold loadA
  cases hp.at_ b with
  | none => rfl
  | some k => rfl
theorem AggT.loadI (h : AggT P t k z) {cs : List C} : loadE P hp t (.one (.ip cs)) = if k ≤ cs.length then some (.agg (cs.take k)) else none := by
  simp only [loadE, h.size, aggT_und h.agg, packT, h.agg, true_and, if_true]
theorem OneT.load (h : OneT P t z1) : loadE P hp t (.one (.ptr s b row off)) = loadO s row off (hp.at_ b) := by
  simp only [loadE, h.size, h.und, packT, h.agg, true_and, Bool.false_eq_true, if_false]
  unfold loadO
  cases hp.at_ b with
  | none => rfl
  | some k =>
    simp only
    split
    · unfold oneK
      cases ((k.rows.getD row []).drop off) <;> rfl
    · rfl
theorem OneT.loadI (h : OneT P t z1) {c : C} {cs : List C} : loadE P hp t (.one (.ip (c :: cs))) = some (.one c) := by
  simp [loadE, h.size, h.und, packT, h.agg]
theorem AggT.alloc (h : AggT P t k z) : allocE P t hp = some (.one (.ptr k hp.next 0 0), hp.new ⟨k, [z]⟩) := by
  simp only [allocE, h.size, h.zero, h.zlen, if_true]
theorem OneT.alloc (h : OneT P t z1) : allocE P t hp = some (.one (.ptr 1 hp.next 0 0), hp.new ⟨1, [[z1]]⟩) := by
  simp only [allocE, h.size, h.zero, List.length_singleton, if_true]
theorem AggT.box (h : AggT P t k z) {cs : List C} (hc : cs.length = k) : boxE P t (.agg cs) hp = some (.one (.ptr k hp.next 0 0), hp.new ⟨k, [cs]⟩) := by
  simp only [boxE, boxE.boxK, h.size, V.cells, hc, if_true]
theorem OneT.box (h : OneT P t z1) {c : C} : boxE P t (.one c) hp = some (.one (.ptr 1 hp.next 0 0), hp.new ⟨1, [[c]]⟩) := by
  simp [boxE, boxE.boxK, h.size, V.cells]

def storeB (k s row off : Nat) (hp : Hp) (b : Nat) (cs : List C) : Option Blk → Option Hp
  | some ⟨s', rows⟩ => if s' = s ∧ row < rows.length ∧ off + k ≤ s ∧ cs.length = k then some (hp.set b ⟨s, rows.set row (setCells (rows.getD row []) off cs)⟩) else none
  | none => none
theorem storeB_some {s' : Nat} {rows : List (List C)} {cs : List C} : storeB k s row off hp b cs (some ⟨s', rows⟩) = if s' = s ∧ row < rows.length ∧ off + k ≤ s ∧ cs.length = k then some (hp.set b ⟨s, rows.set row (setCells (rows.getD row []) off cs)⟩) else none := rfl
theorem set_mk {a : Nat → Option Blk} {n : Nat} {k : Blk} : Hp.set ⟨a, n⟩ b k = ⟨upd a b (some k), n⟩ := rfl
theorem AggT.store (h : AggT P t k z) {cs : List C} : storeE P hp t (.one (.ptr s b row off)) (.agg cs) = storeB k s row off hp b cs (hp.at_ b) := by
  simp only [storeE, h.size, h.pos, true_and, V.cells]
  unfold storeB
  cases hp.at_ b with
  | none => rfl
  | some k => rfl
theorem OneT.store (h : OneT P t z1) {c : C} : storeE P hp t (.one (.ptr s b row off)) (.one c) = storeB 1 s row off hp b [c] (hp.at_ b) := by
  simp only [storeE, h.size, V.cells]
  unfold storeB
  cases hp.at_ b with
  | none => rfl
  | some k => simp
theorem setCells_eq {row : List C} {off : Nat} {cs : List C} : setCells row off cs = row.take off ++ cs ++ row.drop (off + cs.length) := rfl

/-- A field of a struct: where it begins. -/
def FieldAt (P : Program) (t : TypeId) (i o : Nat) : Prop := (match fieldT P t i with | some f => some (f.offset, decide ((sizeT P f.type).getD 0 = 0)) | none => none) = some (o, false)
theorem FieldAt.ptr {i o : Nat} (h : FieldAt P t i o) : fieldAddrE P t (.one (.ptr s b row off)) i = some (.one (.ptr s b row (off + o))) := by
  unfold FieldAt at h
  unfold fieldAddrE
  split at h
  · rename_i f hf
    simp only [Option.some.injEq, Prod.mk.injEq, decide_eq_false_iff_not] at h
    simp [hf, h]
  · cases h
theorem FieldAt.ip {i o : Nat} (h : FieldAt P t i o) {cs : List C} : fieldAddrE P t (.one (.ip cs)) i = some (.one (.ip (cs.drop o))) := by
  unfold FieldAt at h
  unfold fieldAddrE
  split at h
  · rename_i f hf
    simp only [Option.some.injEq, Prod.mk.injEq, decide_eq_false_iff_not] at h
    simp [hf, h]
  · cases h
/-- A field's value: its place and its type's. -/
def FieldV (P : Program) (t : TypeId) (i o k : Nat) (agg : Bool) : Prop := (match fieldT P t i with | some f => some (f.offset, sizeT P f.type, (P.underlying f.type).isSome, isAggD (P.underlying f.type)) | none => none) = some (o, some k, true, agg)
theorem FieldV.agg {i o k : Nat} (h : FieldV P t i o k true) {cs : List C} : fieldE P t (.agg cs) i = if o + k ≤ cs.length then some (.agg ((cs.drop o).take k)) else none := by
  unfold FieldV at h
  unfold fieldE
  split at h
  · rename_i f hf
    simp only [Option.some.injEq, Prod.mk.injEq] at h
    obtain ⟨rfl, h2, h3, h4⟩ := h
    simp [hf, h2, h3, packT, h4]
  · cases h
theorem FieldV.one {i o : Nat} (h : FieldV P t i o 1 false) {cs : List C} : fieldE P t (.agg cs) i = oneK (cs.drop o) := by
  unfold FieldV at h
  unfold fieldE
  split at h
  · rename_i f hf
    simp only [Option.some.injEq, Prod.mk.injEq] at h
    obtain ⟨rfl, h2, h3, h4⟩ := h
    simp only [hf, h2, h3, packT, h4, true_and, Bool.false_eq_true, if_false]
    split
    · rename_i hlt
      rw [← List.getElem_cons_drop (by omega : f.offset < cs.length)]; rfl
    · rename_i hlt
      have : cs.drop f.offset = [] := List.drop_eq_nil_of_le (by omega)
      rw [this]; rfl
  · cases h

/-- A slice type: how wide its rows are. -/
structure SlcT (P : Program) (t e : TypeId) (s : Nat) : Prop where
  und : P.underlying t = some (.slice e)
  size : sizeT P e = some s
  pos : 0 < s
theorem SlcT.elem {e : TypeId} (h : SlcT P t e s) : elemT P t = some e := by simp only [elemT, h.und]
theorem SlcT.len {e : TypeId} (h : SlcT P t e s) {s' : Nat} {rows : List (List C)} : lenE P t (.one (.sl s' rows)) = some (.i64 rows.length) := by simp only [lenE, h.und]
theorem SlcT.lenR {e : TypeId} (h : SlcT P t e s) {s' b off len : Nat} : lenE P t (.one (.ref s' b off len)) = some (.i64 len) := by simp only [lenE, h.und]
theorem SlcT.lenN {e : TypeId} (h : SlcT P t e s) {n k : Nat} : lenE P t (.one (.lit (.slice none n k))) = some (.i64 n) := by simp only [lenE, h.und]
/-- The row at a place. -/
def ixI (rows : List (List C)) (j : Int) : Option V := if 0 ≤ j ∧ j < rows.length then some (.one (.ip (rows.getD j.toNat []))) else none
def ixR (s b off len : Nat) (j : Int) : Option V := if 0 ≤ j ∧ j < len then some (.one (.ptr s b (off + j.toNat) 0)) else none
theorem SlcT.ix {e : TypeId} (h : SlcT P t e s) {rows : List (List C)} {kd : IntKind} {j : Int} : indexAddrE P t (.one (.sl s rows)) (.one (.lit (.int kd j))) = ixI rows j := by
  simp only [indexAddrE, h.elem, h.size, h.pos, true_and, and_self]; rfl
theorem SlcT.ixR {e : TypeId} (h : SlcT P t e s) {b off len : Nat} {kd : IntKind} {j : Int} : indexAddrE P t (.one (.ref s b off len)) (.one (.lit (.int kd j))) = Ev.ixR s b off len j := by
  simp only [indexAddrE, h.elem, h.size, h.pos, true_and, and_self]; rfl
theorem ixI_nat {rows : List (List C)} {i : Nat} (h : i < rows.length) : ixI rows (i : Int) = some (.one (.ip (rows.getD i []))) := by
  unfold ixI; rw [if_pos ⟨by omega, by omega⟩]; rfl
theorem ixI_pos {rows : List (List C)} {j : Int} (h1 : 0 ≤ j) (h2 : j < rows.length) : ixI rows j = some (.one (.ip (rows.getD j.toNat []))) := by
  unfold ixI; rw [if_pos ⟨h1, h2⟩]
theorem getD_map {α : Type} {f : α → List C} {l : List α} {i : Nat} {d : List C} (h : i < l.length) : (l.map f).getD i d = f l[i] := by
  simp [List.getD, h]
theorem ixI_map {α : Type} {f : α → List C} {l : List α} {i : Nat} (h : i < l.length) : ixI (l.map f) (i : Int) = some (.one (.ip (f l[i]))) := by
  rw [ixI_nat (by simpa using h), getD_map h]
theorem ixI_mapI {α : Type} {f : α → List C} {l : List α} {j : Int} (h0 : 0 ≤ j) (h : j.toNat < l.length) : ixI (l.map f) j = some (.one (.ip (f l[j.toNat]))) := by
  rw [ixI_pos h0 (by simp; omega), getD_map h]
theorem ixR_nat {s b off len i : Nat} (h : i < len) : ixR s b off len (i : Int) = some (.one (.ptr s b (off + i) 0)) := by
  unfold ixR; rw [if_pos ⟨by omega, by omega⟩]; rfl
theorem ixR_pos {s b off len : Nat} {j : Int} (h1 : 0 ≤ j) (h2 : j < len) : ixR s b off len j = some (.one (.ptr s b (off + j.toNat) 0)) := by
  unfold ixR; rw [if_pos ⟨h1, h2⟩]
theorem StrT_len (h : P.underlying t = some .string) {x : ByteArray} : lenE P t (.one (.lit (.string x))) = some (.i64 x.size) := by simp only [lenE, h]
end types

/-! ### types, each by one fact -/
inductive TyK where
  | agg (k : Nat) (z : List C)
  | one (z : C)
  | other
def tyK (P : Program) (t : TypeId) : TyK :=
  match sizeT P t, zeroT P t, P.underlying t with
  | some k, some z, some d =>
    if isAggD (some d) then (if z.length = k ∧ 0 < k then .agg k z else .other)
    else match k, z with
      | 1, [z] => .one z
      | _, _ => .other
  | _, _, _ => .other
theorem tyK_agg {P : Program} {t : TypeId} {k : Nat} {z : List C} (h : tyK P t = .agg k z) : AggT P t k z := by
  unfold tyK at h
  split at h
  · rename_i k' z' d h1 h2 h3
    split at h
    · rename_i ha
      split at h
      · rename_i hz
        cases h
        exact ⟨h1, by rw [h3]; exact ha, h2, hz.1, hz.2⟩
      · cases h
    · split at h <;> cases h
  · cases h
theorem tyK_one {P : Program} {t : TypeId} {z : C} (h : tyK P t = .one z) : OneT P t z := by
  unfold tyK at h
  split at h
  · rename_i k' z' d h1 h2 h3
    split at h
    · split at h <;> cases h
    · rename_i ha
      split at h
      · cases h
        exact ⟨h1, by rw [h3]; simpa using ha, by rw [h3]; rfl, h2⟩
      · cases h
  · cases h

def loadK (P : Program) (hp : Hp) (t : TypeId) (s b row off : Nat) : TyK → Option V
  | .agg k _ => loadA k s row off (hp.at_ b)
  | .one _ => loadO s row off (hp.at_ b)
  | .other => loadE P hp t (.one (.ptr s b row off))
def loadIK (P : Program) (hp : Hp) (t : TypeId) (cs : List C) : TyK → Option V
  | .agg k _ => if k ≤ cs.length then some (.agg (cs.take k)) else none
  | .one _ => oneK cs
  | .other => loadE P hp t (.one (.ip cs))
def allocK (P : Program) (hp : Hp) (t : TypeId) : TyK → Option (V × Hp)
  | .agg k z => some (.one (.ptr k hp.next 0 0), hp.new ⟨k, [z]⟩)
  | .one z => some (.one (.ptr 1 hp.next 0 0), hp.new ⟨1, [[z]]⟩)
  | .other => allocE P t hp
def boxK (P : Program) (hp : Hp) (t : TypeId) (v : V) : TyK → Option (V × Hp)
  | .agg k _ => if v.cells.length = k then some (.one (.ptr k hp.next 0 0), hp.new ⟨k, [v.cells]⟩) else none
  | .one _ => if v.cells.length = 1 then some (.one (.ptr 1 hp.next 0 0), hp.new ⟨1, [v.cells]⟩) else none
  | .other => boxE P t v hp
def storeK (P : Program) (hp : Hp) (t : TypeId) (s b row off : Nat) (v : V) : TyK → Option Hp
  | .agg k _ => storeB k s row off hp b v.cells (hp.at_ b)
  | .one _ => storeB 1 s row off hp b v.cells (hp.at_ b)
  | .other => storeE P hp t (.one (.ptr s b row off)) v
section
variable {P : Program} {hp : Hp} {t : TypeId} {s b row off k : Nat} {v : V} {z : List C} {z1 : C} {cs : List C}
theorem load_ty : loadE P hp t (.one (.ptr s b row off)) = loadK P hp t s b row off (tyK P t) := by
  cases h : tyK P t with
  | agg k z => exact (tyK_agg h).load
  | one z => exact (tyK_one h).load
  | other => rfl
theorem loadI_ty : loadE P hp t (.one (.ip cs)) = loadIK P hp t cs (tyK P t) := by
  cases h : tyK P t with
  | agg k z => exact (tyK_agg h).loadI
  | one z =>
    cases cs with
    | nil => simp [loadE, (tyK_one h).size, loadIK, oneK]
    | cons c cs => exact (tyK_one h).loadI
  | other => rfl
theorem alloc_ty : allocE P t hp = allocK P hp t (tyK P t) := by
  cases h : tyK P t with
  | agg k z => exact (tyK_agg h).alloc
  | one z => exact (tyK_one h).alloc
  | other => rfl
theorem box_ty : boxE P t v hp = boxK P hp t v (tyK P t) := by
  cases h : tyK P t with
  | agg k z => simp only [boxE, boxE.boxK, (tyK_agg h).size, boxK]
  | one z => simp only [boxE, boxE.boxK, (tyK_one h).size, boxK]
  | other => rfl
theorem store_ty : storeE P hp t (.one (.ptr s b row off)) v = storeK P hp t s b row off v (tyK P t) := by
  have key : ∀ k, sizeT P t = some k → 0 < k → storeE P hp t (.one (.ptr s b row off)) v = storeB k s row off hp b v.cells (hp.at_ b) := by
    intro k h1 h2
    simp only [storeE, h1, h2, true_and]
    unfold storeB
    cases hp.at_ b with
    | none => rfl
    | some k => rfl
  cases h : tyK P t with
  | agg k z => exact key k (tyK_agg h).size (tyK_agg h).pos
  | one z => exact key 1 (tyK_one h).size (by omega)
  | other => rfl
theorem loadK_agg : loadK P hp t s b row off (.agg k z) = loadA k s row off (hp.at_ b) := rfl
theorem loadK_one : loadK P hp t s b row off (.one z1) = loadO s row off (hp.at_ b) := rfl
theorem loadIK_agg : loadIK P hp t cs (.agg k z) = if k ≤ cs.length then some (.agg (cs.take k)) else none := rfl
theorem loadIK_one : loadIK P hp t cs (.one z1) = oneK cs := rfl
theorem allocK_agg : allocK P hp t (.agg k z) = some (.one (.ptr k hp.next 0 0), hp.new ⟨k, [z]⟩) := rfl
theorem allocK_one : allocK P hp t (.one z1) = some (.one (.ptr 1 hp.next 0 0), hp.new ⟨1, [[z1]]⟩) := rfl
theorem boxK_agg : boxK P hp t v (.agg k z) = if v.cells.length = k then some (.one (.ptr k hp.next 0 0), hp.new ⟨k, [v.cells]⟩) else none := rfl
theorem boxK_one : boxK P hp t v (.one z1) = if v.cells.length = 1 then some (.one (.ptr 1 hp.next 0 0), hp.new ⟨1, [v.cells]⟩) else none := rfl
theorem storeK_agg : storeK P hp t s b row off v (.agg k z) = storeB k s row off hp b v.cells (hp.at_ b) := rfl
theorem storeK_one : storeK P hp t s b row off v (.one z1) = storeB 1 s row off hp b v.cells (hp.at_ b) := rfl
theorem cells_one {c : C} : V.cells (.one c) = [c] := rfl
theorem cells_agg : V.cells (.agg cs) = cs := rfl
end

/-- A field: its place, its size, whether it has several cells. -/
def fdK (P : Program) (t : TypeId) (i : Nat) : Option (Nat × Nat × Bool) :=
  match fieldT P t i with
  | some f =>
    match sizeT P f.type with
    | some k => if (P.underlying f.type).isSome = true ∧ 0 < k ∧ (isAggD (P.underlying f.type) = true ∨ k = 1) then some (f.offset, k, isAggD (P.underlying f.type)) else none
    | none => none
  | none => none
def faK (P : Program) (t : TypeId) (i : Nat) (v : V) : Option (Nat × Nat × Bool) → Option V
  | some (o, _, _) =>
    match v with
    | .one (.ip cells) => some (.one (.ip (cells.drop o)))
    | .one (.ptr s b row off) => some (.one (.ptr s b row (off + o)))
    | _ => none
  | none => fieldAddrE P t v i
def fvK (P : Program) (t : TypeId) (i : Nat) (cs : List C) : Option (Nat × Nat × Bool) → Option V
  | some (o, k, true) => if o + k ≤ cs.length then some (.agg ((cs.drop o).take k)) else none
  | some (o, _, false) => oneK (cs.drop o)
  | none => fieldE P t (.agg cs) i
theorem fa_ty {P : Program} {t : TypeId} {i : Nat} {v : V} : fieldAddrE P t v i = faK P t i v (fdK P t i) := by
  cases h : fdK P t i with
  | none => rfl
  | some p =>
    obtain ⟨o, k, g⟩ := p
    unfold fdK at h
    split at h
    · rename_i f hf
      split at h
      · rename_i k' hk
        split at h
        · rename_i hc
          cases h
          unfold fieldAddrE faK
          simp only [hf, hk, Option.getD_some]
          rw [if_neg (by omega)]
          rfl
        · cases h
      · cases h
    · cases h
theorem fv_ty {P : Program} {t : TypeId} {i : Nat} {cs : List C} : fieldE P t (.agg cs) i = fvK P t i cs (fdK P t i) := by
  cases h : fdK P t i with
  | none => rfl
  | some p =>
    obtain ⟨o, k, g⟩ := p
    unfold fdK at h
    split at h
    · rename_i f hf
      split at h
      · rename_i k' hk
        split at h
        · rename_i hc
          simp only [Option.some.injEq, Prod.mk.injEq] at h
          obtain ⟨rfl, rfl, hg⟩ := h
          cases g with
          | true => exact FieldV.agg (by unfold FieldV; rw [hf]; simp only [hk, hc.1, hg])
          | false =>
            have : k' = 1 := hc.2.2.resolve_left (by simp [hg])
            subst this
            exact FieldV.one (by unfold FieldV; rw [hf]; simp only [hk, hc.1, hg])
        · cases h
      · cases h
    · cases h
section
variable {P : Program} {t : TypeId} {i o k s b row off : Nat} {g : Bool} {cs : List C}
theorem faK_ip : faK P t i (.one (.ip cs)) (some (o, k, g)) = some (.one (.ip (cs.drop o))) := rfl
theorem faK_ptr : faK P t i (.one (.ptr s b row off)) (some (o, k, g)) = some (.one (.ptr s b row (off + o))) := rfl
theorem fvK_agg : fvK P t i cs (some (o, k, true)) = if o + k ≤ cs.length then some (.agg ((cs.drop o).take k)) else none := rfl
theorem fvK_one : fvK P t i cs (some (o, k, false)) = oneK (cs.drop o) := rfl
end

/-- A slice type: how wide its rows are. -/
def slK (P : Program) (t : TypeId) : Option Nat :=
  match P.underlying t with
  | some (.slice e) => match sizeT P e with | some s => if 0 < s then some s else none | none => none
  | _ => none
theorem slK_slc {P : Program} {t : TypeId} {s : Nat} (h : slK P t = some s) : ∃ e, SlcT P t e s := by
  unfold slK at h
  split at h
  · rename_i e he
    split at h
    · rename_i s' hs
      split at h
      · rename_i hp; cases h; exact ⟨e, he, hs, hp⟩
      · cases h
    · cases h
  · cases h
def lenK (P : Program) (t : TypeId) (c : C) : Option Nat → Option V
  | some _ =>
    match c with
    | .sl _ rows => some (.i64 rows.length)
    | .ref _ _ _ len => some (.i64 len)
    | .lit (.slice none n _) => some (.i64 n)
    | _ => none
  | none => lenE P t (.one c)
def ixK (P : Program) (t : TypeId) (c : C) (kd : IntKind) (j : Int) : Option Nat → Option V
  | some s =>
    match c with
    | .sl s' rows => if s' = s then ixI rows j else none
    | .ref s' b off len => if s' = s then ixR s b off len j else none
    | _ => none
  | none => indexAddrE P t (.one c) (.one (.lit (.int kd j)))
theorem len_ty {P : Program} {t : TypeId} {c : C} : lenE P t (.one c) = lenK P t c (slK P t) := by
  cases h : slK P t with
  | none => rfl
  | some s =>
    obtain ⟨e, he⟩ := slK_slc h
    unfold lenK lenE
    rw [he.und]
    cases c with
    | lit v =>
      cases v with
      | slice a n k => cases a <;> rfl
      | _ => rfl
    | _ => rfl
theorem ix_ty {P : Program} {t : TypeId} {c : C} {kd : IntKind} {j : Int} : indexAddrE P t (.one c) (.one (.lit (.int kd j))) = ixK P t c kd j (slK P t) := by
  cases h : slK P t with
  | none => rfl
  | some s =>
    obtain ⟨e, he⟩ := slK_slc h
    unfold ixK indexAddrE
    rw [he.elem]
    cases c with
    | sl s' rows =>
      simp only [he.size, Option.some.injEq]
      by_cases hs : s = s'
      · subst hs; simp [he.pos, ixI]
      · rw [if_neg (fun h => hs h.1.1), if_neg (fun h => hs h.symm)]
    | ref s' b off len =>
      simp only [he.size, Option.some.injEq]
      by_cases hs : s = s'
      · subst hs; simp [he.pos, ixR]
      · rw [if_neg (fun h => hs h.1.1), if_neg (fun h => hs h.symm)]
    | _ => rfl
section
variable {P : Program} {t : TypeId} {s s' b off len n k : Nat} {rows : List (List C)} {kd : IntKind} {j : Int}
theorem lenK_sl : lenK P t (.sl s' rows) (some s) = some (.i64 rows.length) := rfl
theorem lenK_ref : lenK P t (.ref s' b off len) (some s) = some (.i64 len) := rfl
theorem lenK_nil : lenK P t (.lit (.slice none n k)) (some s) = some (.i64 n) := rfl
theorem ixK_sl : ixK P t (.sl s' rows) kd j (some s) = if s' = s then ixI rows j else none := rfl
theorem ixK_ref : ixK P t (.ref s' b off len) kd j (some s) = if s' = s then ixR s b off len j else none := rfl
end

/-! ### numbers -/
theorem bin_int {P : Program} {op : BinOp} {t : TypeId} {k : IntKind} {a b : Int} (h : op ≠ .shl ∧ op ≠ .shr) : binOpE P op t (.one (.lit (.int k a))) (.one (.lit (.int k b))) = binInt op k a b := by
  cases op <;> simp_all [binOpE]
theorem bin_shl {P : Program} {t : TypeId} {k k' : IntKind} {a b : Int} : binOpE P .shl t (.one (.lit (.int k a))) (.one (.lit (.int k' b))) = binShift .shl k a b := rfl
theorem bin_shr {P : Program} {t : TypeId} {k k' : IntKind} {a b : Int} : binOpE P .shr t (.one (.lit (.int k a))) (.one (.lit (.int k' b))) = binShift .shr k a b := rfl
theorem bi_add {k : IntKind} {a b : Int} : binInt .add k a b = some (.int k (k.wrap (a + b))) := rfl
theorem bi_sub {k : IntKind} {a b : Int} : binInt .sub k a b = some (.int k (k.wrap (a - b))) := rfl
theorem bi_mul {k : IntKind} {a b : Int} : binInt .mul k a b = some (.int k (k.wrap (a * b))) := rfl
theorem bi_eql {k : IntKind} {a b : Int} : binInt .eql k a b = some (.bool (decide (a = b))) := by simp [binInt, Bool.beq_eq_decide_eq]
theorem bi_neq {k : IntKind} {a b : Int} : binInt .neq k a b = some (.bool (!decide (a = b))) := by simp [binInt, bne, Bool.beq_eq_decide_eq]
theorem bi_lss {k : IntKind} {a b : Int} : binInt .lss k a b = some (.bool (decide (a < b))) := rfl
theorem bi_leq {k : IntKind} {a b : Int} : binInt .leq k a b = some (.bool (decide (a ≤ b))) := rfl
theorem bi_gtr {k : IntKind} {a b : Int} : binInt .gtr k a b = some (.bool (decide (b < a))) := rfl
theorem bi_geq {k : IntKind} {a b : Int} : binInt .geq k a b = some (.bool (decide (b ≤ a))) := rfl
theorem bi_quo {k : IntKind} {a b : Int} (h : b ≠ 0) : binInt .quo k a b = some (.int k (k.wrap (a.tdiv b))) := by simp [binInt, h]
theorem bi_rem {k : IntKind} {a b : Int} (h : b ≠ 0) : binInt .rem k a b = some (.int k (a.tmod b)) := by simp [binInt, h]
section
variable {P : Program} {t : TypeId} {k : IntKind} {a b : Int}
theorem be_add : binOpE P .add t (.one (.lit (.int k a))) (.one (.lit (.int k b))) = some (.int k (k.wrap (a + b))) := by rw [bin_int (by simp)]; exact bi_add
theorem be_sub : binOpE P .sub t (.one (.lit (.int k a))) (.one (.lit (.int k b))) = some (.int k (k.wrap (a - b))) := by rw [bin_int (by simp)]; exact bi_sub
theorem be_mul : binOpE P .mul t (.one (.lit (.int k a))) (.one (.lit (.int k b))) = some (.int k (k.wrap (a * b))) := by rw [bin_int (by simp)]; exact bi_mul
theorem be_eql : binOpE P .eql t (.one (.lit (.int k a))) (.one (.lit (.int k b))) = some (.bool (decide (a = b))) := by rw [bin_int (by simp)]; exact bi_eql
theorem be_neq : binOpE P .neq t (.one (.lit (.int k a))) (.one (.lit (.int k b))) = some (.bool (!decide (a = b))) := by rw [bin_int (by simp)]; exact bi_neq
theorem be_lss : binOpE P .lss t (.one (.lit (.int k a))) (.one (.lit (.int k b))) = some (.bool (decide (a < b))) := by rw [bin_int (by simp)]; exact bi_lss
theorem be_leq : binOpE P .leq t (.one (.lit (.int k a))) (.one (.lit (.int k b))) = some (.bool (decide (a ≤ b))) := by rw [bin_int (by simp)]; exact bi_leq
theorem be_gtr : binOpE P .gtr t (.one (.lit (.int k a))) (.one (.lit (.int k b))) = some (.bool (decide (b < a))) := by rw [bin_int (by simp)]; exact bi_gtr
theorem be_geq : binOpE P .geq t (.one (.lit (.int k a))) (.one (.lit (.int k b))) = some (.bool (decide (b ≤ a))) := by rw [bin_int (by simp)]; exact bi_geq
theorem be_quo (h : b ≠ 0) : binOpE P .quo t (.one (.lit (.int k a))) (.one (.lit (.int k b))) = some (.int k (k.wrap (a.tdiv b))) := by rw [bin_int (by simp)]; exact bi_quo h
theorem be_rem (h : b ≠ 0) : binOpE P .rem t (.one (.lit (.int k a))) (.one (.lit (.int k b))) = some (.int k (a.tmod b)) := by rw [bin_int (by simp)]; exact bi_rem h
theorem be_and : binOpE P .and t (.one (.lit (.int k a))) (.one (.lit (.int k b))) = some (.int k (k.wrap (BitVec.ofInt k.bits a &&& BitVec.ofInt k.bits b).toNat)) := by rw [bin_int (by simp)]; rfl
theorem be_or : binOpE P .or t (.one (.lit (.int k a))) (.one (.lit (.int k b))) = some (.int k (k.wrap (BitVec.ofInt k.bits a ||| BitVec.ofInt k.bits b).toNat)) := by rw [bin_int (by simp)]; rfl
theorem be_xor : binOpE P .xor t (.one (.lit (.int k a))) (.one (.lit (.int k b))) = some (.int k (k.wrap (BitVec.ofInt k.bits a ^^^ BitVec.ofInt k.bits b).toNat)) := by rw [bin_int (by simp)]; rfl
theorem be_str {op : BinOp} {x y : ByteArray} : binOpE P op t (.one (.lit (.string x))) (.one (.lit (.string y))) = binStr op x y := rfl
theorem str_eq {x y : ByteArray} : (x.toList == y.toList) = decide (x = y) := by
  rw [Bool.beq_eq_decide_eq, ByteArray.toList_eq, ByteArray.toList_eq]
  congr 1
  apply propext
  refine ⟨fun h => ?_, fun h => by rw [h]⟩
  cases x; cases y
  simp only at h
  rw [Array.toList_inj.1 h]
theorem bs_eql {x y : ByteArray} : binStr .eql x y = some (.bool (decide (x = y))) := by rw [← str_eq]; rfl
theorem bs_neq {x y : ByteArray} : binStr .neq x y = some (.bool (!decide (x = y))) := by rw [← str_eq]; rfl
theorem bs_add {x y : ByteArray} : binStr .add x y = if x.size + y.size ≤ 9223372036854775807 then some (.str (x ++ y)) else none := rfl
def beBool (op : BinOp) (a b : Bool) : Option TypeDesc → Option V
  | some .bool => match op with | .eql => some (.bool (a == b)) | .neq => some (.bool (!(a == b))) | _ => none
  | _ => none
theorem be_bool {op : BinOp} {a b : Bool} : binOpE P op t (.one (.lit (.bool a))) (.one (.lit (.bool b))) = beBool op a b (P.underlying t) := by
  simp only [binOpE, beBool]
  cases P.underlying t with
  | none => cases op <;> rfl
  | some d => cases d <;> cases op <;> rfl
theorem beBool_eql {a b : Bool} : beBool .eql a b (some .bool) = some (.bool (a == b)) := rfl
theorem beBool_neq {a b : Bool} : beBool .neq a b (some .bool) = some (.bool (!(a == b))) := rfl
end
theorem un_not {b : Bool} : unOpE .not (.one (.lit (.bool b))) = some (.bool (!b)) := rfl
theorem un_neg {k : IntKind} {n : Int} : unOpE .neg (.one (.lit (.int k n))) = some (.int k (k.wrap (0 - n))) := rfl
theorem wrap_i64 {n : Int} (h1 : -9223372036854775808 ≤ n) (h2 : n ≤ 9223372036854775807) : IntKind.wrap .i64 n = n := by
  have e : IntKind.wrap .i64 n = if 9223372036854775808 ≤ n % 18446744073709551616 then n % 18446744073709551616 - 18446744073709551616 else n % 18446744073709551616 := by
    unfold IntKind.wrap
    by_cases hc : (9223372036854775808 : Int) ≤ n % 18446744073709551616
    · rw [if_pos hc]; exact if_pos (by simpa [IntKind.bits, IntKind.signed] using hc)
    · rw [if_neg hc]; exact if_neg (by simpa [IntKind.bits, IntKind.signed] using hc)
  rw [e]
  split <;> omega

/-! ### what is built -/
def bdK (P : Program) (t : TypeId) : Option (List C × List (Nat × Nat)) :=
  match P.underlying t, zeroT P t with
  | some (.struct fs), some z => if fs.toList.all (fun f => decide (0 < (sizeT P f.type).getD 0)) then some (z, fs.toList.map fun f => (f.offset, (sizeT P f.type).getD 0)) else none
  | _, _ => none
def fillP (pl : List (Nat × Nat)) (cells : List C) : List (Nat × V) → Option (List C)
  | [] => some cells
  | (i, v) :: rest => match pl[i]? with
    | some (off, size) => if v.cells.length = size ∧ off + size ≤ cells.length then fillP pl (setCells cells off v.cells) rest else none
    | none => none
def fillQ (pl : List (Nat × Nat)) (cells : List C) (rest : List (Nat × V)) (cs : List C) : Option (Nat × Nat) → Option (List C)
  | some (off, size) => if cs.length = size ∧ off + size ≤ cells.length then fillP pl (setCells cells off cs) rest else none
  | none => none
theorem fillP_nil {pl : List (Nat × Nat)} {cells : List C} : fillP pl cells [] = some cells := by simp only [fillP]
theorem fillP_cons {pl : List (Nat × Nat)} {cells : List C} {i : Nat} {v : V} {rest : List (Nat × V)} : fillP pl cells ((i, v) :: rest) = fillQ pl cells rest v.cells pl[i]? := by
  simp only [fillP, fillQ]
theorem fillQ_some {pl : List (Nat × Nat)} {cells cs : List C} {rest : List (Nat × V)} {off size : Nat} : fillQ pl cells rest cs (some (off, size)) = if cs.length = size ∧ off + size ≤ cells.length then fillP pl (setCells cells off cs) rest else none := rfl
def aggP : Option (List C) → Option V
  | some cs => some (.agg cs)
  | none => none
theorem aggP_some {cs : List C} : aggP (some cs) = some (.agg cs) := rfl
def buildK (P : Program) (t : TypeId) (parts : List (Nat × V)) : Option (List C × List (Nat × Nat)) → Option V
  | some (z, pl) => aggP (fillP pl z parts)
  | none => buildE P t parts
theorem build_ty {P : Program} {t : TypeId} {parts : List (Nat × V)} : buildE P t parts = buildK P t parts (bdK P t) := by
  cases h : bdK P t with
  | none => rfl
  | some p =>
    obtain ⟨z, pl⟩ := p
    unfold bdK at h
    split at h
    · rename_i fs z' h1 h2
      split at h
      · rename_i hall
        simp only [Option.some.injEq, Prod.mk.injEq] at h
        obtain ⟨rfl, rfl⟩ := h
        have hall' : ∀ f ∈ fs.toList, 0 < (sizeT P f.type).getD 0 := fun f hf => of_decide_eq_true (List.all_eq_true.1 hall f hf)
        have hpl : ∀ i, placesT P fs i = (fs.toList.map fun f => (f.offset, (sizeT P f.type).getD 0))[i]? := by
          intro i
          unfold placesT
          rw [List.getElem?_map, Array.getElem?_toList]
          cases hf : fs[i]? with
          | none => rfl
          | some f =>
            have := hall' f (by rw [← Array.getElem?_toList] at hf; exact List.mem_of_getElem? hf)
            cases hs : sizeT P f.type with
            | none => rw [hs] at this; simp at this
            | some k => simp only [hs, Option.map_some, Option.getD_some]
        have key : ∀ (parts : List (Nat × V)) (cells : List C), fillC (placesT P fs) cells parts = fillP (fs.toList.map fun f => (f.offset, (sizeT P f.type).getD 0)) cells parts := by
          intro parts
          induction parts with
          | nil => intro cells; simp only [fillC, fillP]
          | cons q rest ih =>
            intro cells
            obtain ⟨i, v⟩ := q
            simp only [fillC, fillP, hpl i]
            cases (fs.toList.map fun f => (f.offset, (sizeT P f.type).getD 0))[i]? with
            | none => rfl
            | some q => simp only [ih]
        simp only [buildE, h1, h2, buildK]
        rw [if_pos hall', key]
        cases fillP _ z' parts <;> rfl
      · cases h
    · cases h

def bsK (P : Program) (t : TypeId) : Option (Nat × List C) :=
  match elemT P t with
  | some e =>
    match sizeT P e, zeroT P e with
    | some s, some z => if z.length = s ∧ 0 < s then some (s, z) else none
    | _, _ => none
  | none => none
def bsR (s : Nat) (h : Hp) (len : Nat) : Option (List (List C)) → Option (V × Hp)
  | some rows => some (.one (.ref s h.next 0 len), h.new ⟨s, rows⟩)
  | none => none
def bsliceK (P : Program) (h : Hp) (t : TypeId) (len : Nat) (parts : List (Nat × V)) : Option (Nat × List C) → Option (V × Hp)
  | some (s, z) => if len * s ≤ 16777216 then bsR s h len (fillRows s (List.replicate len z) parts) else none
  | none => buildSliceE P h t len parts
theorem bslice_ty {P : Program} {h : Hp} {t : TypeId} {len : Nat} {parts : List (Nat × V)} : buildSliceE P h t len parts = bsliceK P h t len parts (bsK P t) := by
  cases hb : bsK P t with
  | none => rfl
  | some p =>
    obtain ⟨s, z⟩ := p
    unfold bsK at hb
    split at hb
    · rename_i e he
      split at hb
      · rename_i s' z' h1 h2
        split at hb
        · rename_i hc
          cases hb
          simp only [buildSliceE, he, h1, h2, bsliceK]
          by_cases hle : len * s ≤ 16777216
          · rw [if_pos ⟨hc.1, hc.2, hle⟩, if_pos hle]
            cases fillRows s (List.replicate len z) parts <;> rfl
          · rw [if_neg (fun h => hle h.2.2), if_neg hle]
        · cases hb
      · cases hb
    · cases hb
theorem bsliceK_some {P : Program} {h : Hp} {t : TypeId} {len s : Nat} {parts : List (Nat × V)} {z : List C} : bsliceK P h t len parts (some (s, z)) = if len * s ≤ 16777216 then bsR s h len (fillRows s (List.replicate len z) parts) else none := rfl
theorem bsR_some {s len : Nat} {h : Hp} {rows : List (List C)} : bsR s h len (some rows) = some (.one (.ref s h.next 0 len), h.new ⟨s, rows⟩) := rfl
theorem fillRows_nil {s : Nat} {rows : List (List C)} : fillRows s rows [] = some rows := rfl
theorem fillRows_cons {s i : Nat} {rows : List (List C)} {v : V} {rest : List (Nat × V)} : fillRows s rows ((i, v) :: rest) = if i < rows.length ∧ v.cells.length = s then fillRows s (rows.set i v.cells) rest else none := rfl
theorem buildK_some {P : Program} {t : TypeId} {parts : List (Nat × V)} {z : List C} {pl : List (Nat × Nat)} : buildK P t parts (some (z, pl)) = aggP (fillP pl z parts) := rfl

/-! ### slices made and lengthened -/
/-- A slice type: its rows' cells, their bytes, their zero. -/
def apK (P : Program) (t : TypeId) : Option (Nat × Nat × List C) :=
  match elemT P t with
  | some e =>
    match P.info? e, zeroT P e with
    | some i, some z => if z.length = i.size ∧ 0 < i.size ∧ 0 < i.bytes then some (i.size, i.bytes, z) else none
    | _, _ => none
  | none => none
def makeK (P : Program) (h : Hp) (t : TypeId) (n m : Int) (k : IntKind) : Option (Nat × Nat × List C) → Option (V × Hp)
  | some (s, by_, z) => if n = m ∧ 0 ≤ n ∧ by_ * n ≤ most ∧ n ≤ 9223372036854775807 then some (.one (.ref s h.next 0 n.toNat), h.new ⟨s, List.replicate n.toNat z⟩) else none
  | none => makeSliceE P h t (.one (.lit (.int k n))) (.one (.lit (.int k m)))
theorem make_ty {P : Program} {h : Hp} {t : TypeId} {n m : Int} {k : IntKind} : makeSliceE P h t (.one (.lit (.int k n))) (.one (.lit (.int k m))) = makeK P h t n m k (apK P t) := by
  cases hb : apK P t with
  | none => rfl
  | some p =>
    obtain ⟨s, b, z⟩ := p
    unfold apK at hb
    split at hb
    · rename_i e he
      split at hb
      · rename_i i z' h1 h2
        split at hb
        · rename_i hc
          cases hb
          simp only [makeSliceE, he, h1, h2, makeK, hc.1, hc.2.1, true_and]
        · cases hb
      · cases hb
    · cases hb
theorem makeK_some {P : Program} {h : Hp} {t : TypeId} {n m : Int} {k : IntKind} {s b : Nat} {z : List C} : makeK P h t n m k (some (s, b, z)) = if n = m ∧ 0 ≤ n ∧ b * n ≤ most ∧ n ≤ 9223372036854775807 then some (.one (.ref s h.next 0 n.toNat), h.new ⟨s, List.replicate n.toNat z⟩) else none := rfl

def WideL (s : Nat) (rows : List (List C)) : Prop := ∀ r ∈ rows, r.length = s
instance {s : Nat} {rows : List (List C)} : Decidable (WideL s rows) := by unfold WideL; infer_instance
theorem WideL_nil {s : Nat} : WideL s [] = True := by simp [WideL]
theorem WideL_cons {s : Nat} {r : List C} {rows : List (List C)} : WideL s (r :: rows) = (r.length = s ∧ WideL s rows) := by simp [WideL]
theorem WideL_append {s : Nat} {a b : List (List C)} : WideL s (a ++ b) = (WideL s a ∧ WideL s b) := by
  apply propext; simp only [WideL, List.mem_append]
  exact ⟨fun h => ⟨fun r hr => h r (.inl hr), fun r hr => h r (.inr hr)⟩, fun h r hr => hr.elim (h.1 r) (h.2 r)⟩
theorem WideL_map {α : Type} {s : Nat} {f : α → List C} (hf : ∀ x, (f x).length = s) (l : List α) : WideL s (l.map f) = True := by
  simp only [WideL, List.mem_map, forall_exists_index, and_imp, forall_apply_eq_imp_iff₂, hf, implies_true]

def rowsB (s off len : Nat) : Option Blk → Option (List (List C))
  | some ⟨s', rows⟩ => if s' = s ∧ off + len ≤ rows.length then some ((rows.drop off).take len) else none
  | none => none
theorem rowsE_nil {h : Hp} : rowsE h (.lit (.slice none 0 0)) = some [] := rfl
theorem rowsE_sl {h : Hp} {s : Nat} {rows : List (List C)} : rowsE h (.sl s rows) = some rows := rfl
theorem rowsE_ref {h : Hp} {s b off len : Nat} : rowsE h (.ref s b off len) = rowsB s off len (h.at_ b) := by
  simp only [rowsE, rowsB]; cases h.at_ b <;> rfl
theorem rowsB_some {s s' off len : Nat} {rows : List (List C)} : rowsB s off len (some ⟨s', rows⟩) = if s' = s ∧ off + len ≤ rows.length then some ((rows.drop off).take len) else none := rfl

def appB (s by_ : Nat) (h : Hp) (rows : List (List C)) (s' b off len : Nat) : Option Blk → Option (V × Hp)
  | some ⟨s'', rws⟩ => if s'' = s' ∧ s' = s ∧ off + len ≤ rws.length ∧ (2 * (len + rows.length) + 1024) * by_ ≤ most then some (.one (.ref s' h.next 0 (len + rows.length)), (h.kill b).new ⟨s', (rws.drop off).take len ++ rows⟩) else none
  | none => none
def appX (s by_ : Nat) (h : Hp) (rows : List (List C)) : V → Option (V × Hp)
  | .one (.lit (.slice none 0 0)) => if (2 * rows.length + 1024) * by_ ≤ most then some (.one (.ref s h.next 0 rows.length), h.new ⟨s, rows⟩) else none
  | .one (.ref s' b off len) => appB s by_ h rows s' b off len (h.at_ b)
  | _ => none
def appR (s by_ : Nat) (h : Hp) (x : V) : Option (List (List C)) → Option (V × Hp)
  | some rows => if WideL s rows then appX s by_ h rows x else none
  | none => none
def isSl : Option TypeDesc → Bool
  | some (.slice _) => true
  | _ => false
def rowsV (h : Hp) : V → Option (List (List C))
  | .one c => rowsE h c
  | _ => none
def appK (P : Program) (h : Hp) (t u : TypeId) (x y : V) : Option (Nat × Nat × List C) → Bool → Option (V × Hp)
  | some (s, by_, _), true => appR s by_ h x (rowsV h y)
  | _, _ => appendE P h t u x y
theorem app_ty {P : Program} {h : Hp} {t u : TypeId} {x y : V} : appendE P h t u x y = appK P h t u x y (apK P t) (isSl (P.underlying u)) := by
  cases hb : apK P t with
  | none => rfl
  | some p =>
    obtain ⟨s, b, z⟩ := p
    cases hu : isSl (P.underlying u) with
    | false => rfl
    | true =>
      unfold apK at hb
      split at hb
      · rename_i e he
        split at hb
        · rename_i i z' h1 h2
          split at hb
          · rename_i hc
            cases hb
            have hu' : ∃ e, P.underlying u = some (.slice e) := by
              unfold isSl at hu
              split at hu
              · exact ⟨_, by assumption⟩
              · cases hu
            obtain ⟨e', hu'⟩ := hu'
            have hn : newRowsE h (.slice e') y = rowsV h y := by cases y <;> rfl
            simp only [appendE, he, hu', h1, h2, hn, appK]
            cases rowsV h y with
            | none => rfl
            | some rows =>
              simp only [hc.1, hc.2.1, hc.2.2, true_and, and_true, appR]
              by_cases hw : ∀ r ∈ rows, r.length = i.size
              · rw [if_pos hw, if_pos (show WideL i.size rows from hw)]
                cases x with
                | one c =>
                  cases c with
                  | lit v =>
                    cases v with
                    | slice a n k =>
                      cases a with
                      | none => cases n <;> cases k <;> rfl
                      | some a => rfl
                    | _ => rfl
                  | ref s' b' off len =>
                    simp only [appX]
                    cases h.at_ b' with
                    | none => rfl
                    | some k => rfl
                  | _ => rfl
                | _ => rfl
              · rw [if_neg hw, if_neg (show ¬ WideL i.size rows from hw)]
          · cases hb
        · cases hb
      · cases hb
section
variable {P : Program} {h : Hp} {t u : TypeId} {x y : V} {s b : Nat} {z : List C} {rows rws : List (List C)} {s' s'' bb off len : Nat}
theorem appK_some : appK P h t u x y (some (s, b, z)) true = appR s b h x (rowsV h y) := rfl
theorem appR_some : appR s b h x (some rows) = if WideL s rows then appX s b h rows x else none := rfl
theorem appX_nil : appX s b h rows (.one (.lit (.slice none 0 0))) = if (2 * rows.length + 1024) * b ≤ most then some (.one (.ref s h.next 0 rows.length), h.new ⟨s, rows⟩) else none := rfl
theorem appX_ref : appX s b h rows (.one (.ref s' bb off len)) = appB s b h rows s' bb off len (h.at_ bb) := rfl
theorem appB_some : appB s b h rows s' bb off len (some ⟨s'', rws⟩) = if s'' = s' ∧ s' = s ∧ off + len ≤ rws.length ∧ (2 * (len + rows.length) + 1024) * b ≤ most then some (.one (.ref s' h.next 0 (len + rows.length)), (h.kill bb).new ⟨s', (rws.drop off).take len ++ rows⟩) else none := rfl
theorem rowsV_one {c : C} : rowsV h (.one c) = rowsE h c := rfl
theorem isSl_slice {e : TypeId} : isSl (some (.slice e)) = true := rfl
theorem most_eq : most = 281474976710656 := rfl
end

/-! ### parts of slices, strings -/
def isStr : Option TypeDesc → Bool
  | some .string => true
  | _ => false
theorem isStr_iff {d : Option TypeDesc} (h : isStr d = true) : d = some .string := by
  unfold isStr at h
  split at h
  · rfl
  · cases h
def slcS (P : Program) (t : TypeId) (x : ByteArray) (lo hi : Option V) : Bool → Option V
  | true => slcT x (boundE lo 0) (boundE hi x.size)
  | false => sliceE P t (.one (.lit (.string x))) lo hi
where slcT (x : ByteArray) : Option Nat → Option Nat → Option V
  | some l, some h => if l ≤ h ∧ h ≤ x.size then some (.str (x.extract l h)) else none
  | _, _ => none
theorem slice_str {P : Program} {t : TypeId} {x : ByteArray} {lo hi : Option V} : sliceE P t (.one (.lit (.string x))) lo hi = slcS P t x lo hi (isStr (P.underlying t)) := by
  cases h : isStr (P.underlying t) with
  | false => rfl
  | true =>
    simp only [sliceE, isStr_iff h, slcS, slcS.slcT]
    cases boundE lo 0 <;> cases boundE hi x.size <;> rfl
def slcI (s : Nat) (rows : List (List C)) : Option Nat → Option Nat → Option V
  | some l, some h => if l ≤ h ∧ h ≤ rows.length then some (.one (.sl s ((rows.drop l).take (h - l)))) else none
  | _, _ => none
def slcR (s b off len : Nat) : Option Nat → Option Nat → Option V
  | some l, some h => if l ≤ h ∧ h ≤ len then some (.one (.ref s b (off + l) (h - l))) else none
  | _, _ => none
def slcN : Option Nat → Option Nat → Option V
  | some l, some h => if l = 0 ∧ h = 0 then some .nilSl else none
  | _, _ => none
def sliceK (P : Program) (t : TypeId) (c : C) (lo hi : Option V) : Option Nat → Option V
  | some s =>
    match c with
    | .sl s' rows => if s' = s then slcI s rows (boundE lo 0) (boundE hi rows.length) else none
    | .ref s' b off len => if s' = s then slcR s b off len (boundE lo 0) (boundE hi len) else none
    | .lit (.slice none 0 0) => slcN (boundE lo 0) (boundE hi 0)
    | _ => none
  | none => sliceE P t (.one c) lo hi
theorem slice_ty {P : Program} {t : TypeId} {c : C} {lo hi : Option V} : sliceE P t (.one c) lo hi = sliceK P t c lo hi (slK P t) := by
  cases h : slK P t with
  | none => rfl
  | some s =>
    obtain ⟨e, he⟩ := slK_slc h
    unfold sliceK sliceE
    rw [he.und]
    cases c with
    | sl s' rows =>
      simp only [he.size, Option.some.injEq]
      by_cases hs : s = s'
      · subst hs
        simp only [true_and, if_true, slcI]
        cases boundE lo 0 <;> cases boundE hi rows.length <;> rfl
      · rw [if_neg (fun h => hs h.symm)]
        simp only [hs, false_and, if_false]
        cases boundE lo 0 <;> cases boundE hi rows.length <;> rfl
    | ref s' b off len =>
      simp only [he.size, Option.some.injEq]
      by_cases hs : s = s'
      · subst hs
        simp only [true_and, if_true, slcR]
        cases boundE lo 0 <;> cases boundE hi len <;> rfl
      · rw [if_neg (fun h => hs h.symm)]
        simp only [hs, false_and, if_false]
        cases boundE lo 0 <;> cases boundE hi len <;> rfl
    | lit v =>
      cases v with
      | slice a n k =>
        cases a with
        | some a => rfl
        | none =>
          cases n with
          | succ n => rfl
          | zero =>
            cases k with
            | succ k => rfl
            | zero =>
              simp only [he.size, Option.isSome_some, true_and, slcN]
              cases boundE lo 0 <;> cases boundE hi 0 <;> rfl
      | _ => rfl
    | _ => rfl
section
variable {P : Program} {t : TypeId} {s s' b off len l h d : Nat} {rows : List (List C)} {lo hi : Option V} {x : ByteArray} {k : IntKind} {j : Int}
theorem sliceK_sl : sliceK P t (.sl s' rows) lo hi (some s) = if s' = s then slcI s rows (boundE lo 0) (boundE hi rows.length) else none := rfl
theorem sliceK_ref : sliceK P t (.ref s' b off len) lo hi (some s) = if s' = s then slcR s b off len (boundE lo 0) (boundE hi len) else none := rfl
theorem sliceK_nil : sliceK P t (.lit (.slice none 0 0)) lo hi (some s) = slcN (boundE lo 0) (boundE hi 0) := rfl
theorem slcI_some : slcI s rows (some l) (some h) = if l ≤ h ∧ h ≤ rows.length then some (.one (.sl s ((rows.drop l).take (h - l)))) else none := rfl
theorem slcR_some : slcR s b off len (some l) (some h) = if l ≤ h ∧ h ≤ len then some (.one (.ref s b (off + l) (h - l))) else none := rfl
theorem slcN_some : slcN (some l) (some h) = if l = 0 ∧ h = 0 then some .nilSl else none := rfl
theorem slcS_true : slcS P t x lo hi true = slcS.slcT x (boundE lo 0) (boundE hi x.size) := rfl
theorem slcT_some : slcS.slcT x (some l) (some h) = if l ≤ h ∧ h ≤ x.size then some (.str (x.extract l h)) else none := rfl
theorem bound_none : boundE none d = some d := rfl
theorem bound_some : boundE (some (.one (.lit (.int k j)))) d = if 0 ≤ j then some j.toNat else none := rfl
theorem isStr_string : isStr (some .string) = true := rfl
end
def lenS (P : Program) (t : TypeId) (x : ByteArray) : Bool → Option V
  | true => some (.i64 x.size)
  | false => lenE P t (.one (.lit (.string x)))
theorem len_str {P : Program} {t : TypeId} {x : ByteArray} : lenE P t (.one (.lit (.string x))) = lenS P t x (isStr (P.underlying t)) := by
  cases h : isStr (P.underlying t) with
  | false => rfl
  | true => simp only [lenE, isStr_iff h, lenS]
theorem lenS_true {P : Program} {t : TypeId} {x : ByteArray} : lenS P t x true = some (.i64 x.size) := rfl
def idxS (P : Program) (t : TypeId) (x : ByteArray) (k : IntKind) (j : Int) : Bool → Option V
  | true => if 0 ≤ j then (x[j.toNat]?).map fun b => .int .u8 b.toNat else none
  | false => indexE P t (.one (.lit (.string x))) (.one (.lit (.int k j)))
theorem index_str {P : Program} {t : TypeId} {x : ByteArray} {k : IntKind} {j : Int} : indexE P t (.one (.lit (.string x))) (.one (.lit (.int k j))) = idxS P t x k j (isStr (P.underlying t)) := by
  cases h : isStr (P.underlying t) with
  | false => rfl
  | true => simp only [indexE, isStr_iff h, idxS]
theorem idxS_true {P : Program} {t : TypeId} {x : ByteArray} {k : IntKind} {j : Int} : idxS P t x k j true = if 0 ≤ j then (x[j.toNat]?).map fun b => .int .u8 b.toNat else none := rfl

/-! ### conversions -/
inductive CvK where
  | int (k : IntKind)
  | str
  | bytes
  | text
  | other
def cvK (P : Program) (src dst : TypeId) : CvK :=
  match P.underlying src, P.underlying dst with
  | some (.int _), some (.int k) => .int k
  | some .string, some .string => .str
  | some .string, some (.slice e) => match P.underlying e with | some (.int .u8) => .bytes | _ => .other
  | some (.slice e), some .string => match P.underlying e with | some (.int .u8) => .text | _ => .other
  | _, _ => .other
def textR (h : Hp) : Option (List (List C)) → Option (V × Hp)
  | some rows => match bytesOf rows with | some l => some (.str ⟨l.toArray⟩, h) | none => none
  | none => none
def convK (P : Program) (h : Hp) (src dst : TypeId) (c : C) : CvK → Option (V × Hp)
  | .int k => match c with | .lit (.int _ n) => some (.int k (k.wrap n), h) | _ => none
  | .str => match c with | .lit (.string x) => some (.str x, h) | _ => none
  | .bytes => match c with | .lit (.string s) => some (.one (.ref 1 h.next 0 s.size), h.new ⟨1, s.data.toList.map fun b => [.lit (.int .u8 b.toNat)]⟩) | _ => none
  | .text => textR h (rowsE h c)
  | .other => convertE P h src dst (.one c)
theorem conv_ty {P : Program} {h : Hp} {src dst : TypeId} {c : C} : convertE P h src dst (.one c) = convK P h src dst c (cvK P src dst) := by
  cases hk : cvK P src dst with
  | other => rfl
  | _ =>
    unfold cvK at hk
    split at hk
    case h_1 k1 k2 h1 h2 =>
      cases hk
      try (simp only [convertE, h1, h2, convK]; cases c with
        | lit v => cases v <;> rfl
        | _ => rfl)
    case h_2 h1 h2 =>
      cases hk
      try (simp only [convertE, h1, h2, convK]; cases c with
        | lit v => cases v <;> rfl
        | _ => rfl)
    case h_3 e h1 h2 =>
      split at hk
      · rename_i h3
        cases hk
        try (simp only [convertE, h1, h2, convK]; cases c with
          | lit v => cases v <;> first | rfl | simp only [h3]
          | _ => rfl)
      · cases hk
    case h_4 e h1 h2 =>
      split at hk
      · rename_i h3
        cases hk
        try (simp only [convertE, h1, h2, convK, h3, textR]; cases rowsE h c <;> rfl)
      · cases hk
    · cases hk
section
variable {P : Program} {h : Hp} {src dst : TypeId} {c : C} {k k' : IntKind} {n : Int} {x : ByteArray} {rows : List (List C)} {l : List UInt8}
theorem convK_int : convK P h src dst (.lit (.int k' n)) (.int k) = some (.int k (k.wrap n), h) := rfl
theorem convK_str : convK P h src dst (.lit (.string x)) .str = some (.str x, h) := rfl
theorem convK_bytes : convK P h src dst (.lit (.string x)) .bytes = some (.one (.ref 1 h.next 0 x.size), h.new ⟨1, x.data.toList.map fun b => [.lit (.int .u8 b.toNat)]⟩) := rfl
theorem convK_text : convK P h src dst c .text = textR h (rowsE h c) := rfl
def strO (h : Hp) : Option (List UInt8) → Option (V × Hp)
  | some l => some (.str ⟨l.toArray⟩, h)
  | none => none
theorem textR_some : textR h (some rows) = strO h (bytesOf rows) := by show (match bytesOf rows with | some l => some (.str ⟨l.toArray⟩, h) | none => none) = strO h (bytesOf rows); cases hb : bytesOf rows <;> rfl
theorem strO_some : strO h (some l) = some (.str ⟨l.toArray⟩, h) := rfl
end

/-! ### equality of structs -/
def eqChainO : List (Option Bool) → Option Bool
  | [] => some true
  | o :: l =>
    match o with
    | none => none
    | some b => if b then eqChainO l else some false
def andO (b : Bool) (o : Option Bool) : Option Bool := if b then o else some false
theorem eqChainO_nil : eqChainO [] = some true := rfl
theorem eqChainO_cons {b : Bool} {l : List (Option Bool)} : eqChainO (some b :: l) = andO b (eqChainO l) := rfl
theorem andO_some {b c : Bool} : andO b (some c) = some (b && c) := by cases b <;> rfl
def eqR : Option Bool → Option V
  | some b => some (.bool b)
  | none => none
def neR : Option Bool → Option V
  | some b => some (.bool (!b))
  | none => none
theorem eqR_some {b : Bool} : eqR (some b) = some (.bool b) := rfl
theorem neR_some {b : Bool} : neR (some b) = some (.bool (!b)) := rfl
def eqAggK (P : Program) (op : BinOp) (t : TypeId) (xs ys : List C) : TyK → Option V
  | .agg _ _ => match op with | .eql => eqR (eqT P 8 t xs ys) | .neq => neR (eqT P 8 t xs ys) | _ => none
  | _ => binOpE P op t (.agg xs) (.agg ys)
theorem be_agg {P : Program} {op : BinOp} {t : TypeId} {xs ys : List C} : binOpE P op t (.agg xs) (.agg ys) = eqAggK P op t xs ys (tyK P t) := by
  cases h : tyK P t with
  | agg k z =>
    simp only [binOpE, (tyK_agg h).agg, if_true, eqAggK]
    cases op <;> simp only [] <;> cases eqT P 8 t xs ys <;> rfl
  | _ => rfl
theorem eqAggK_eql {P : Program} {t : TypeId} {xs ys z : List C} {k : Nat} : eqAggK P .eql t xs ys (.agg k z) = eqR (eqT P 8 t xs ys) := rfl
theorem eqAggK_neq {P : Program} {t : TypeId} {xs ys z : List C} {k : Nat} : eqAggK P .neq t xs ys (.agg k z) = neR (eqT P 8 t xs ys) := rfl

/-! ### calls -/
def pureR (P : Program) (mode : FuncId → FuncId → Mode) (ext : FuncId → Option (List V → Hp → Option (V × Hp))) (N n : Nat) (f : FuncId) (args : List V) : Option V :=
  (⟨P, mode f, run P mode ext N n⟩ : Cfg).pureN f args

end Go.Ev
