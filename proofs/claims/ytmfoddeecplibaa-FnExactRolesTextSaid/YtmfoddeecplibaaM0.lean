/- The things that the program speaks of, as rows of cells. -/
import Derived.Test.YtmfoddeecplibaaEK
set_option linter.unusedVariables false
namespace Go.Ev
@[go_sem] def intC (n : Int) : List C := [.lit (.int .i64 n)]
@[go_sem] def byteC (n : Int) : List C := [.lit (.int .u8 n)]
@[go_sem] def strC (s : ByteArray) : List C := [.lit (.string s)]
theorem wide_int (l : List Int) : WideL 1 (l.map intC) = True := WideL_map (f := intC) (fun _ => rfl) l
theorem still_int (l : List Int) : Still (l.map intC) := Still.map (f := intC) (fun _ => rfl) l
theorem frz_int {d : Nat} {h : Hp} (l : List Int) : mapO (mapO (frzC d h)) (l.map intC) = some (l.map intC) := mapO_still (still_int l)
attribute [go_sem] wide_int frz_int
theorem wide_byte (l : List Int) : WideL 1 (l.map byteC) = True := WideL_map (f := byteC) (fun _ => rfl) l
theorem still_byte (l : List Int) : Still (l.map byteC) := Still.map (f := byteC) (fun _ => rfl) l
theorem frz_byte {d : Nat} {h : Hp} (l : List Int) : mapO (mapO (frzC d h)) (l.map byteC) = some (l.map byteC) := mapO_still (still_byte l)
attribute [go_sem] wide_byte frz_byte
theorem wide_str (l : List ByteArray) : WideL 1 (l.map strC) = True := WideL_map (f := strC) (fun _ => rfl) l
theorem still_str (l : List ByteArray) : Still (l.map strC) := Still.map (f := strC) (fun _ => rfl) l
theorem frz_str {d : Nat} {h : Hp} (l : List ByteArray) : mapO (mapO (frzC d h)) (l.map strC) = some (l.map strC) := mapO_still (still_str l)
attribute [go_sem] wide_str frz_str
structure Vec where
  root : Int
  cost : Int
  hops : Int
  bridge : Int
  port : Int
@[go_sem] def Vec.cs (x : Vec) : List C := [.lit (.int .i64 x.root), .lit (.int .i64 x.cost), .lit (.int .i64 x.hops), .lit (.int .i64 x.bridge), .lit (.int .i64 x.port)]
@[go_sem] theorem Vec_eta (x : Vec) : (⟨x.root, x.cost, x.hops, x.bridge, x.port⟩ : Vec) = x := rfl
theorem wide_Vec (l : List Vec) : WideL 5 (l.map Vec.cs) = True := WideL_map (f := Vec.cs) (fun _ => rfl) l
theorem still_Vec (l : List Vec) : Still (l.map Vec.cs) := Still.map (f := Vec.cs) (fun _ => rfl) l
theorem frz_Vec {d : Nat} {h : Hp} (l : List Vec) : mapO (mapO (frzC d h)) (l.map Vec.cs) = some (l.map Vec.cs) := mapO_still (still_Vec l)
attribute [go_sem] wide_Vec frz_Vec
structure Pt where
  up : Bool
  cost : Int
  has : Bool
  heard : Vec
@[go_sem] def Pt.cs (x : Pt) : List C := [.lit (.bool x.up), .lit (.int .i64 x.cost), .lit (.bool x.has), .lit (.int .i64 x.heard.root), .lit (.int .i64 x.heard.cost), .lit (.int .i64 x.heard.hops), .lit (.int .i64 x.heard.bridge), .lit (.int .i64 x.heard.port)]
@[go_sem] theorem Pt_eta (x : Pt) : (⟨x.up, x.cost, x.has, x.heard⟩ : Pt) = x := rfl
theorem wide_Pt (l : List Pt) : WideL 8 (l.map Pt.cs) = True := WideL_map (f := Pt.cs) (fun _ => rfl) l
theorem still_Pt (l : List Pt) : Still (l.map Pt.cs) := Still.map (f := Pt.cs) (fun _ => rfl) l
theorem frz_Pt {d : Nat} {h : Hp} (l : List Pt) : mapO (mapO (frzC d h)) (l.map Pt.cs) = some (l.map Pt.cs) := mapO_still (still_Pt l)
attribute [go_sem] wide_Pt frz_Pt
structure Fent where
  tag : Int
  mac : Int
  port : Int
  age : Int
  static : Bool
@[go_sem] def Fent.cs (x : Fent) : List C := [.lit (.int .i64 x.tag), .lit (.int .i64 x.mac), .lit (.int .i64 x.port), .lit (.int .i64 x.age), .lit (.bool x.static)]
@[go_sem] theorem Fent_eta (x : Fent) : (⟨x.tag, x.mac, x.port, x.age, x.static⟩ : Fent) = x := rfl
theorem wide_Fent (l : List Fent) : WideL 5 (l.map Fent.cs) = True := WideL_map (f := Fent.cs) (fun _ => rfl) l
theorem still_Fent (l : List Fent) : Still (l.map Fent.cs) := Still.map (f := Fent.cs) (fun _ => rfl) l
theorem frz_Fent {d : Nat} {h : Hp} (l : List Fent) : mapO (mapO (frzC d h)) (l.map Fent.cs) = some (l.map Fent.cs) := mapO_still (still_Fent l)
attribute [go_sem] wide_Fent frz_Fent
structure Vrow where
  id : Int
  members : Int
  bare : Int
@[go_sem] def Vrow.cs (x : Vrow) : List C := [.lit (.int .i64 x.id), .lit (.int .i64 x.members), .lit (.int .i64 x.bare)]
@[go_sem] theorem Vrow_eta (x : Vrow) : (⟨x.id, x.members, x.bare⟩ : Vrow) = x := rfl
theorem wide_Vrow (l : List Vrow) : WideL 3 (l.map Vrow.cs) = True := WideL_map (f := Vrow.cs) (fun _ => rfl) l
theorem still_Vrow (l : List Vrow) : Still (l.map Vrow.cs) := Still.map (f := Vrow.cs) (fun _ => rfl) l
theorem frz_Vrow {d : Nat} {h : Hp} (l : List Vrow) : mapO (mapO (frzC d h)) (l.map Vrow.cs) = some (l.map Vrow.cs) := mapO_still (still_Vrow l)
attribute [go_sem] wide_Vrow frz_Vrow
structure Vtab where
  rows : List Vrow
  pvid : List Int
@[go_sem] def Vtab.cs (x : Vtab) : List C := [.sl 3 (x.rows.map Vrow.cs), .sl 1 (x.pvid.map intC)]
@[go_sem] theorem Vtab_eta (x : Vtab) : (⟨x.rows, x.pvid⟩ : Vtab) = x := rfl
theorem wide_Vtab (l : List Vtab) : WideL 2 (l.map Vtab.cs) = True := WideL_map (f := Vtab.cs) (fun _ => rfl) l
theorem still_Vtab (l : List Vtab) : Still (l.map Vtab.cs) := Still.map (f := Vtab.cs) (fun _ => rfl) l
theorem frz_Vtab {d : Nat} {h : Hp} (l : List Vtab) : mapO (mapO (frzC d h)) (l.map Vtab.cs) = some (l.map Vtab.cs) := mapO_still (still_Vtab l)
attribute [go_sem] wide_Vtab frz_Vtab
structure Bridge where
  id : Int
  name : ByteArray
  ports : List Pt
  f : List Fent
  v : Vtab
  ticks : Int
  parse : Int
  word : Int
  drops : Int
  vers : Int
@[go_sem] def Bridge.cs (x : Bridge) : List C := [.lit (.int .i64 x.id), .lit (.string x.name), .sl 8 (x.ports.map Pt.cs), .sl 5 (x.f.map Fent.cs), .sl 3 (x.v.rows.map Vrow.cs), .sl 1 (x.v.pvid.map intC), .lit (.int .i64 x.ticks), .lit (.int .i64 x.parse), .lit (.int .i64 x.word), .lit (.int .i64 x.drops), .lit (.int .i64 x.vers)]
@[go_sem] theorem Bridge_eta (x : Bridge) : (⟨x.id, x.name, x.ports, x.f, x.v, x.ticks, x.parse, x.word, x.drops, x.vers⟩ : Bridge) = x := rfl
theorem wide_Bridge (l : List Bridge) : WideL 11 (l.map Bridge.cs) = True := WideL_map (f := Bridge.cs) (fun _ => rfl) l
theorem still_Bridge (l : List Bridge) : Still (l.map Bridge.cs) := Still.map (f := Bridge.cs) (fun _ => rfl) l
theorem frz_Bridge {d : Nat} {h : Hp} (l : List Bridge) : mapO (mapO (frzC d h)) (l.map Bridge.cs) = some (l.map Bridge.cs) := mapO_still (still_Bridge l)
attribute [go_sem] wide_Bridge frz_Bridge
end Go.Ev
