/-
  An abstract machine for the program: its operations as plain functions on lists and tables.
-/
import Derived.Calls
set_option linter.unusedVariables false
noncomputable section
namespace Go.Am
open Go

/-! ## a finite table of numbers -/
inductive T (α : Type) where
  | lf
  | nd (v : Option α) (l r : T α)
  deriving Inhabited

namespace T
variable {α : Type}
def get (t : T α) : Nat → Option α :=
  T.rec (motive := fun _ => Nat → Option α) (fun _ => none)
    (fun v _ _ gl gr n => Bool.rec (Bool.rec (gr (Nat.div (Nat.sub n 1) 2)) (gl (Nat.div (Nat.sub n 1) 2)) (Nat.beq (Nat.mod n 2) 1)) v (Nat.beq n 0)) t
def setF (f : Nat) : T α → Nat → Option α → T α :=
  Nat.rec (motive := fun _ => T α → Nat → Option α → T α) (fun t _ _ => t)
    (fun _ ih t n a => T.rec (motive := fun _ => T α)
      (Bool.rec (Bool.rec (.nd none .lf (ih .lf (Nat.div (Nat.sub n 1) 2) a)) (.nd none (ih .lf (Nat.div (Nat.sub n 1) 2) a) .lf) (Nat.beq (Nat.mod n 2) 1)) (.nd a .lf .lf) (Nat.beq n 0))
      (fun v l r _ _ => Bool.rec (Bool.rec (.nd v l (ih r (Nat.div (Nat.sub n 1) 2) a)) (.nd v (ih l (Nat.div (Nat.sub n 1) 2) a) r) (Nat.beq (Nat.mod n 2) 1)) (.nd a l r) (Nat.beq n 0)) t) f
def set (t : T α) (n : Nat) (a : α) : T α := setF (Nat.succ n) t n (some a)
def del (t : T α) (n : Nat) : T α := setF (Nat.succ n) t n none
end T

/-! ## memory -/
structure Blk where
  cs : List Value
  elem : TypeId
  loose : Bool := false
  fz : Nat := 0
  str : Bool := false
  ro : Bool := false
  deriving Inhabited

inductive AObj where
  | row (b : Blk)
  | map (es : List MapEntry) (clock : Nat)
  deriving Inhabited

structure St where
  h : T AObj
  nx : Nat
  deriving Inhabited

def St.row? (σ : St) (b : Nat) : Option Blk := match σ.h.get b with | some (.row r) => some r | _ => none
def St.map? (σ : St) (b : Nat) : Option (List MapEntry × Nat) := match σ.h.get b with | some (.map es c) => some (es, c) | _ => none
def St.put (σ : St) (b : Nat) (o : AObj) : St := { σ with h := σ.h.set b o }
def St.kill (σ : St) (b : Nat) : St := { σ with h := σ.h.del b }
def St.new (σ : St) (o : AObj) : Nat × St := (σ.nx, { h := σ.h.set σ.nx o, nx := σ.nx + 1 })
def St.alloc (σ : St) (cs : List Value) (elem : TypeId) (loose : Bool := false) : Addr × St :=
  let (b, σ) := σ.new (.row { cs, elem, loose })
  (⟨b, 0, none⟩, σ)

/-! ## types -/
def sizeN (P : Program) (t : TypeId) : Option Nat := (P.info? t).map (·.size)
def aggN (P : Program) (t : TypeId) : Option Bool := (P.underlying t).map fun | .struct _ | .array _ _ => true | _ => false
/-- a value in which no address stands -/
def constOK : Value → Bool
  | .bool _ | .int _ _ | .string _ | .pointer none | .slice none _ _ | .map none | .nilFunc | .nilIface => true
  | _ => false
def zeroN (P : Program) (t : TypeId) : Option (List Value) := (P.info? t).bind fun i => i.zero.bind fun v => bif v.cells.toList.all constOK then some v.cells.toList else none
def bytesN (P : Program) (t : TypeId) : Option Nat := (P.info? t).map (·.bytes)
def constV (v : Value) : Bool := match v with | .agg cs => cs.toList.all constOK | v => constOK v
def zeroV (P : Program) (t : TypeId) : Option Value := (P.info? t).bind fun i => i.zero.bind fun v => bif constV v then some v else none

/-! ## lists -/
def takeN {α : Type} (n : Nat) : List α → Option (List α) :=
  Nat.rec (motive := fun _ => List α → Option (List α)) (fun _ => some [])
    (fun _ ih l => List.rec (motive := fun _ => Option (List α)) none (fun x l _ => Option.rec (motive := fun _ => Option (List α)) none (fun m => some (x :: m)) (ih l)) l) n
def dropN {α : Type} (n : Nat) : List α → List α :=
  Nat.rec (motive := fun _ => List α → List α) (fun l => l) (fun _ ih l => List.rec (motive := fun _ => List α) [] (fun _ l _ => ih l) l) n
/-- `vs` written over the front of `l`, if it fits. -/
def splice0 {α : Type} (vs : List α) : List α → Option (List α) :=
  List.rec (motive := fun _ => List α → Option (List α)) (fun l => some l)
    (fun v _ ih l => List.rec (motive := fun _ => Option (List α)) none (fun _ l _ => Option.rec (motive := fun _ => Option (List α)) none (fun m => some (v :: m)) (ih l)) l) vs
/-- `vs` written over `l` from `off` on, if it fits. -/
def splice {α : Type} (n : Nat) : List α → List α → Option (List α) :=
  Nat.rec (motive := fun _ => List α → List α → Option (List α)) (fun l vs => splice0 vs l)
    (fun _ ih l vs => List.rec (motive := fun _ => Option (List α)) none (fun x l _ => Option.rec (motive := fun _ => Option (List α)) none (fun m => some (x :: m)) (ih l vs)) l) n
def repN {α : Type} : Nat → List α → List α
  | 0, _ => []
  | n + 1, z => z ++ repN n z

def oneCell : Value → Bool
  | .agg _ | .tuple _ => false
  | _ => true
def cellsOf : Value → List Value
  | .agg cs => cs.toList
  | v => [v]

/-! ## reading and writing -/
def loadCs (σ : St) (a : Addr) (n : Nat) : Option (List Value) :=
  match a.spot with
  | some _ => none
  | none => (σ.row? a.block).bind fun r => takeN n (dropN a.off r.cs)
def loadT (P : Program) (σ : St) (t : TypeId) (a : Addr) : Option Value :=
  match aggN P t, sizeN P t with
  | some true, some n => (loadCs σ a n).map fun cs => .agg cs.toArray
  | some false, some _ => (loadCs σ a 1).bind fun | [v] => some v | _ => none
  | _, _ => none
def storeCs (σ : St) (a : Addr) (vs : List Value) : Option St :=
  match a.spot with
  | some _ => none
  | none => (σ.row? a.block).bind fun r =>
    bif r.ro || Nat.blt a.off r.fz || !(vs.all oneCell) then none
    else (splice a.off r.cs vs).map fun cs => σ.put a.block (.row { r with cs })
def storeT (P : Program) (σ : St) (t : TypeId) (a : Addr) (v : Value) : Option St :=
  (sizeN P t).bind fun n => bif Nat.beq (cellsOf v).length n then storeCs σ a (cellsOf v) else none

def partV (P : Program) (t : TypeId) (cs : List Value) (off : Nat) : Option Value :=
  match aggN P t, sizeN P t with
  | some true, some n => (takeN n (dropN off cs)).map fun l => .agg l.toArray
  | some false, some _ => match dropN off cs with | v :: _ => some v | [] => none
  | _, _ => none

/-- parts written into zero cells -/
def fillN (place : Nat → Option (Nat × Nat)) : List Value → List (Nat × Value) → Option (List Value)
  | cells, [] => some cells
  | cells, (i, v) :: rest =>
    (place i).bind fun (off, size) =>
      bif Nat.beq (cellsOf v).length size then (splice off cells (cellsOf v)).bind fun cs => fillN place cs rest else none

def addrAdd (a : Addr) (n : Nat) : Addr := { a with off := a.off + n }

/-! ## numbers and strings -/
def intOp (op : BinOp) (k : IntKind) (a b : Int) : Option Value :=
  match op with
  | .add => some (.int k (k.wrap (a + b)))
  | .sub => some (.int k (k.wrap (a - b)))
  | .mul => some (.int k (k.wrap (a * b)))
  | .quo => if b = 0 then none else some (.int k (k.wrap (a.tdiv b)))
  | .rem => if b = 0 then none else some (.int k (a.tmod b))
  | .and => some (.int k (k.wrap (BitVec.ofInt k.bits a &&& BitVec.ofInt k.bits b).toNat))
  | .or => some (.int k (k.wrap (BitVec.ofInt k.bits a ||| BitVec.ofInt k.bits b).toNat))
  | .xor => some (.int k (k.wrap (BitVec.ofInt k.bits a ^^^ BitVec.ofInt k.bits b).toNat))
  | .andNot => some (.int k (k.wrap (BitVec.ofInt k.bits a &&& ~~~ BitVec.ofInt k.bits b).toNat))
  | .eql => some (.bool (a == b))
  | .neq => some (.bool (a != b))
  | .lss => some (.bool (a < b))
  | .leq => some (.bool (a ≤ b))
  | .gtr => some (.bool (a > b))
  | .geq => some (.bool (a ≥ b))
  | _ => none
def shiftOp (op : BinOp) (k : IntKind) (x y : Int) : Option Value :=
  if y < 0 then none else
  let n := min y.toNat k.bits
  match op with
  | .shl => some (.int k (k.wrap (x * 2 ^ n)))
  | .shr => some (.int k (x.fdiv (2 ^ n)))
  | _ => none
def strOp (op : BinOp) (x y : ByteArray) : Option Value :=
  match op with
  | .add => bif Nat.ble (x.size + y.size) 9223372036854775807 then some (.string (x ++ y)) else none
  | .eql => some (.bool (x.data.toList == y.data.toList))
  | .neq => some (.bool !(x.data.toList == y.data.toList))
  | .lss => some (.bool (Op.bytesLess x.data.toList y.data.toList))
  | .leq => some (.bool (Op.bytesLess x.data.toList y.data.toList || x.data.toList == y.data.toList))
  | .gtr => some (.bool !(Op.bytesLess x.data.toList y.data.toList || x.data.toList == y.data.toList))
  | .geq => some (.bool !(Op.bytesLess x.data.toList y.data.toList))
  | _ => none

/-- is a pointer's block plain memory that no string shares? -/
def plainBlk (σ : St) (b : Nat) : Bool := match σ.row? b with | some r => Nat.beq r.fz 0 && !r.str && !r.cs.isEmpty && !r.ro | none => false

def eqFields (P : Program) (eq : TypeId → Value → Value → Option Bool) (xs ys : List Value) : List Field → Option Bool
  | [] => some true
  | f :: fs => if f.name = "_" then none else
    match partV P f.type xs f.offset, partV P f.type ys f.offset with
    | some u, some v => (eq f.type u v).bind fun b => bif b then eqFields P eq xs ys fs else some false
    | _, _ => none
/-- equality of two values of a type; pointers by place -/
def eqV (P : Program) (σ : St) : Nat → TypeId → Value → Value → Option Bool
  | 0, _, _, _ => none
  | d + 1, t, x, y =>
    match P.underlying t, x, y with
    | some .bool, .bool a, .bool b => some (a == b)
    | some (.int _), .int k a, .int k' b => if k = k' then some (a == b) else none
    | some .string, .string a, .string b => some (a.data.toList == b.data.toList)
    | some (.pointer _), .pointer none, .pointer b => some b.isNone
    | some (.pointer _), .pointer (some _), .pointer none => some false
    | some (.pointer e), .pointer (some a), .pointer (some b) =>
      match sizeN P e with
      | some (_ + 1) =>
        bif Nat.beq a.block b.block then (match a.spot, b.spot with | none, none => some (Nat.beq a.off b.off) | _, _ => none)
        else bif plainBlk σ a.block && plainBlk σ b.block then some false else none
      | _ => none
    | some (.interface _), .nilIface, .nilIface => some true
    | some (.interface _), .nilIface, .iface _ _ => some false
    | some (.interface _), .iface _ _, .nilIface => some false
    | some (.struct fields), .agg xs, .agg ys =>
      bif P.stoodInHeld t then none else
      eqFields P (eqV P σ d) xs.toList ys.toList fields.toList
    | some (.slice _), .slice none _ _, .slice b _ _ => some b.isNone
    | some (.slice _), .slice (some _) _ _, .slice none _ _ => some false
    | some (.map _ _), .map none, .map b => some b.isNone
    | some (.map _ _), .map (some _), .map none => some false
    | some (.func _ _ _), .nilFunc, .nilFunc => some true
    | some (.func _ _ _), .nilFunc, .func _ _ _ => some false
    | some (.func _ _ _), .func _ _ _, .nilFunc => some false
    | _, _, _ => none

def unV (op : UnOp) (x : Value) : Option Value :=
  match op, x with
  | .neg, .int k n => some (.int k (k.wrap (0 - n)))
  | .not, .bool b => some (.bool !b)
  | _, _ => none

/-! ## slices -/
def bound (x : Option Value) (dflt most : Nat) : Option Nat :=
  match x with
  | none => some dflt
  | some (.int _ i) => if 0 ≤ i ∧ i ≤ most then some i.toNat else none
  | _ => none
/-- is a slice's block there, and, if its end is open, of elements of that type? -/
def fitsElem (P : Program) (σ : St) (a : Addr) (n : Nat) : Bool :=
  match σ.row? a.block with
  | some r => !r.loose || (match sizeN P r.elem with | some m => Nat.beq m n | none => false)
  | none => false
/-- is what lies behind a slice's capacity unknown? -/
def endLoose (r : Blk) (off cap esz : Nat) : Bool := r.loose && Nat.beq (off + cap * esz) r.cs.length
def atEnd (σ : St) (a : Addr) (cap esz : Nat) : Bool := match σ.row? a.block with | some r => endLoose r a.off cap esz | none => true
def sliceV (P : Program) (σ : St) (t : TypeId) (x : Value) (lo hi mx : Option Value) : Option Value :=
  match P.underlying t, x with
  | some .string, .string s =>
    (bound hi s.size s.size).bind fun h => (bound lo 0 h).bind fun l => match mx with | none => some (.string (s.extract l h)) | some _ => none
  | some (.slice e), .slice base len cap =>
    (bound mx cap cap).bind fun m => (match mx, hi with | some _, none => none | _, _ => bound hi len m).bind fun h => (bound lo 0 h).bind fun l =>
    (sizeN P e).bind fun n =>
      match base with
      | none => some (.slice none (h - l) (m - l))
      | some a => bif fitsElem P σ a n then some (bif mx.isSome && Nat.blt l m && atEnd σ a m n then .chan none else .slice (some (addrAdd a (l * n))) (h - l) (m - l)) else none
  | some (.array k e), .pointer (some a) =>
    (bound mx k k).bind fun m => (match mx, hi with | some _, none => none | _, _ => bound hi k m).bind fun h => (bound lo 0 h).bind fun l =>
    (sizeN P e).bind fun n => (σ.row? a.block).bind fun r => bif r.loose then none else some (.slice (some (addrAdd a (l * n))) (h - l) (m - l))
  | _, _ => none

def appendV (σ : St) (e : TypeId) (esz bytes : Nat) (base : Option Addr) (len cap : Nat) (new : List Value) (n : Nat) : Option (Value × St) :=
  bif !(Nat.beq new.length (n * esz)) then none else
  bif Nat.beq n 0 then (bif Nat.ble len cap then some (.slice base len cap, σ) else none) else
  bif !(Nat.ble ((len + n) * bytes) 140737488355328) then none else
  match base with
  | none => bif Nat.beq cap 0 && Nat.beq len 0 then (let (a, σ) := σ.alloc new e true; some (.slice (some a) n n, σ)) else none
  | some a =>
    match a.spot, σ.row? a.block with
    | none, some r =>
      bif Nat.ble (len + n) cap then (storeCs σ (addrAdd a (len * esz)) new).map fun σ => (.slice (some a) (len + n) cap, σ)
      else
        (takeN (len * esz) (dropN a.off r.cs)).bind fun old =>
        bif r.loose && !(Nat.beq r.elem e) then none else
        bif r.loose && (Nat.beq (a.off + cap * esz) r.cs.length) then
          bif Nat.beq len cap && !r.ro && new.all oneCell then
            let (b, σ') := (σ.kill a.block).new (.row { cs := old ++ new, elem := e, loose := true, fz := r.fz - a.off, str := r.str })
            some (.slice (some ⟨b, 0, none⟩) (len + n) (len + n), σ')
          else none
        else let (a, σ) := σ.alloc (old ++ new) e true; some (.slice (some a) (len + n) (len + n), σ)
    | _, _ => none

def bytesV (s : ByteArray) : List Value := s.data.toList.map fun b => .int .u8 b.toNat
def firstV (σ : St) (esz n : Nat) : Value → Option (List Value)
  | .slice (some a) _ _ => loadCs σ a (n * esz)
  | .slice none _ _ => some []
  | .string s => takeN n (bytesV s)
  | _ => none
def lenV : Value → Option Nat
  | .slice _ n _ => some n
  | .string s => some s.size
  | _ => none
def appendX (σ : St) (e : TypeId) (esz bytes : Nat) (base : Option Addr) (len cap : Nat) (x : Value) : Option (Value × St) :=
  (lenV x).bind fun n => (firstV σ esz n x).bind fun new => appendV σ e esz bytes base len cap new n
def unbytes : List Value → Option (List UInt8)
  | [] => some []
  | .int .u8 n :: l => (unbytes l).map (UInt8.ofNat n.toNat :: ·)
  | _ :: _ => none

/-! ## maps -/
def keyEq : TypeDesc → Value → Value → Option Bool
  | .int _, .int k a, .int k' b => if k = k' then some (a == b) else none
  | .string, .string a, .string b => some (a.data.toList == b.data.toList)
  | _, _, _ => none
def findK (kd : TypeDesc) (k : Value) : List MapEntry → Option (Option Value)
  | [] => some none
  | e :: es => match keyEq kd k e.key with
    | some true => some (some e.val)
    | some false => findK kd k es
    | none => none
def setK (kd : TypeDesc) (k v : Value) (clock : Nat) : List MapEntry → Option (List MapEntry × Nat)
  | [] => some ([{ key := k, val := v, born := clock }], clock + 1)
  | e :: es => match keyEq kd k e.key with
    | some true => some ({ e with key := k, val := v } :: es, clock)
    | some false => (setK kd k v clock es).map fun (l, c) => (e :: l, c)
    | none => none
def delK (kd : TypeDesc) (k : Value) : List MapEntry → Option (List MapEntry)
  | [] => some []
  | e :: es => match keyEq kd k e.key with
    | some true => some es
    | some false => (delK kd k es).map (e :: ·)
    | none => none


/-! ## operations -/
abbrev Fr := T Value
def evO (fr : Fr) : Operand → Option Value
  | .tmp t => fr.get t
  | .const v => bif constV v then some v else none
  | .global g => bif Nat.blt g 64 then some (.pointer (some ⟨g, 0, none⟩)) else none
  | .func f => some (.func (.func f) #[] #[])
def evL (fr : Fr) : List Operand → Option (List Value)
  | [] => some []
  | x :: l => (evO fr x).bind fun v => (evL fr l).map (v :: ·)
def evOp (fr : Fr) : Option Operand → Option (Option Value)
  | none => some none
  | some x => (evO fr x).map some
def evPs (fr : Fr) : List (Nat × Operand) → Option (List (Nat × Value))
  | [] => some []
  | (i, x) :: l => (evO fr x).bind fun v => (evPs fr l).map ((i, v) :: ·)

structure Env where
  P : Program
  prim : FuncId → Option (List Value → St → Option (Value × St))
  keep : FuncId → Nat → Option (List Nat)

abbrev CallF := FuncId → List Value → St → Option (Value × St)

def callT (E : Env) (C : CallF) (f : FuncId) (args : List Value) (σ : St) : Option (Value × St) :=
  match E.prim f with
  | some p => p args σ
  | none => C f args σ

def undefV : Value := .tuple #[]
/-- a value of which nothing is known -/
def anyV : Value := .chan none

inductive Kind where
  | pure | read | alc | eff
  deriving DecidableEq, Inhabited

def kindB : Builtin → Kind
  | .len | .cap | .unsafeSliceData => .read
  | .min | .max => .pure
  | _ => .eff
def kindOf (P : Program) : Op → Kind
  | .alloc _ | .box .. | .buildSlice .. | .makeMap .. | .makeSlice .. => .alc
  | .convert s d _ => match P.underlying s, P.underlying d with
    | some .string, some (.slice _) => .alc
    | some (.slice _), some (.slice _) => .eff
    | some (.int _), _ | some .string, _ => .pure
    | _, _ => .read
  | .load .. | .lookup .. | .slice .. => .read
  | .binOp .eql .. | .binOp .neq .. => .read
  | .store .. | .mapUpdate .. | .panic _ => .eff
  | .call c => match c.callee with
    | .builtin b => kindB b
    | _ => .eff
  | _ => .pure

def placesOf (P : Program) : List Field → Option (List (Nat × Nat))
  | [] => some []
  | f :: l => (sizeN P f.type).bind fun n => (placesOf P l).map ((f.offset, n) :: ·)

def bestOf (better : Int → Int → Bool) (k : IntKind) (x : Int) : List Value → Option Int
  | [] => some x
  | .int k' y :: l => if k = k' then bestOf better k (bif better x y then y else x) l else none
  | _ :: _ => none

/-- operations that neither read nor write memory -/
def opPure (P : Program) (op : Op) (fr : Fr) : Option Value :=
  match op with
  | .move x => evO fr x
  | .assign x => evO fr x
  | .pick c a b => (evO fr c).bind fun | .bool true => evO fr a | .bool false => evO fr b | _ => none
  | .build t ps =>
    (evPs fr ps.toList).bind fun ps => (zeroN P t).bind fun z =>
      match P.underlying t with
      | some (.struct fs) => (placesOf P fs.toList).bind fun pl => (fillN (fun i => pl[i]?) z ps).map fun cs => .agg cs.toArray
      | some (.array _ e) => (sizeN P e).bind fun n => (fillN (fun i => some (i * n, n)) z ps).map fun cs => .agg cs.toArray
      | _ => none
  | .nilCheck x => (evO fr x).bind fun
    | .pointer (some a) => some (.pointer (some a))
    | .func (.func f) a b => some (.func (.func f) a b)
    | .iface t v => some (.iface t v)
    | _ => none
  | .binOp op _ x y _ => (evO fr x).bind fun u => (evO fr y).bind fun v =>
    match op, u, v with
    | .shl, .int k a, .int _ b => shiftOp .shl k a b
    | .shr, .int k a, .int _ b => shiftOp .shr k a b
    | op, .int k a, .int k' b => if k = k' then intOp op k a b else none
    | op, .string a, .string b => strOp op a b
    | _, _, _ => none
  | .unOp op _ x => (evO fr x).bind fun v => unV op v
  | .convert s d x => (evO fr x).bind fun v =>
    match P.underlying s, P.underlying d, v with
    | some (.int _), some (.int k), .int _ n => some (.int k (k.wrap n))
    | some .string, some .string, .string b => some (.string b)
    | _, _, _ => none
  | .makeInterface t x => (evO fr x).bind fun v => match P.underlying t with | some (.interface _) => none | some _ => some (.iface t v) | none => none
  | .makeFunc fn a b => (evL fr a.toList).bind fun l => (evL fr b.toList).map fun m => .func fn l.toArray m.toArray
  | .fieldAddr t x i => (evO fr x).bind fun
    | .pointer (some a) =>
      match P.underlying t with
      | some (.struct fs) => (fs.toList[i]?).bind fun f => match sizeN P f.type with | some (_ + 1) => some (.pointer (some (addrAdd a f.offset))) | _ => none
      | _ => none
    | _ => none
  | .field t x i => (evO fr x).bind fun
    | .agg cs =>
      match P.underlying t with
      | some (.struct fs) => (fs.toList[i]?).bind fun f => partV P f.type cs.toList f.offset
      | _ => none
    | _ => none
  | .indexAddr t x ix => (evO fr x).bind fun v => (evO fr ix).bind fun
    | .int _ i =>
      match P.underlying t, v with
      | some (.slice e), .slice (some a) len _ => if 0 ≤ i ∧ i < len then (sizeN P e).map fun n => .pointer (some (addrAdd a (i.toNat * n))) else none
      | some (.array len e), .pointer (some a) => if 0 ≤ i ∧ i < len then (sizeN P e).map fun n => .pointer (some (addrAdd a (i.toNat * n))) else none
      | _, _ => none
    | _ => none
  | .index t x ix => (evO fr x).bind fun v => (evO fr ix).bind fun
    | .int _ i =>
      match P.underlying t, v with
      | some (.array len e), .agg cs => if 0 ≤ i ∧ i < len then (sizeN P e).bind fun n => partV P e cs.toList (i.toNat * n) else none
      | some .string, .string s => if 0 ≤ i then (match dropN i.toNat s.data.toList with | b :: _ => some (.int .u8 b.toNat) | [] => none) else none
      | _, _ => none
    | _ => none
  | .extract x i => (evO fr x).bind fun | .tuple vs => vs.toList[i]? | _ => none
  | .typeAssert x _ t ok => (evO fr x).bind fun
    | .iface u v =>
      match P.underlying t with
      | some (.interface _) => none
      | some _ => if u = t then some (bif ok then .tuple #[v, .bool true] else v) else none
      | none => none
    | _ => none
  | .call c => (evL fr c.args.toList).bind fun args =>
    match c.callee, args with
    | .builtin .max, .int k x :: rest => (bestOf (fun x y => y > x) k x rest).map fun n => .int k n
    | .builtin .min, .int k x :: rest => (bestOf (fun x y => y < x) k x rest).map fun n => .int k n
    | .builtin .max, [.string x, .string y] => some (.string (bif !(Op.bytesLess x.data.toList y.data.toList) then x else y))
    | .builtin .min, [.string x, .string y] => some (.string (bif Op.bytesLess x.data.toList y.data.toList || x.data.toList == y.data.toList then x else y))
    | _, _ => none
  | _ => none

def plainKey : TypeDesc → Bool
  | .int _ | .string => true
  | _ => false
def entriesOf (σ : St) : Value → Option (List MapEntry)
  | .map none => some []
  | .map (some r) => (σ.map? r).map fun (p : List MapEntry × Nat) => p.1
  | _ => none
def lookV (ok : Bool) (z : Value) : Option Value → Value
  | some v => bif ok then .tuple #[v, .bool true] else v
  | none => bif ok then .tuple #[z, .bool false] else z
def readB (P : Program) (σ : St) : Builtin → List TypeId → List Value → Option Value
  | .len, t :: _, [x] =>
    match P.underlying t, x with
    | some .string, .string s => some (.int .i64 s.size)
    | some (.slice _), .slice _ n _ => some (.int .i64 n)
    | some (.array n _), _ => some (.int .i64 n)
    | some (.map _ _), .map none => some (.int .i64 0)
    | some (.map _ _), .map (some r) => (σ.map? r).map fun (p : List MapEntry × Nat) => .int .i64 p.1.length
    | _, _ => none
  | .cap, t :: _, [x] =>
    match P.underlying t, x with
    | some (.slice _), .slice none _ n => some (.int .i64 n)
    | some (.slice e), .slice (some a) _ n =>
      (sizeN P e).bind fun esz => bif fitsElem P σ a esz && !atEnd σ a n esz && !(Nat.beq n 0) then some (.int .i64 n) else none
    | _, _ => none
  | .unsafeSliceData, _, [.slice none _ _] => some (.pointer none)
  | .unsafeSliceData, _, [.slice (some a) _ (_ + 1)] => some (.pointer (some a))
  | _, _, _ => none

/-- operations that read memory -/
def opRead (P : Program) (op : Op) (fr : Fr) (σ : St) : Option Value :=
  match op with
  | .load t a => (evO fr a).bind fun | .pointer (some a) => loadT P σ t a | _ => none
  | .binOp op t x y _ => (evO fr x).bind fun u => (evO fr y).bind fun v =>
    match u, v with
    | .int k a, .int k' b => if k = k' then intOp op k a b else none
    | .string a, .string b => strOp op a b
    | x, y =>
      match op with
      | .eql => bif P.eqGuardType P.depth t then (match x, y with | .nilIface, .nilIface => none | .agg _, .agg _ => none | _, _ => (eqV P σ 40 t x y).map .bool) else (eqV P σ 40 t x y).map .bool
      | .neq => bif P.eqGuardType P.depth t then (match x, y with | .nilIface, .nilIface => none | .agg _, .agg _ => none | _, _ => (eqV P σ 40 t x y).map fun b => .bool !b) else (eqV P σ 40 t x y).map fun b => .bool !b
      | _ => none
  | .convert s d x => (evO fr x).bind fun v =>
    match P.underlying s, P.underlying d, v with
    | some (.slice e), some .string, x =>
      match P.underlying e, x with
      | some (.int .u8), .slice none _ _ => some (.string .empty)
      | some (.int .u8), .slice (some a) n _ => (loadCs σ a n).bind fun cs => (unbytes cs).map fun l => .string ⟨l.toArray⟩
      | _, _ => none
    | some (.pointer u), some .unsafePointer, .pointer (some a) =>
      match a.spot, σ.row? a.block, sizeN P u with
      | none, some r, some (_ + 1) => bif Nat.blt a.off r.cs.length then some (.pointer (some a)) else none
      | _, _, _ => none
    | some .unsafePointer, some (.pointer u), .pointer (some a) =>
      match a.spot, σ.row? a.block, sizeN P u with
      | none, some r, some (n + 1) => bif Nat.beq r.elem u && !r.loose && Nat.beq a.off 0 && Nat.beq r.cs.length (n + 1) then some (.pointer (some a)) else none
      | _, _, _ => none
    | _, _, _ => none
  | .slice t x lo hi mx => (evO fr x).bind fun v => (evOp fr lo).bind fun lo => (evOp fr hi).bind fun hi => (evOp fr mx).bind fun mx => sliceV P σ t v lo hi mx
  | .lookup t x k ok => (evO fr x).bind fun m => (evO fr k).bind fun k =>
    match P.underlying t with
    | some (.map kt et) =>
      (P.underlying kt).bind fun kd => (zeroV P et).bind fun z => (entriesOf σ m).bind fun es => bif plainKey kd then (findK kd k es).map (lookV ok z) else none
    | _ => none
  | .call c => (evL fr c.args.toList).bind fun args => match c.callee with | .builtin b => readB P σ b c.argTypes.toList args | _ => none
  | _ => none

/-- operations that make a block -/
def opAlc (P : Program) (op : Op) (fr : Fr) : Option (AObj × (Nat → Value)) :=
  match op with
  | .alloc e => (zeroN P e).map fun cs => (.row { cs, elem := e }, fun b => .pointer (some ⟨b, 0, none⟩))
  | .box e x => (evO fr x).map fun v => (.row { cs := cellsOf v, elem := e }, fun b => .pointer (some ⟨b, 0, none⟩))
  | .buildSlice t len ps =>
    match P.underlying t with
    | some (.slice e) =>
      (evPs fr ps.toList).bind fun ps => (zeroN P e).bind fun z => (sizeN P e).bind fun n =>
        bif Nat.ble (len * n) 16777216 && Nat.beq z.length n then
          (fillN (fun i => some (i * n, n)) (repN len z) ps).map fun cs => (.row { cs, elem := e }, fun b => .slice (some ⟨b, 0, none⟩) len len)
        else none
    | _ => none
  | .convert s d x => (evO fr x).bind fun v =>
    match P.underlying s, P.underlying d, v with
    | some .string, some (.slice e), .string b =>
      match P.underlying e, sizeN P e with
      | some (.int .u8), some 1 => some (.row { cs := bytesV b, elem := e, loose := true, str := true }, fun k => .slice (some ⟨k, 0, none⟩) b.size b.size)
      | _, _ => none
    | _, _, _ => none
  | .makeMap _ r => match r with
    | none => some (.map [] 0, fun b => .map (some b))
    | some _ => none
  | .makeSlice t l c =>
    match P.underlying t with
    | some (.slice e) =>
      (evO fr l).bind fun l => (evO fr c).bind fun c =>
        match l, c with
        | .int _ l, .int _ c =>
          (bytesN P e).bind fun bytes =>
          if 0 ≤ l ∧ l ≤ c ∧ c ≤ 140737488355328 ∧ c.toNat * bytes ≤ 140737488355328 then
            (zeroN P e).bind fun z => (sizeN P e).bind fun n => bif Nat.beq z.length n then some (.row { cs := repN c.toNat z, elem := e }, fun b => .slice (some ⟨b, 0, none⟩) l.toNat c.toNat) else none
          else none
        | _, _ => none
    | _ => none
  | _ => none

/-- built-in functions that write -/
def builtinE (P : Program) (σ : St) (b : Builtin) (argTypes : List TypeId) (args : List Value) : Option (Value × St) :=
  match b, argTypes, args with
  | .append, st :: xt, [.slice base len cap, x] =>
    match P.underlying st with
    | some (.slice e) =>
      (sizeN P e).bind fun esz => (bytesN P e).bind fun bytes => (zeroN P e).bind fun z =>
      bif Nat.beq esz 0 || Nat.beq bytes 0 || !(Nat.beq z.length esz) then none else
      match xt with
      | [] => appendX σ e esz bytes base len cap x
      | u :: _ => (P.underlying u).bind fun
        | .int _ => (match x with
          | .int _ n => if 0 ≤ n ∧ n.toNat * bytes ≤ 140737488355328 then appendV σ e esz bytes base len cap (repN n.toNat z) n.toNat else none
          | _ => none)
        | _ => appendX σ e esz bytes base len cap x
    | _ => none
  | .copy, dt :: _, [.slice base dlen _, src] =>
    match P.underlying dt with
    | some (.slice e) =>
      (sizeN P e).bind fun esz => (lenV src).bind fun sl =>
        (firstV σ esz (Nat.min sl dlen) src).bind fun cs =>
          match base with
          | none => some (.int .i64 (Nat.min sl dlen : Nat), σ)
          | some a => bif cs.isEmpty then some (.int .i64 (Nat.min sl dlen : Nat), σ) else (storeCs σ a cs).map fun σ => (.int .i64 (Nat.min sl dlen : Nat), σ)
    | _ => none
  | .clear, t :: _, [x] =>
    match P.underlying t, x with
    | some (.slice _), .slice none _ _ => some (undefV, σ)
    | some (.slice _), .slice (some _) 0 _ => some (undefV, σ)
    | some (.slice e), .slice (some a) n _ => (zeroN P e).bind fun z => (storeCs σ a (repN n z)).map fun σ => (undefV, σ)
    | _, _ => none
  | .delete, t :: _, [m, k] =>
    match P.underlying t, m with
    | some (.map kt _), .map (some r) =>
      (P.underlying kt).bind fun kd => bif plainKey kd then (σ.map? r).bind fun (p : List MapEntry × Nat) => (delK kd k p.1).map fun es => (undefV, σ.put r (.map es p.2)) else none
    | _, _ => none
  | .unsafeString, t :: _, [.pointer p, .int _ n] =>
    match p with
    | none => if n = 0 then some (.string .empty, σ) else none
    | some a =>
      if n = 0 then some (.string .empty, σ) else
      match a.spot, σ.row? a.block, P.underlying t with
      | none, some r, some (.pointer e) =>
        match P.underlying e, sizeN P e with
        | some (.int .u8), some 1 =>
          if 0 < n ∧ n ≤ 9223372036854775807 ∧ r.elem = e ∧ r.str = false ∧ r.ro = false then
            (loadCs σ a n.toNat).bind fun cs => (unbytes cs).map fun l =>
              (.string ⟨l.toArray⟩, σ.put a.block (.row { r with fz := Nat.max r.fz (a.off + n.toNat) }))
          else none
        | _, _ => none
      | _, _, _ => none
  | _, _, _ => none

/-- calls -/
def invokeT (E : Env) (C : CallF) (σ : St) (fn : Fn) (captured args : List Value) : Option (Value × St) :=
  match fn with
  | .func f => callT E C f (args ++ captured) σ
  | .method name =>
    match args with
    | .iface t v :: rest =>
      (E.P.info? t).bind fun i => (i.methods.toList.find? (·.name == name)).bind fun m =>
        bif m.path.isEmpty then
          match m.func, E.P.underlying t with
          | some (f, true), some (.pointer _) => callT E C f (v :: rest) σ
          | some (_, false), some (.pointer _) => none
          | some (f, false), some _ => callT E C f (v :: rest) σ
          | _, _ => none
        else none
    | _ => none
  | _ => none

/-- operations that write, and calls -/
def opEff (E : Env) (C : CallF) (op : Op) (fr : Fr) (σ : St) : Option (Value × St) :=
  match op with
  | .store t a x => (evO fr a).bind fun | .pointer (some a) => (evO fr x).bind fun v => (storeT E.P σ t a v).map (undefV, ·) | _ => none
  | .mapUpdate t m k x => (evO fr m).bind fun m => (evO fr k).bind fun k => (evO fr x).bind fun v =>
    match E.P.underlying t, m with
    | some (.map kt _), .map (some r) =>
      (E.P.underlying kt).bind fun kd => bif plainKey kd then (σ.map? r).bind fun (p : List MapEntry × Nat) => (setK kd k v p.2 p.1).map fun (q : List MapEntry × Nat) => (undefV, σ.put r (.map q.1 q.2)) else none
    | _, _ => none
  | .convert s d x => (evO fr x).bind fun v =>
    match E.P.underlying s, E.P.underlying d, v with
    | some (.slice _), some (.slice e), .slice (some a) n c =>
      match E.P.underlying e, σ.row? a.block with
      | some (.int .u8), some r => bif Nat.beq s d && !r.ro && !r.loose && Nat.beq r.fz 0 && !(Nat.beq c 0) then some (.slice (some a) n c, σ.put a.block (.row { r with str := true })) else none
      | _, _ => none
    | _, _, _ => none
  | .call c =>
    (evL fr c.args.toList).bind fun args =>
      match c.callee with
      | .builtin b => builtinE E.P σ b c.argTypes.toList args
      | .invoke r name => (evO fr r).bind fun v => invokeT E C σ (.method name) [] (v :: args)
      | .value f => (evO fr f).bind fun
        | .func fn first captured => invokeT E C σ fn captured.toList (first.toList ++ args)
        | _ => none
  | _ => none

def stepO (E : Env) (C : CallF) (op : Op) (fr : Fr) (σ : St) : Option (Value × St) :=
  match kindOf E.P op with
  | .pure => (opPure E.P op fr).map (·, σ)
  | .read => (opRead E.P op fr σ).map (·, σ)
  | .alc => (opAlc E.P op fr).map fun (o, mk) => (mk σ.nx, (σ.new o).2)
  | .eff => opEff E C op fr σ

def putD (fr : Fr) (dst : Option Nat) (v : Value) : Fr :=
  match dst with
  | some d => fr.set d v
  | none => fr

/-- is an operation's guard open? -/
def wantedO (ops : List Oper) (o : Oper) (fr : Fr) : Option Bool :=
  match o.guard with
  | none => some true
  | some (j, want) =>
    (ops[j]?).bind fun g => g.dst.bind fun t => (fr.get t).bind fun
      | .bool b => some (b == want)
      | .tuple _ => some false
      | _ => none

def runOps (E : Env) (C : CallF) (all : List Oper) : List Oper → Fr → St → Option (Fr × St)
  | [], fr, σ => some (fr, σ)
  | o :: l, fr, σ =>
    (wantedO all o fr).bind fun w =>
      bif w then (stepO E C o.op fr σ).bind fun (p : Value × St) => runOps E C all l (putD fr o.dst p.1) p.2
      else runOps E C all l (putD fr o.dst undefV) σ

/-! ## regions whose order is open -/
structure Ent where
  i : Nat
  op : Bool
  fr : Fr
  σ : St
  v : Value

def maskGo (fr : Fr) : List Nat → Fr → Fr
  | [], acc => acc
  | i :: l, acc => match fr.get i with | some v => maskGo fr l (acc.set i v) | none => maskGo fr l acc
def maskF (keep : Option (List Nat)) (fr : Fr) : Fr := match keep with | none => fr | some k => maskGo fr k .lf

def befB (ops : Array Oper) : List Nat := (Region.before ops).toList
def befQ (B : List Nat) (i j : Nat) : Bool := ((B[i]?).getD 0).testBit j

/-- the variables at which an operation looks -/
def names (o : Oper) : List Nat := o.dst.toList ++ o.op.operands.toList.filterMap fun | .tmp t => some t | _ => none
def guardTmp (all : List Oper) (o : Oper) : List Nat := match o.guard with | some (j, _) => ((all[j]?).bind (·.dst)).toList | none => []
def looksO (all : List Oper) (o : Oper) : List Nat := names o ++ guardTmp all o

def runLog (E : Env) (C : CallF) (all : List Oper) : List Nat → Fr → St → Option (List Ent × Fr × St)
  | [], fr, σ => some ([], fr, σ)
  | i :: l, fr, σ =>
    (all[i]?).bind fun o => (wantedO all o (maskF (some (looksO all o)) fr)).bind fun w =>
      bif w then (stepO E C o.op (maskF (some (looksO all o)) fr) σ).bind fun (p : Value × St) => (runLog E C all l (putD fr o.dst p.1) p.2).map fun (r : List Ent × Fr × St) => ({ i, op := true, fr := maskF (some (looksO all o)) fr, σ, v := p.1 } :: r.1, r.2)
      else (runLog E C all l (putD fr o.dst undefV) σ).map fun (r : List Ent × Fr × St) => ({ i, op := false, fr := maskF (some (looksO all o)) fr, σ, v := undefV } :: r.1, r.2)

def isEff (P : Program) (all : List Oper) (i : Nat) : Bool := match all[i]? with | some o => (match kindOf P o.op with | .eff => true | _ => false) | none => true
def isRead (P : Program) (all : List Oper) (i : Nat) : Bool := match all[i]? with | some o => (match kindOf P o.op with | .read => true | _ => false) | none => false

/-- equality of values, where it can be told -/
def sameL (eq : Value → Value → Bool) : List Value → List Value → Bool
  | [], [] => true
  | x :: l, y :: m => eq x y && sameL eq l m
  | _, _ => false
def sameV : Nat → Value → Value → Bool
  | 0, _, _ => false
  | n + 1, x, y =>
    match x, y with
    | .bool a, .bool b => a == b
    | .int k a, .int k' b => k == k' && a == b
    | .string a, .string b => a.data.toList == b.data.toList
    | .pointer a, .pointer b => a == b
    | .slice a l c, .slice a' l' c' => a == a' && Nat.beq l l' && Nat.beq c c'
    | .map a, .map b => a == b
    | .nilFunc, .nilFunc => true
    | .nilIface, .nilIface => true
    | .iface t v, .iface u w => Nat.beq t u && sameV n v w
    | .func (.func f) a b, .func (.func g) c d => Nat.beq f g && sameL (sameV n) a.toList c.toList && sameL (sameV n) b.toList d.toList
    | .agg a, .agg b => sameL (sameV n) a.toList b.toList
    | .tuple a, .tuple b => sameL (sameV n) a.toList b.toList
    | _, _ => false

/-- what was read is read again -/
def readsAs (P : Program) (all : List Oper) (a : Ent) (σ : St) : Bool := match (all[a.i]?).bind fun o => opRead P o.op a.fr σ with | some v => sameV 40 v a.v | none => false
/-- a value that was read stays as it is, till something happens that must be behind the reading -/
def staysAt (P : Program) (all : List Oper) (B : List Nat) (a : Ent) (σe : St) : List Ent → Bool
  | [] => readsAs P all a σe
  | b :: l => bif isEff P all b.i then readsAs P all a b.σ && (befQ B b.i a.i || staysAt P all B a σe l) else staysAt P all B a σe l
def logOK (P : Program) (all : List Oper) (B : List Nat) (σe : St) : List Ent → Bool
  | [] => true
  | a :: l => (!(a.op && isRead P all a.i) || staysAt P all B a σe l) && logOK P all B σe l

/-- an order: what writes nothing as soon as may be -/
def pickOne (P : Program) (all : List Oper) (B : List Nat) (left : List Nat) (eff : Bool) : List Nat → Option Nat
  | [] => none
  | i :: l => bif (isEff P all i == eff) && left.all (fun j => !befQ B i j) then some i else pickOne P all B left eff l
def planGo (P : Program) (all : List Oper) (B : List Nat) : Nat → List Nat → List Nat
  | 0, _ => []
  | n + 1, left =>
    match pickOne P all B left false left with
    | some i => i :: planGo P all B n (left.filter fun j => !Nat.beq j i)
    | none => match pickOne P all B left true left with
      | some i => i :: planGo P all B n (left.filter fun j => !Nat.beq j i)
      | none => []
def edgeBits (B : List Nat) : List Edge → Nat
  | [] => 0
  | e :: l => bif Region.binds .any e then 2 ^ e.on ||| (B[e.on]?).getD 0 ||| edgeBits B l else edgeBits B l
def goOrder (P : Program) (all : List Oper) (B : List Nat) : List Nat → Bool
  | [] => true
  | i :: l => l.all (fun k => !Nat.beq i k && !befQ B i k && (!isEff P all i || befQ B k i)) && goOrder P all B l
/-- of two operations that touch one variable, one is before the other -/
def apartOK (all : List Oper) (B : List Nat) (i k : Nat) (o : Oper) : Bool :=
  Nat.beq i k || befQ B i k || befQ B k i || (match all[k]? with | some ok => (match ok.dst with | some t => !((looksO all o).contains t) | none => true) | none => false)
def planOK (P : Program) (ops : Array Oper) (B : List Nat) (π : List Nat) : Bool :=
  let all := ops.toList
  let n := all.length
  Nat.ble π.length n && π.all (fun i => Nat.blt i n) && (List.range n).all (fun i => π.contains i) && goOrder P all B π &&
  (List.range n).all (fun i => match all[i]? with
    | none => false
    | some o => o.after.toList.all (fun e => !Region.binds .any e || Nat.blt e.on i) && Nat.beq ((B[i]?).getD 0) (edgeBits B o.after.toList) && (List.range n).all (fun k => apartOK all B i k o))
def planOf (P : Program) (ops : Array Oper) : Option (List Nat) :=
  let all := ops.toList
  let B := befB ops
  let π := planGo P all B all.length (List.range all.length)
  bif planOK P ops B π then some π else none

def runDraw (E : Env) (C : CallF) (ops : Array Oper) (fr : Fr) (σ : St) : Option (Fr × St) :=
  (planOf E.P ops).bind fun π => (runLog E C ops.toList π fr σ).bind fun (r : List Ent × Fr × St) => bif logOK E.P ops.toList (befB ops) r.2.2 r.1 then some r.2 else none

/-- may what is read stay as it was read, whatever order is drawn? -/
def stillOK (P : Program) (all : List Oper) (B : List Nat) : List Nat → Bool
  | [] => true
  | i :: l => (!isRead P all i || l.all (fun j => !isEff P all j || befQ B j i)) && stillOK P all B l
/-- an order of a region in which it may be run as if it were the only one -/
def planS (P : Program) (ops : Array Oper) : Option (List Oper) :=
  (planOf P ops).bind fun π => bif stillOK P ops.toList (befB ops) π then some (π.filterMap fun i => ops.toList[i]?) else none

/-! ## code -/
inductive Ex where
  | nrm
  | exit (id : Nat)
  | ret
  deriving DecidableEq, Inhabited

def loopN (body : Fr → St → Option (Ex × Fr × St)) : Nat → Fr → St → Option (Ex × Fr × St)
  | 0, _, _ => none
  | k + 1, fr, σ =>
    match body fr σ with
    | some (.nrm, fr, σ) => loopN body k fr σ
    | r => r

def headId : Code → Nat
  | .region id _ _ => id
  | .seq a _ => headId a
  | .block _ b => headId b
  | .loop b => headId b
  | _ => 0

def exec (E : Env) (C : CallF) (lf : Nat) (f : FuncId) : Code → Fr → St → Option (Ex × Fr × St)
  | .skip, fr, σ => some (.nrm, fr, σ)
  | .region _ ops draw, fr, σ => bif draw then (match planS E.P ops with | some l => (runOps E C ops.toList l fr σ).map (Ex.nrm, ·) | none => (runDraw E C ops fr σ).map (Ex.nrm, ·)) else (runOps E C ops.toList ops.toList fr σ).map (Ex.nrm, ·)
  | .seq a b, fr, σ =>
    match exec E C lf f a fr σ with
    | some (.nrm, fr, σ) => exec E C lf f b fr σ
    | r => r
  | .cond c a b, fr, σ => (evO fr c).bind fun
    | .bool true => exec E C lf f a fr σ
    | .bool false => exec E C lf f b fr σ
    | _ => none
  | .block id b, fr, σ =>
    match exec E C lf f b fr σ with
    | some (.exit i, fr, σ) => bif Nat.beq i id then some (.nrm, fr, σ) else some (.exit i, fr, σ)
    | r => r
  | .loop b, fr, σ => loopN (fun fr σ => exec E C lf f b (maskF (E.keep f (headId b)) fr) σ) lf fr σ
  | .exit id, fr, σ => some (.exit id, fr, σ)
  | .ret, fr, σ => some (.ret, fr, σ)
  | _, _, _ => none

/-- does each operation write into the frame? -/
def dstOK (n : Nat) : Code → Bool
  | .region _ ops _ => ops.toList.all fun o => match o.dst with | some d => Nat.blt d n | none => true
  | .seq a b => dstOK n a && dstOK n b
  | .cond _ a b => dstOK n a && dstOK n b
  | .block _ b => dstOK n b
  | .loop b => dstOK n b
  | .skip | .exit _ | .ret => true
  | .refuse _ => true
  | _ => false

def resultsV (P : Program) (fr : Fr) (σ : St) : List ResultVar → Option (List Value)
  | [] => some []
  | .tmp t :: l => (fr.get t).bind fun v => (resultsV P fr σ l).map (v :: ·)
  | .cell a t :: l => (fr.get a).bind fun
    | .pointer (some a) => (loadT P σ t a).bind fun v => (resultsV P fr σ l).map (v :: ·)
    | _ => none

def frameOf : Nat → List Value → Fr → Fr
  | _, [], fr => fr
  | i, v :: l, fr => frameOf (i + 1) l (fr.set i v)

def tupleOf : List Value → Value
  | [v] => v
  | vs => .tuple vs.toArray

def fnOK (fn : Func) (c : Code) : Bool := dstOK fn.ntmps c && !(fn.name == "runtime.NumGoroutine")

def callN (E : Env) : Nat → CallF
  | 0, _, _, _ => none
  | k + 1, f, args, σ =>
    (E.P.funcs[f]?).bind fun fn => fn.body.bind fun c =>
      bif fnOK fn c && Nat.ble args.length fn.ntmps then
        match exec E (callN E k) k f c (frameOf 0 args .lf) σ with
        | some (.nrm, fr, σ) => (resultsV E.P fr σ fn.results.toList).map fun vs => (tupleOf vs, σ)
        | some (.ret, fr, σ) => (resultsV E.P fr σ fn.results.toList).map fun vs => (tupleOf vs, σ)
        | _ => none
      else none
end Go.Am
end
