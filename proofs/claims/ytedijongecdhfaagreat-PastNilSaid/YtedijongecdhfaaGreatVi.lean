/-
  An abstract interpreter of loaded code, proved to tell the truth; a part of the proof that redpencillaw48.PastNil returns true, whatever the input.
-/
import Derived.RangeFuncLeaves
namespace Option
/-- 'bind' and 'map' by the recursor outright. -/
noncomputable def ob {α β : Type} (o : Option α) (f : α → Option β) : Option β := Option.rec none f o
noncomputable def om {α β : Type} (o : Option α) (f : α → β) : Option β := Option.rec none (fun a => some (f a)) o
end Option

namespace Go.VI
open Go

noncomputable def bc {α : Type} (c : Bool) (a b : α) : α := Bool.rec b a c
noncomputable def nth {α : Type} (l : List α) : Nat → Option α := List.rec (fun _ => none) (fun x _ go n => Nat.rec (some x) (fun m _ => go m) n) l

/-- An abstract one-cell value. 'lit': a value without a live address that is none of the three plain kinds (the nil ones; what is only handed on). -/
inductive SV where
  | int (k : IntKind) (n : Int)
  | bool (b : Bool)
  | str (s : ByteArray)
  | lit (v : Value)
  | ptr (id ep off : Nat)
  | sl (id ep off len : Nat)
  | slz
  | mp (id : Nat)
  | fn (f : Fn) (caps : List SV)
  deriving Inhabited

inductive TV where
  | one (x : SV)
  | agg (cs : List SV)
  | tup (l : List TV)
  deriving Inhabited

/-- Cells by numbers: a tree by the numbers' bits. -/
inductive Tr (α : Type) where
  | nil
  | node (l : Tr α) (v : Option α) (r : Tr α)
  deriving Inhabited

noncomputable def Tr.get {α : Type} (t : Tr α) : Nat → Option α :=
  Tr.rec (fun _ => none) (fun _ v _ gl gr n => bc ( Nat.beq n 0 ) ( v ) <| bc ( Nat.beq (Nat.mod n 2) 1 ) ( gl (Nat.div n 2) ) <| gr (Nat.sub (Nat.div n 2) 1)) t

noncomputable def Tr.put {α : Type} (x : α) : Nat → Tr α → Nat → Tr α :=
  Nat.rec (fun t _ => t) (fun _ p t n => match t with
    | .nil => bc ( Nat.beq n 0 ) ( .node .nil (some x) .nil ) <| bc ( Nat.beq (Nat.mod n 2) 1 ) ( .node (p .nil (Nat.div n 2)) none .nil ) <| .node .nil none (p .nil (Nat.sub (Nat.div n 2) 1))
    | .node l v r => bc ( Nat.beq n 0 ) ( .node l (some x) r ) <| bc ( Nat.beq (Nat.mod n 2) 1 ) ( .node (p l (Nat.div n 2)) v r ) <| .node l v (p r (Nat.sub (Nat.div n 2) 1)))

noncomputable def Tr.set {α : Type} (t : Tr α) (n : Nat) (x : α) : Tr α := Tr.put x (Nat.succ n) t n

noncomputable def und : TV := .tup []

/-- An activation's temporaries. -/
structure Fr where
  n : Nat
  t : Tr TV
  ms : List Nat
  rd : Bool
  deriving Inhabited

noncomputable def Fr.get (f : Fr) (i : Nat) : Option TV := bc ( Nat.blt i f.n ) ( some ((f.t.get i).getD und) ) <| none
noncomputable def Fr.set (f : Fr) (i : Nat) (v : TV) : Fr := { n := f.n, t := f.t.set i v, ms := f.ms, rd := f.rd }
noncomputable def Fr.setL (f : Fr) : List Nat → List TV → Fr
  | i :: is, v :: vs => (f.set i v).setL is vs
  | _, _ => f
noncomputable def setFrom (t : Tr TV) (i : Nat) : List TV → Tr TV
  | [] => t
  | v :: vs => setFrom (t.set i v) (i + 1) vs
noncomputable def Fr.init (l : List TV) (n : Nat) : Fr := { n := bc ( Nat.blt n l.length ) ( l.length ) <| n, t := setFrom .nil 0 l, ms := [], rd := false }

inductive AO where
  | arr (ep : Nat) (elem : TypeId) (cells : List SV)
  | map (es : List (TV × TV × Nat)) (clock : Nat)
  | mit (m : Option Nat) (since : Nat) (seen : List Nat) (stepped : Nat)
  | loop (st : LoopState) (pend : Option Code) (tmps : Fr) (params : List Tmp) (asg body : Code) (dfr : Nat)
  | dfr (open_ : Bool)
  deriving Inhabited

structure Hp where
  t : Tr AO
  n : Nat
  low : Nat
  deriving Inhabited

noncomputable def Hp.get (h : Hp) (id : Nat) : Option AO := bc ( Nat.blt id h.n ) ( h.t.get id ) <| none
noncomputable def Hp.new (h : Hp) (o : AO) : Hp := { t := h.t.set h.n o, n := h.n + 1, low := h.low }
noncomputable def Hp.set (h : Hp) (id : Nat) (o : AO) : Hp := { t := h.t.set id o, n := h.n, low := bc ( Nat.blt id h.low ) ( id ) <| h.low }

inductive K where
  | int (k : IntKind) | bool | str | slice (e : TypeId) | map (k e : TypeId) | struct (fs : List (Nat × TypeId)) | ptr | func | other
  deriving Inhabited

structure TI where
  k : K
  size : Nat
  bytes : Nat
  zero : List SV
  flat : Bool
  deriving Inhabited

noncomputable def K.isAgg : K → Bool | .struct _ => true | _ => false
noncomputable def K.slice? : K → Option TypeId | .slice e => some e | _ => none
noncomputable def K.map? : K → Option (TypeId × TypeId) | .map k e => some (k, e) | _ => none
noncomputable def K.struct? : K → Option (List (Nat × TypeId)) | .struct fs => some fs | _ => none
noncomputable def K.int? : K → Option IntKind | .int k => some k | _ => none

abbrev Tab := TypeId → Option TI

noncomputable def bl (b : Bool) : TV := .one (.bool b)
noncomputable def it (n : Int) : TV := .one (.int .i64 n)
noncomputable def TV.cells : TV → Option (List SV)
  | .one x => some [x] | .agg cs => some cs | .tup _ => none
noncomputable def TV.one? : TV → Option SV | .one x => some x | _ => none
noncomputable def TV.agg? : TV → Option (List SV) | .agg x => some x | _ => none
noncomputable def SV.bool? : SV → Option Bool | .bool b => some b | _ => none
noncomputable def SV.nat? : SV → Option Nat | .int _ (.ofNat n) => some n | _ => none
noncomputable def TV.bool? (x : TV) : Option Bool := x.one?.ob SV.bool?
noncomputable def TV.nat? (x : TV) : Option Nat := x.one?.ob SV.nat?

noncomputable def ikN : IntKind → Nat
  | .i8 => 0 | .i16 => 1 | .i32 => 2 | .i64 => 3 | .u8 => 4 | .u16 => 5 | .u32 => 6 | .u64 => 7
noncomputable def ikEq (a b : IntKind) : Bool := Nat.beq (ikN a) (ikN b)
noncomputable def ltI : Int → Int → Bool
  | .ofNat a, .ofNat b => Nat.blt a b
  | .ofNat _, .negSucc _ => false
  | .negSucc _, .ofNat _ => true
  | .negSucc a, .negSucc b => Nat.blt b a
noncomputable def eqI : Int → Int → Bool
  | .ofNat a, .ofNat b => Nat.beq a b
  | .negSucc a, .negSucc b => Nat.beq a b
  | _, _ => false
/-- The bound of a kind's numbers, upwards and downwards, where it is looked at. -/
noncomputable def kHi : IntKind → Nat
  | .i64 => 9223372036854775808 | .i32 => 2147483648 | .u8 => 256 | .u64 => 18446744073709551616 | _ => 0
noncomputable def kLo : IntKind → Nat
  | .i64 => 9223372036854775808 | .i32 => 2147483648 | _ => 0
noncomputable def wrS (k : IntKind) : Int → Int
  | .ofNat a => bc ( Nat.blt a (kHi k) ) ( .ofNat a ) <| k.wrap (.ofNat a)
  | .negSucc a => bc ( Nat.blt a (kLo k) ) ( .negSucc a ) <| k.wrap (.negSucc a)

/-- A constant's cell. -/
noncomputable def liftS : Value → SV
  | .int k n => .int k n
  | .bool b => .bool b
  | .string s => .str s
  | v => .lit v

noncomputable def oneC (v : Value) : Bool := match v with | .agg _ => false | .tuple _ => false | _ => true
noncomputable def oneCs (l : List Value) : Bool := List.rec true (fun v _ r => bc (oneC v) r false) l
noncomputable def constO (v : Value) : Option TV :=
  match v with
  | .agg cs => bc (oneCs cs.toList) (some (.agg (cs.toList.map liftS))) none
  | .tuple _ => none
  | v => some (.one (liftS v))

noncomputable def evalO (ts : Fr) (o : Operand) : Option TV :=
  Operand.casesOn o ts.get constO (fun _ => none) (fun f => some (.one (.fn (.func f) [])))

noncomputable def setAt (l : List SV) (off : Nat) : List SV → List SV
  | [] => l
  | c :: cs => setAt (l.set off c) (off + 1) cs

noncomputable def ii (k : IntKind) (n : Int) : Option SV := some (.int k (wrS k n))
noncomputable def bb (b : Bool) : Option SV := some (.bool b)
noncomputable def i_quo (k : IntKind) (x y : Int) : Option SV := bc ( eqI y 0 ) ( none ) <| ii k (x.tdiv y)
noncomputable def i_rem (k : IntKind) (x y : Int) : Option SV := bc ( eqI y 0 ) ( none ) <| some (.int k (x.tmod y))
noncomputable def i_and (k : IntKind) (x y : Int) : Option SV := ii k (BitVec.ofInt k.bits x &&& BitVec.ofInt k.bits y).toNat
noncomputable def i_or (k : IntKind) (x y : Int) : Option SV := ii k (BitVec.ofInt k.bits x ||| BitVec.ofInt k.bits y).toNat
noncomputable def i_xor (k : IntKind) (x y : Int) : Option SV := ii k (BitVec.ofInt k.bits x ^^^ BitVec.ofInt k.bits y).toNat
noncomputable def i_andNot (k : IntKind) (x y : Int) : Option SV := ii k (BitVec.ofInt k.bits x &&& ~~~BitVec.ofInt k.bits y).toNat
noncomputable def i_shl (k : IntKind) (x y : Int) : Option SV := bc ( ltI y 0 ) ( none ) <| ii k (x * 2 ^ (min y.toNat k.bits))
noncomputable def i_shr (k : IntKind) (x y : Int) : Option SV := bc ( ltI y 0 ) ( none ) <| some (.int k (x.fdiv (2 ^ (min y.toNat k.bits))))

noncomputable def intOp (op : BinOp) (k : IntKind) (x y : Int) : Option SV :=
  match op with
  | .add => ii k (x + y)
  | .sub => ii k (x - y)
  | .mul => ii k (x * y)
  | .quo => i_quo k x y
  | .rem => i_rem k x y
  | .eql => bb (eqI x y)
  | .neq => bb (!eqI x y)
  | .lss => bb (ltI x y)
  | .leq => bb (!ltI y x)
  | .gtr => bb (ltI y x)
  | .geq => bb (!ltI x y)
  | .and => i_and k x y
  | .or => i_or k x y
  | .xor => i_xor k x y
  | .andNot => i_andNot k x y
  | .shl => i_shl k x y
  | .shr => i_shr k x y

noncomputable def isShift : BinOp → Bool | .shl => true | .shr => true | _ => false

noncomputable def strOp (op : BinOp) (x y : ByteArray) : Option SV :=
  match op with
  | .add => bc ( Nat.blt (x.size + y.size) 9223372036854775808 ) ( some (.str (x ++ y)) ) <| none
  | .eql => bb (x.toList == y.toList)
  | .neq => bb (!(x.toList == y.toList))
  | _ => none

noncomputable def eqOp (op : BinOp) (b : Option Bool) : Option SV :=
  match op, b with
  | .eql, some b => some (.bool b)
  | .neq, some b => some (.bool !b)
  | _, _ => none

/-- Equality of two plain cells, if it can be told. -/
noncomputable def eqS (x y : SV) : Option Bool :=
  match x with
  | .int k a => match y with | .int k' b => bc ( ikEq k k' ) ( some (eqI a b) ) <| none | _ => none
  | .bool a => match y with | .bool b => some (a == b) | _ => none
  | .str a => match y with | .str b => some (a == b) | _ => none
  | _ => none

noncomputable def eqC : List SV → List SV → Option Bool
  | [], [] => some true
  | x :: xs, y :: ys => match eqS x y, eqC xs ys with
    | some a, some b => some (a && b)
    | _, _ => none
  | _, _ => none

noncomputable def nilV : Value → Option Bool
  | .pointer none => some true
  | .slice none _ _ => some true
  | .map none => some true
  | .nilFunc => some true
  | _ => none
noncomputable def isNil : SV → Option Bool
  | .lit v => nilV v
  | .ptr .. => some false
  | .sl .. => some false
  | .mp .. => some false
  | .fn .. => some false
  | _ => none

noncomputable def eqN (x y : Option Bool) : Option Bool :=
  match x, y with
  | some true, some c => some c
  | some false, some true => some false
  | _, _ => none

/-- The types whose values are held against nil, and bool. -/
noncomputable def tagK (k : K) : Nat := match k with | .ptr => 1 | .slice _ => 2 | .map _ _ => 3 | .func => 4 | .bool => 5 | _ => 0
noncomputable def tagV (v : Value) : Nat := match v with | .pointer none => 1 | .slice none _ _ => 2 | .map none => 3 | .nilFunc => 4 | _ => 0
noncomputable def tagS (x : SV) : Nat := match x with | .ptr .. => 1 | .sl .. => 2 | .mp .. => 3 | .fn .. => 4 | .lit v => tagV v | _ => 0

noncomputable def binN (tg : Nat) (op : BinOp) (x y : SV) : Option SV :=
  bc (Nat.blt 0 tg) (bc (Nat.beq (tagS x) tg) (bc (Nat.beq (tagS y) tg) (eqOp op (eqN (isNil x) (isNil y))) none) none) none
noncomputable def binI (op : BinOp) (k : IntKind) (a : Int) (y : SV) : Option SV := match y with
  | .int k' b => bc (bc (ikEq k k') true (isShift op)) (intOp op k a b) none
  | _ => none
noncomputable def binB (tg : Nat) (op : BinOp) (a : Bool) (y : SV) : Option SV := match y with
  | .bool b => bc (Nat.beq tg 5) (eqOp op (some (a == b))) none
  | _ => none
noncomputable def binT (op : BinOp) (a : ByteArray) (y : SV) : Option SV := match y with
  | .str b => strOp op a b
  | _ => none
noncomputable def binS (tg : Nat) (op : BinOp) (x y : SV) : Option SV :=
  match x with
  | .int k a => binI op k a y
  | .bool a => binB tg op a y
  | .str a => binT op a y
  | x => binN tg op x y

/-- Cells of the kinds of a type's zero cells. -/
noncomputable def kindC (x z : SV) : Bool := match x with
  | .int k _ => (match z with | .int k' _ => ikEq k k' | _ => false)
  | .bool _ => (match z with | .bool _ => true | _ => false)
  | .str _ => (match z with | .str _ => true | _ => false)
  | _ => false
noncomputable def kindsC (l : List SV) : List SV → Bool := List.rec (fun m => match m with | [] => true | _ => false) (fun x _ go m => match m with | z :: zs => bc (kindC x z) (go zs) false | [] => false) l

noncomputable def binA (ti : TI) (op : BinOp) (xs ys : List SV) : Option SV :=
  bc ti.flat (bc ti.k.isAgg (bc (kindsC xs ti.zero) (bc (kindsC ys ti.zero) (eqOp op (eqC xs ys)) none) none) none) none
noncomputable def binO (ti : TI) (op : BinOp) (x y : TV) : Option TV :=
  match x with
  | .one a => (match y with | .one b => (binS (tagK ti.k) op a b).om .one | _ => none)
  | .agg xs => (match y with | .agg ys => (binA ti op xs ys).om .one | _ => none)
  | _ => none

noncomputable def unS (op : UnOp) (x : SV) : Option SV :=
  match op with
  | .neg => match x with | .int k n => ii k (0 - n) | _ => none
  | .not => match x with | .bool b => some (.bool !b) | _ => none
  | _ => none

noncomputable def arr? (h : Hp) (id ep : Nat) : Option (TypeId × List SV) :=
  match h.get id with
  | some (.arr ep' e cells) => bc ( Nat.beq ep ep' ) ( some (e, cells) ) <| none
  | _ => none

noncomputable def map? (h : Hp) (id : Nat) : Option (List (TV × TV × Nat) × Nat) :=
  match h.get id with
  | some (.map es c) => some (es, c)
  | _ => none

noncomputable def loadC (ti : TI) (off : Nat) (cells : List SV) : Option TV :=
  bc ( ti.k.isAgg ) ( (bc ( Nat.ble (off + ti.size) cells.length ) ( some (.agg ((cells.drop off).take ti.size)) ) <| none)
  ) <| (nth cells off).om .one

noncomputable def loadS (ti : TI) (h : Hp) (a : SV) : Option TV :=
  match a with
  | .ptr id ep off => (arr? h id ep).ob fun c => loadC ti off c.2
  | _ => none

noncomputable def loadAt (T : Tab) (t : TypeId) (a : TV) (h : Hp) : Option TV :=
  (T t).ob fun ti => a.one?.ob (loadS ti h)

noncomputable def storeS (size : Nat) (cs : List SV) (h : Hp) (a : SV) : Option Hp :=
  match a with
  | .ptr id ep off => (arr? h id ep).ob fun c =>
      bc ( Nat.beq cs.length size && Nat.ble (off + cs.length) c.2.length ) ( some (h.set id (.arr ep c.1 (setAt c.2 off cs))) ) <| none
  | _ => none

noncomputable def storeAt (T : Tab) (t : TypeId) (a x : TV) (h : Hp) : Option Hp :=
  (T t).ob fun ti => x.cells.ob fun cs => a.one?.ob (storeS ti.size cs h)

/-- The parts of a struct or of a row of elements put into cells. -/
noncomputable def fillP (place : Nat → Option (Nat × Nat)) (l : List (Nat × TV)) : List SV → Option (List SV) :=
  List.rec (fun cells => some cells) (fun p _ go cells => (place p.1).ob fun q => p.2.cells.ob fun cs =>
    bc ( Nat.beq cs.length q.2 && Nat.ble (q.1 + q.2) cells.length ) ( go (setAt cells q.1 cs) ) <| none) l

noncomputable def repCells (z : List SV) (n : Nat) : List SV := Nat.rec [] (fun _ r => z ++ r) n

noncomputable def evalL (ρ : Operand → Option TV) (l : List (Nat × Operand)) : Option (List (Nat × TV)) :=
  List.rec (some []) (fun p _ r => (ρ p.2).ob fun v => r.ob fun vs => some ((p.1, v) :: vs)) l

noncomputable def evalA (ρ : Operand → Option TV) (l : List Operand) : Option (List TV) :=
  List.rec (some []) (fun x _ r => (ρ x).ob fun v => r.ob fun vs => some (v :: vs)) l

noncomputable def litLen : Value → Option Nat
  | .slice _ n _ => some n
  | _ => none
noncomputable def lenS : SV → Option Nat
  | .sl _ _ _ n => some n
  | .slz => some 0
  | .str s => some s.size
  | .lit v => litLen v
  | _ => none
noncomputable def isNilSl : Value → Bool
  | .slice none 0 0 => true
  | _ => false

noncomputable def rowS (h : Hp) (size : Nat) : SV → Option (List SV)
  | .sl id ep off len => (arr? h id ep).ob fun c => bc ( Nat.ble (off + len * size) c.2.length ) ( some ((c.2.drop off).take (len * size)) ) <| none
  | .slz => some []
  | .lit v => bc ( isNilSl v ) ( some [] ) <| none
  | _ => none

abbrev Env := Operand → Option TV
/-- What an operation comes to: its value, and the memory where it has turned. -/
abbrev Ro := Option (TV × Option Hp)

noncomputable def maxRoom : Nat := 70368744177664

noncomputable def appNew (e bytes : Nat) (s : SV) (news : List SV) (n : Nat) (h : Hp) : Ro :=
  bc ( Nat.beq n 0 ) ( some (.one s, none) ) <|
  bc ( Nat.blt n 9223372036854775808 && Nat.ble (n * bytes) maxRoom ) ( some (.one (.sl h.n 0 0 n), h.new (.arr 0 e news)) ) <| none

/-- append: the row that was appended to has moved on (its age is one more). -/
noncomputable def appS (e : TypeId) (te : TI) (s : SV) (news : List SV) (n : Nat) (h : Hp) : Ro :=
  match s with
  | .sl id ep off len => (arr? h id ep).ob fun c =>
      bc ( Nat.beq off 0 && Nat.beq c.1 e && Nat.ble (len * te.size) c.2.length && Nat.blt (len + n) 9223372036854775808 && Nat.ble ((len + n) * te.bytes) maxRoom ) (
        some (.one (.sl id (ep + 1) 0 (len + n)), some (h.set id (.arr (ep + 1) e (c.2.take (len * te.size) ++ news))))
      ) <| none
  | .slz => appNew e te.bytes .slz news n h
  | .lit v => bc ( isNilSl v ) ( appNew e te.bytes (.lit v) news n h ) <| none
  | _ => none

noncomputable def appO (e : TypeId) (te : TI) (s : TV) (news : List SV) (n : Nat) (h : Hp) : Ro :=
  bc ( Nat.blt 0 te.size && Nat.beq news.length (n * te.size) ) ( s.one?.ob fun s => appS e te s news n h ) <| none

/-- A map's key, of a plain type. -/
noncomputable def keyK (k : K) (x : SV) : Option (List SV) := match k with
  | .int _ => (match x with | .int _ _ => some [x] | _ => none)
  | .bool => (match x with | .bool _ => some [x] | _ => none)
  | .str => (match x with | .str _ => some [x] | _ => none)
  | _ => none
noncomputable def keyO (ti : TI) (v : TV) : Option (List SV) := match v with
  | .one x => keyK ti.k x
  | .agg xs => bc ti.flat (bc ti.k.isAgg (bc (kindsC xs ti.zero) (some xs) none) none) none
  | .tup _ => none

noncomputable def findE (tk : TI) (k : List SV) (l : List (TV × TV × Nat)) : Nat → Option (Option (Nat × TV)) :=
  List.rec (fun _ => some none) (fun p _ go i => ((keyO tk p.1).ob (eqC k)).ob fun b => bc ( b ) ( some (some (i, p.2.1)) ) <| go (i + 1)) l

noncomputable def zeroOf (ti : TI) : Option TV := bc ( ti.k.isAgg ) ( some (.agg ti.zero) ) <| (nth ti.zero 0).om .one


noncomputable def keep (v : Option TV) : Ro := v.om fun v => (v, none)
noncomputable def x_pick (ρ : Env) (c a b : Operand) : Ro := ((ρ c).ob TV.bool?).ob fun t => keep (bc ( t ) ( ρ a ) <| ρ b)
noncomputable def x_alloc (T : Tab) (h : Hp) (t : TypeId) : Ro := (T t).ob fun ti => some (.one (.ptr h.n 0 0), some (h.new (.arr 0 t ti.zero)))
noncomputable def x_box (ρ : Env) (h : Hp) (t : TypeId) (x : Operand) : Ro := ((ρ x).ob TV.cells).ob fun cs => some (.one (.ptr h.n 0 0), some (h.new (.arr 0 t cs)))
noncomputable def placeS (T : Tab) (fs : List (Nat × TypeId)) (i : Nat) : Option (Nat × Nat) := (nth fs i).ob fun f => (T f.2).om fun tf => (f.1, tf.size)
noncomputable def x_build (T : Tab) (ρ : Env) (t : TypeId) (ps : Array (Nat × Operand)) : Ro :=
  (T t).ob fun ti => ti.k.struct?.ob fun fs => (evalL ρ ps.toList).ob fun vs => (fillP (placeS T fs) vs ti.zero).ob fun cs => some (.agg cs, none)
noncomputable def x_buildSlice (T : Tab) (ρ : Env) (h : Hp) (t : TypeId) (len : Nat) (ps : Array (Nat × Operand)) : Ro :=
  (T t).ob fun ti => ti.k.slice?.ob fun e => (T e).ob fun te => (evalL ρ ps.toList).ob fun vs =>
    bc ( Nat.ble (len * te.size) 16777216 ) ( (fillP (fun i => some (i * te.size, te.size)) vs (repCells te.zero len)).ob fun cs => some (.one (.sl h.n 0 0 len), h.new (.arr 0 e cs)) ) <| none
noncomputable def x_load (T : Tab) (ρ : Env) (h : Hp) (t : TypeId) (a : Operand) : Ro := keep ((ρ a).ob fun a => loadAt T t a h)
noncomputable def x_store (T : Tab) (ρ : Env) (h : Hp) (t : TypeId) (a x : Operand) : Ro :=
  (ρ a).ob fun a => (ρ x).ob fun x => (storeAt T t a x h).ob fun h => some (und, some h)
noncomputable def x_nilCheck (ρ : Env) (x : Operand) : Ro := ((ρ x).ob TV.one?).ob fun s => (isNil s).ob fun b => bc ( b ) ( none ) <| some (.one s, none)
noncomputable def flatT (T : Tab) (t : TypeId) : Bool := match T t with | some ti => ti.flat | none => false
noncomputable def x_binOp (T : Tab) (ρ : Env) (op : BinOp) (t : TypeId) (x y : Operand) : Ro := (T t).ob fun ti => (ρ x).ob fun x => (ρ y).ob fun y => keep (binO ti op x y)
noncomputable def x_unOp (ρ : Env) (op : UnOp) (x : Operand) : Ro := ((ρ x).ob TV.one?).ob fun x => keep ((unS op x).om .one)
noncomputable def runesB (cs : List SV) : ByteArray → Option ByteArray :=
  List.rec (fun b => some b) (fun c _ go b => match c with | .int .i32 n => go (b ++ Utf8.encode n) | _ => none) cs
noncomputable def convS (T : Tab) (ts td : TI) (h : Hp) (x : SV) : Option SV :=
  match x with
  | .int _ n => td.k.int?.ob fun k => ii k n
  | .str s => match td.k with | .str => some (.str s) | _ => none
  | x => match td.k with
    | .str => ts.k.slice?.ob fun e => (T e).ob fun te => match te.k with
      | .int .i32 => (rowS h 1 x).ob fun cs => (runesB cs .empty).om .str
      | _ => none
    | _ => none
noncomputable def x_convert (T : Tab) (ρ : Env) (h : Hp) (src dst : TypeId) (x : Operand) : Ro :=
  (T src).ob fun ts => (T dst).ob fun td => ((ρ x).ob TV.one?).ob fun x => keep ((convS T ts td h x).om .one)
noncomputable def plainS (x : SV) : Option SV := match x with | .fn _ _ => none | x => some x
noncomputable def onesL (l : List TV) : Option (List SV) := List.rec (some []) (fun v _ r => (v.one?.ob plainS).ob fun x => r.ob fun xs => some (x :: xs)) l
noncomputable def x_makeFunc (ρ : Env) (f : Fn) (first captured : Array Operand) : Ro :=
  match f with
  | .func k => bc ( Nat.beq first.size 0 ) ( ((evalA ρ captured.toList).ob onesL).ob fun cs => some (.one (.fn (.func k) cs), none) ) <| none
  | _ => none
noncomputable def hintO (T : Tab) (ρ : Env) (t : TypeId) (r : Option Operand) : Option Unit := match r with
  | none => some ()
  | some x => (T t).ob fun ti => ti.k.map?.ob fun _ => ((ρ x).ob TV.nat?).ob fun _ => some ()
noncomputable def x_makeMap (T : Tab) (ρ : Env) (h : Hp) (t : TypeId) (r : Option Operand) : Ro := (hintO T ρ t r).ob fun _ => some (.one (.mp h.n), some (h.new (.map [] 0)))
noncomputable def natO (ρ : Env) (d : Nat) (x : Option Operand) : Option Nat := match x with | none => some d | some x => (ρ x).ob TV.nat?
noncomputable def eltB (h : Hp) (id : Nat) (e : TypeId) : Bool := match h.get id with | some (.arr _ e' _) => Nat.beq e' e | _ => false
noncomputable def cutS (T : Tab) (h : Hp) (ti : TI) (s : SV) (l hh : Nat) (mx : Option Nat) : Option SV :=
  match s with
  | .sl id ep off _ => ti.k.slice?.ob fun e => (T e).ob fun te => match mx with
    | none => bc (eltB h id e) (some (.sl id ep (off + l * te.size) (hh - l))) none
    | some m => bc ( Nat.beq m 0 ) ( some .slz ) <| none
  | .str s => (match ti.k with | .str => (match mx with | none => some (.str (s.extract l hh)) | some _ => none) | _ => none)
  | .slz => ti.k.slice?.ob fun e => (T e).ob fun _ => some .slz
  | .lit v => bc ( isNilSl v ) ( ti.k.slice?.ob fun e => (T e).ob fun _ => some (.lit v) ) <| none
  | _ => none
noncomputable def x_slice (T : Tab) (ρ : Env) (h : Hp) (t : TypeId) (x : Operand) (lo hi mx : Option Operand) : Ro :=
  (T t).ob fun ti => ((ρ x).ob TV.one?).ob fun s => (lenS s).ob fun len =>
  (natO ρ 0 lo).ob fun l => (natO ρ len hi).ob fun hh => (match mx with | none => some none | some x => hi.ob fun _ => ((ρ x).ob TV.nat?).om some).ob fun m =>
    bc ( Nat.ble l hh && Nat.ble hh len && (match m with | none => true | some m => Nat.ble hh m && Nat.ble m len) ) ( keep ((cutS T h ti s l hh m).om .one) ) <| none
noncomputable def ptrAdd (s : SV) (o : Nat) : Option SV := match s with | .ptr id ep off => some (.ptr id ep (off + o)) | _ => none
noncomputable def x_fieldAddr (T : Tab) (ρ : Env) (t : TypeId) (x : Operand) (f : Nat) : Ro :=
  (T t).ob fun ti => ti.k.struct?.ob fun fs => (nth fs f).ob fun q => (T q.2).ob fun tf => bc ( Nat.beq tf.size 0 ) ( none ) <|
    ((ρ x).ob TV.one?).ob fun s => keep ((ptrAdd s q.1).om .one)
noncomputable def idxS (s : SV) (i size : Nat) : Option SV := match s with | .sl id ep off len => bc ( Nat.blt i len ) ( some (.ptr id ep (off + i * size)) ) <| none | _ => none
noncomputable def x_indexAddr (T : Tab) (ρ : Env) (t : TypeId) (x i : Operand) : Ro :=
  (T t).ob fun ti => ti.k.slice?.ob fun e => (T e).ob fun te => ((ρ x).ob TV.one?).ob fun s => ((ρ i).ob TV.nat?).ob fun i => keep ((idxS s i te.size).om .one)
noncomputable def strIx (i : Nat) (s : SV) : Option SV := match s with | .str s => (s[i]?).om fun b => .int .u8 (b.toNat : Nat) | _ => none
noncomputable def x_index (T : Tab) (ρ : Env) (t : TypeId) (x i : Operand) : Ro :=
  (T t).ob fun ti => match ti.k with
    | .str => ((ρ i).ob TV.nat?).ob fun i => ((ρ x).ob TV.one?).ob fun s => keep ((strIx i s).om .one)
    | _ => none
noncomputable def isNilMap : Value → Bool | .map none => true | _ => false
noncomputable def entriesS (h : Hp) (s : SV) : Option (List (TV × TV × Nat)) :=
  match s with
  | .mp r => (map? h r).om (·.1)
  | .lit v => bc ( isNilMap v ) ( some [] ) <| none
  | _ => none
noncomputable def x_lookup (T : Tab) (ρ : Env) (h : Hp) (t : TypeId) (m k : Operand) (ok : Bool) : Ro :=
  (T t).ob fun ti => ti.k.map?.ob fun e => (T e.1).ob fun tk => (T e.2).ob fun te => ((ρ m).ob TV.one?).ob fun s => (entriesS h s).ob fun es => ((ρ k).ob (keyO tk)).ob fun k =>
  (findE tk k es 0).ob fun r => (match r with | some q => some (q.2, true) | none => (zeroOf te).om fun z => (z, false)).ob fun q => some (bc ok (.tup [q.1, bl q.2]) q.1, none)
noncomputable def SV.mp? : SV → Option Nat | .mp r => some r | _ => none
noncomputable def bornAt (es : List (TV × TV × Nat)) (i : Nat) : Nat := match nth es i with | some e => e.2.2 | none => 0
noncomputable def x_update (T : Tab) (ρ : Env) (h : Hp) (t : TypeId) (m k x : Operand) : Ro :=
  (T t).ob fun ti => ti.k.map?.ob fun e => (T e.1).ob fun tk => (((ρ m).ob TV.one?).ob SV.mp?).ob fun r => (map? h r).ob fun q => (ρ k).ob fun kv => (keyO tk kv).ob fun kc => (ρ x).ob fun v => v.cells.ob fun _ =>
  (findE tk kc q.1 0).ob fun f => match f with
    | some p => some (und, some (h.set r (.map (q.1.set p.1 (kv, v, bornAt q.1 p.1)) q.2)))
    | none => some (und, some (h.set r (.map (q.1 ++ [(kv, v, q.2)]) (q.2 + 1))))
noncomputable def x_range (T : Tab) (ρ : Env) (h : Hp) (t : TypeId) (x : Operand) : Ro :=
  (T t).ob fun ti => ti.k.map?.ob fun _ => ((ρ x).ob TV.one?).ob fun s => match s with
    | .mp r => (map? h r).ob fun q => some (.one (.ptr h.n 0 0), some (h.new (.mit (some r) q.2 [] q.2)))
    | .lit v => bc ( isNilMap v ) ( some (.one (.ptr h.n 0 0), some (h.new (.mit none 0 [] 0))) ) <| none
    | _ => none
noncomputable def mit? (h : Hp) (s : SV) : Option (Nat × Option Nat × Nat × List Nat × Nat) :=
  match s with
  | .ptr id 0 0 => match h.get id with
    | some (.mit m since seen st) => some (id, m, since, seen, st)
    | _ => none
  | _ => none
noncomputable def x_next (ρ : Env) (h : Hp) (x : Operand) (isStr : Bool) : Ro :=
  bc ( isStr ) ( none ) <|
  (((ρ x).ob TV.one?).ob (mit? h)).ob fun q => match q.2.1 with
    | none => some (.tup [bl false], none)
    | some m => (map? h m).ob fun es =>
      bc ( bc (Nat.ble q.2.2.1 q.2.2.2.2) (es.1.all (fun e => Nat.blt e.2.2 q.2.2.1)) false ) (
        match es.1.filter (fun e => !q.2.2.2.1.contains e.2.2) with
        | [] => some (.tup [bl false], none)
        | [e] => some (.tup [bl true, e.1, e.2.1], some (h.set q.1 (.mit (some m) q.2.2.1 (q.2.2.2.1 ++ [e.2.2]) es.2)))
        | _ => none
      ) <| none
noncomputable def x_entry (ρ : Env) (h : Hp) (x : Operand) : Ro :=
  (((ρ x).ob TV.one?).ob (mit? h)).ob fun q => q.2.1.ob fun m => (map? h m).ob fun es => q.2.2.2.1.getLast?.ob fun b =>
    bc ( Nat.beq es.2 q.2.2.2.2 ) ( (es.1.find? (fun e => Nat.beq e.2.2 b)).ob fun e => some (.tup [e.1, e.2.1], none) ) <| none
noncomputable def x_extract (ρ : Env) (t : Operand) (i : Nat) : Ro := (ρ t).ob fun v => match v with | .tup l => keep (nth l i) | _ => none

noncomputable def mapLen (h : Hp) (x : SV) : Option Nat := match x with
  | .mp r => (map? h r).om fun q => q.1.length
  | .lit v => bc ( isNilMap v ) ( some 0 ) none
  | _ => none
noncomputable def slLen (x : SV) : Option Nat := match x with
  | .sl _ _ _ n => some n
  | .slz => some 0
  | .lit v => litLen v
  | _ => none
noncomputable def strLen (x : SV) : Option Nat := match x with
  | .str s => some s.size
  | _ => none
noncomputable def lenK (h : Hp) (k : K) (x : SV) : Option Nat := match k with
  | .slice _ => slLen x
  | .str => strLen x
  | .map _ _ => mapLen h x
  | _ => none
noncomputable def b_len (T : Tab) (t : TypeId) (h : Hp) (x : SV) : Ro := (T t).ob fun ti => keep ((lenK h ti.k x).om fun n => it n)
noncomputable def b_append (T : Tab) (t t' : TypeId) (s x : TV) (h : Hp) : Ro :=
  (T t).ob fun ti => ti.k.slice?.ob fun e => (T e).ob fun te => (T t').ob fun tx => match tx.k with
    | .int _ => x.nat?.ob fun n => bc ( Nat.blt n 9223372036854775808 && Nat.ble (n * te.bytes) maxRoom ) ( appO e te s (repCells te.zero n) n h ) <| none
    | .slice _ => x.one?.ob fun y => (lenS y).ob fun n => (rowS h te.size y).ob fun cs => appO e te s cs n h
    | _ => none
noncomputable def clrS (te : TI) (h : Hp) (s : SV) : Ro := match s with
  | .sl id ep off len => (arr? h id ep).ob fun c => bc ( Nat.ble (off + len * te.size) c.2.length && Nat.beq te.zero.length te.size ) ( some (und, some (h.set id (.arr ep c.1 (setAt c.2 off (repCells te.zero len))))) ) <| none
  | .slz => some (und, none)
  | .lit v => bc ( isNilSl v ) ( some (und, none) ) <| none
  | _ => none
noncomputable def b_clear (T : Tab) (t : TypeId) (x : SV) (h : Hp) : Ro := (T t).ob fun ti => ti.k.slice?.ob fun e => (T e).ob fun te => clrS te h x
noncomputable def minS (x y : SV) : Option SV := match x with | .int k a => (match y with | .int k' b => bc ( ikEq k k' ) ( some (.int k (bc ( ltI b a ) ( b ) <| a)) ) <| none | _ => none) | _ => none
noncomputable def maxS (x y : SV) : Option SV := match x with | .int k a => (match y with | .int k' b => bc ( ikEq k k' ) ( some (.int k (bc ( ltI a b ) ( b ) <| a)) ) <| none | _ => none) | _ => none
noncomputable def capS (x : SV) : Option Nat := match x with | .lit v => bc ( isNilSl v ) ( some 0 ) <| none | .slz => some 0 | _ => none
noncomputable def b_cap (T : Tab) (t : TypeId) (x : SV) : Ro := (T t).ob fun ti => ti.k.slice?.ob fun _ => keep ((capS x).om fun n => it n)

noncomputable def builtO (T : Tab) (b : Builtin) (tys : List TypeId) (args : List TV) (h : Hp) : Ro :=
  match b, tys, args with
  | .len, [t], [x] => x.one?.ob (b_len T t h)
  | .append, [t, t'], [s, x] => b_append T t t' s x h
  | .cap, [t], [x] => x.one?.ob (b_cap T t)
  | .clear, [t], [x] => x.one?.ob fun x => b_clear T t x h
  | .min, _, [x, y] => x.one?.ob fun x => y.one?.ob fun y => keep ((minS x y).om .one)
  | .max, _, [x, y] => x.one?.ob fun x => y.one?.ob fun y => keep ((maxS x y).om .one)
  | _, _, _ => none

inductive Ex where
  | normal | ret | exit (id : Nat)
  deriving Inhabited

/-- What a run comes to: of code: how it was left; of a call: its value, and the memory where what lay before has turned or new memory is handed back. -/
inductive Out where
  | code (e : Ex) (ts : Fr) (h : Hp)
  | val (v : TV) (h : Option Hp)

inductive Job where
  | code (c : Code) (ts : Fr) (h : Hp)
  | call (f : FuncId) (args : List TV) (h : Hp)
  | round (l : Nat) (args : List TV) (h : Hp)

abbrev Res := Option Out
abbrev Funs := FuncId → Option Func

noncomputable def outV (r : Res) : Ro := match r with | some (.val v h) => some (v, h) | _ => none
noncomputable def callF (run : Job → Res) (args : List TV) (h : Hp) (f : Fn) (caps : List SV) : Ro := match f with
  | .func g => outV (run (.call g (args ++ caps.map .one) h))
  | .yield l => outV (run (.round l args h))
  | _ => none
noncomputable def callS (run : Job → Res) (args : List TV) (h : Hp) (s : SV) : Ro := match s with | .fn f caps => callF run args h f caps | _ => none
noncomputable def callG (run : Job → Res) (args : List TV) (h : Hp) (s : SV) : Ro := match s with
  | .fn f caps => (match f with | .func g => outV (run (.call g (args ++ caps.map .one) h)) | _ => none)
  | _ => none
noncomputable def callC (T : Tab) (run : Job → Res) (ρ : Env) (h : Hp) (tys : Array TypeId) (args : List TV) (c : Callee) : Ro :=
  match c with
  | .value f => ((ρ f).ob TV.one?).ob (callS run args h)
  | .builtin b => builtO T b tys.toList args h
  | .invoke _ _ => none
noncomputable def x_call (T : Tab) (run : Job → Res) (ρ : Env) (h : Hp) (c : Call) : Ro :=
  (evalA ρ c.args.toList).ob fun args => callC T run ρ h c.argTypes args c.callee

/-- All that an operation looks at. -/
structure Cx where
  T : Tab
  run : Job → Res
  ts : Fr
  h : Hp

noncomputable def y_move (c : Cx) (x : Operand) : Ro := keep (evalO c.ts x)
noncomputable def y_assign (c : Cx) (x : Operand) : Ro := keep (evalO c.ts x)
noncomputable def y_pick (c : Cx) (a b d : Operand) : Ro := x_pick (evalO c.ts) a b d
noncomputable def y_alloc (c : Cx) (t : TypeId) : Ro := x_alloc c.T c.h t
noncomputable def y_box (c : Cx) (t : TypeId) (x : Operand) : Ro := x_box (evalO c.ts) c.h t x
noncomputable def y_build (c : Cx) (t : TypeId) (ps : Array (Nat × Operand)) : Ro := x_build c.T (evalO c.ts) t ps
noncomputable def y_buildSlice (c : Cx) (t : TypeId) (l : Nat) (ps : Array (Nat × Operand)) : Ro := x_buildSlice c.T (evalO c.ts) c.h t l ps
noncomputable def y_insert (c : Cx) (t : TypeId) (m k x : Operand) : Ro := x_update c.T (evalO c.ts) c.h t m k x
noncomputable def y_load (c : Cx) (t : TypeId) (a : Operand) : Ro := x_load c.T (evalO c.ts) c.h t a
noncomputable def y_store (c : Cx) (t : TypeId) (a x : Operand) : Ro := x_store c.T (evalO c.ts) c.h t a x
noncomputable def y_nilCheck (c : Cx) (x : Operand) : Ro := x_nilCheck (evalO c.ts) x
noncomputable def y_binOp (c : Cx) (op : BinOp) (t : TypeId) (x y : Operand) (_ : TypeId) : Ro := x_binOp c.T (evalO c.ts) op t x y
noncomputable def y_unOp (c : Cx) (op : UnOp) (_ : TypeId) (x : Operand) : Ro := x_unOp (evalO c.ts) op x
noncomputable def y_convert (c : Cx) (s d : TypeId) (x : Operand) : Ro := x_convert c.T (evalO c.ts) c.h s d x
noncomputable def y_makeFunc (c : Cx) (f : Fn) (a b : Array Operand) : Ro := x_makeFunc (evalO c.ts) f a b
noncomputable def y_makeMap (c : Cx) (t : TypeId) (r : Option Operand) : Ro := x_makeMap c.T (evalO c.ts) c.h t r
noncomputable def y_slice (c : Cx) (t : TypeId) (x : Operand) (lo hi mx : Option Operand) : Ro := x_slice c.T (evalO c.ts) c.h t x lo hi mx
noncomputable def y_fieldAddr (c : Cx) (t : TypeId) (x : Operand) (f : Nat) : Ro := x_fieldAddr c.T (evalO c.ts) t x f
noncomputable def y_indexAddr (c : Cx) (t : TypeId) (x i : Operand) : Ro := x_indexAddr c.T (evalO c.ts) t x i
noncomputable def y_index (c : Cx) (t : TypeId) (x i : Operand) : Ro := x_index c.T (evalO c.ts) t x i
noncomputable def y_lookup (c : Cx) (t : TypeId) (m k : Operand) (ok : Bool) : Ro := x_lookup c.T (evalO c.ts) c.h t m k ok
noncomputable def y_mapUpdate (c : Cx) (t : TypeId) (m k x : Operand) : Ro := x_update c.T (evalO c.ts) c.h t m k x
noncomputable def y_range (c : Cx) (t : TypeId) (x : Operand) : Ro := x_range c.T (evalO c.ts) c.h t x
noncomputable def y_next (c : Cx) (x : Operand) (s : Bool) : Ro := x_next (evalO c.ts) c.h x s
noncomputable def y_entry (c : Cx) (x : Operand) : Ro := x_entry (evalO c.ts) c.h x
noncomputable def y_extract (c : Cx) (t : Operand) (i : Nat) : Ro := x_extract (evalO c.ts) t i
noncomputable def y_call (c : Cx) (q : Call) : Ro := x_call c.T c.run (evalO c.ts) c.h q

noncomputable def execO (c : Cx) (o : Op) : Ro :=
  Op.casesOn o (y_move c) (y_assign c) (y_pick c) (y_alloc c) (y_box c) (y_build c) (y_buildSlice c) (y_insert c) (y_load c) (y_store c) (fun _ => none) (fun _ => none) (y_nilCheck c) (y_binOp c) (y_unOp c) (y_convert c) (fun _ _ => none) (fun _ _ => none) (y_makeFunc c) (y_makeMap c) (fun _ _ => none) (fun _ _ _ => none) (y_slice c) (y_fieldAddr c) (fun _ _ _ => none) (y_indexAddr c) (y_index c) (y_lookup c) (y_mapUpdate c) (fun _ _ _ => none) (fun _ _ _ _ => none) (y_range c) (y_next c) (y_entry c) (fun _ _ _ _ => none) (y_extract c) (y_call c) (fun _ => none) (fun _ => none) (fun _ => none) (fun _ _ => none) (fun _ _ _ => none) (fun _ _ => none)


noncomputable def refsBelow (n : Nat) (x : SV) : Bool := match x with
  | .ptr id _ _ => Nat.blt id n | .sl id _ _ _ => Nat.blt id n | .mp id => Nat.blt id n
  | .fn _ _ => false
  | _ => true

noncomputable def belowC (n : Nat) (l : List SV) : Bool := List.rec true (fun x _ r => bc (refsBelow n x) r false) l
noncomputable def below1 (n : Nat) (x : TV) : Bool := match x with
  | .one x => refsBelow n x
  | .agg cs => belowC n cs
  | .tup _ => false
noncomputable def belowT (n : Nat) (x : TV) : Bool := match x with
  | .one x => refsBelow n x
  | .agg cs => belowC n cs
  | .tup l => List.rec true (fun x _ r => bc (below1 n x) r false) l

noncomputable def resultsO (T : Tab) (h : Hp) (ts : Fr) (l : List ResultVar) : Option (List TV) :=
  List.rec (some []) (fun r _ go => (match r with
    | .tmp t => ts.get t
    | .cell a t => (ts.get a).ob fun p => loadAt T t p h).ob fun v => go.ob fun vs => some (v :: vs)) l

noncomputable def putT (ts : Fr) (d : Option Tmp) (v : TV) : Fr := match d with | some d => ts.set d v | none => ts

/-- What an operation's guard says: 'none' where it cannot be told. -/
noncomputable def guardV (want : Bool) (v : TV) : Option Bool := match v with
  | .one x => x.bool?.om fun b => bc b want (!want)
  | .agg _ => none
  | .tup _ => some false
noncomputable def guardB (ops : List Oper) (ts : Fr) (g : Nat × Bool) : Option Bool :=
  ((nth ops g.1).ob (·.dst)).ob fun d => (ts.get d).ob (guardV g.2)
noncomputable def wantedO (ops : List Oper) (ts : Fr) (g : Option (Nat × Bool)) : Option Bool :=
  match g with
  | none => some true
  | some g => guardB ops ts g

/-- One operation of a region: its value, and the memory where it has turned. -/
noncomputable def stepV (T : Tab) (run : Job → Res) (ops : List Oper) (o : Oper) (ts : Fr) (h : Hp) : Ro :=
  (wantedO ops ts o.guard).ob fun b => bc b (execO { T := T, run := run, ts := ts, h := h } o.op) (some (und, none))

noncomputable def orH (h : Hp) (o : Option Hp) : Hp := match o with | some h => h | none => h

/-- A region in its order of text. -/
noncomputable def opsO (T : Tab) (run : Job → Res) (ops l : List Oper) : Fr → Hp → Option (Fr × Hp) :=
  List.rec (fun ts h => some (ts, h)) (fun o _ go ts h => (stepV T run ops o ts h).ob fun q => go (putT ts o.dst q.1) (orH h q.2)) l

/-! A region that draws its order -/

noncomputable def isPure : Op → Bool
  | .move _ => true | .assign _ => true | .pick .. => true | .nilCheck _ => true | .binOp .. => true | .unOp .. => true | .extract .. => true
  | .fieldAddr .. => true | .indexAddr .. => true | .index .. => true | .build .. => true | .makeFunc .. => true
  | _ => false
noncomputable def isRdCall : Callee → Bool
  | .builtin .len => true | .builtin .cap => true | .builtin .min => true | .builtin .max => true
  | _ => false
/-- Operations that read memory and leave it. -/
noncomputable def isRd : Op → Bool
  | .load .. => true | .lookup .. => true | .convert .. => true | .slice .. => true
  | .call c => isRdCall c.callee
  | _ => false

noncomputable def bindsE (e : Edge) : Bool := match e.ground with | .textOnly _ => false | .gcOnly _ => false | _ => true
noncomputable def memb (x : Nat) (l : List Nat) : Bool := List.rec false (fun y _ r => bc (Nat.beq x y) true r) l
noncomputable def addL (l acc : List Nat) : List Nat := List.rec acc (fun y _ r => bc (memb y r) r (y :: r)) l
/-- Of each operation those that must have come before it; 'done': the lists of the operations ahead. -/
noncomputable def ancE (done : List (List Nat)) (l : List Edge) : List Nat :=
  List.rec [] (fun e _ r => bc (bindsE e) (addL (e.on :: (nth done e.on).getD []) r) r) l
noncomputable def ancs (l : List Oper) : List (List Nat) → List (List Nat) :=
  List.rec (fun done => done) (fun o _ go done => go (done ++ [ancE done o.after.toList])) l

noncomputable def ordB (A : List (List Nat)) (i j : Nat) : Bool := bc (memb i ((nth A j).getD [])) true (memb j ((nth A i).getD []))

noncomputable def dstEq (a b : Option Tmp) : Bool := match a with
  | some x => (match b with | some y => Nat.beq x y | none => false)
  | none => false
noncomputable def usesT (t : Tmp) (l : List Operand) : Bool := List.rec false (fun x _ r => match x with | .tmp u => bc (Nat.beq t u) true r | _ => r) l
noncomputable def guardT (ops : List Oper) (o : Oper) (t : Tmp) : Bool := match o.guard with
  | some g => (match (nth ops g.1).ob (·.dst) with | some u => Nat.beq t u | none => false)
  | none => false
/-- Whether one operation's result is looked at by another. -/
noncomputable def looksB (ops : List Oper) (p q : Oper) : Bool := match p.dst with
  | some t => bc (usesT t q.op.operands.toList) true (guardT ops q t)
  | none => false

/-- Two operations of a region may stand side by side. -/
noncomputable def pairB (ops : List Oper) (A : List (List Nat)) (i : Nat) (p : Oper) (j : Nat) (q : Oper) : Bool :=
  bc (dstEq p.dst q.dst) false
  (bc (ordB A i j) true
  (bc (looksB ops p q) false (bc (looksB ops q p) false true)))
noncomputable def kindB (A : List (List Nat)) (i : Nat) (p : Oper) (j : Nat) (q : Oper) : Bool :=
  bc (ordB A i j) true (bc (isPure p.op) true (bc (isPure q.op) true (bc (isRd p.op) (isRd q.op) false)))

noncomputable def allP (f : Nat → Oper → Bool) (l : List Oper) : Nat → Bool := List.rec (fun _ => true) (fun o _ go i => bc (f i o) (go (i + 1)) false) l
/-- All pairs of a list, the elder first. -/
noncomputable def allPP (f : Nat → Oper → Nat → Oper → Bool) (l : List Oper) : Nat → Bool :=
  List.rec (fun _ => true) (fun o r go i => bc (allP (f i o) r (i + 1)) (go (i + 1)) false) l

noncomputable def edgesB (n : Nat) (l : List Edge) : Bool := List.rec true (fun e _ r => bc (bindsE e) (bc (Nat.blt e.on n) r false) r) l
noncomputable def guardOk (A : List (List Nat)) (i : Nat) (o : Oper) : Bool := match o.guard with | none => true | some g => memb g.1 ((nth A i).getD [])
noncomputable def noSelect (o : Op) : Bool := match o with | .select .. => false | _ => true
noncomputable def shapeB (ops : List Oper) : Bool :=
  bc (allP (fun i o => bc (edgesB i o.after.toList) (bc (guardOk (ancs ops []) i o) (noSelect o.op) false) false) ops 0) (allPP (pairB ops (ancs ops [])) ops 0) false
noncomputable def simpleB (ops : List Oper) : Bool := allPP (kindB (ancs ops [])) ops 0

/-- What is kept of an operation that was carried out: the temporaries and the memory ahead of it, its value, whether memory turned. -/
structure Rec where
  o : Oper
  ts : Fr
  h : Hp
  v : TV
  md : Bool

noncomputable def recs (T : Tab) (run : Job → Res) (ops l : List Oper) : Fr → Hp → Option (List Rec × Fr × Hp) :=
  List.rec (fun ts h => some ([], ts, h)) (fun o _ go ts h => (stepV T run ops o ts h).ob fun q =>
    (go (putT ts o.dst q.1) (orH h q.2)).ob fun r => some ({ o := o, ts := ts, h := h, v := q.1, md := q.2.isSome } :: r.1, r.2)) l

noncomputable def eqVlit (a b : Value) : Bool := match a with
  | .pointer none => (match b with | .pointer none => true | _ => false)
  | .slice none 0 0 => (match b with | .slice none 0 0 => true | _ => false)
  | .map none => (match b with | .map none => true | _ => false)
  | .nilFunc => (match b with | .nilFunc => true | _ => false)
  | _ => false
noncomputable def eqSV (a b : SV) : Bool := match a with
  | .int k x => (match b with | .int k' y => bc (ikEq k k') (eqI x y) false | _ => false)
  | .bool x => (match b with | .bool y => x == y | _ => false)
  | .ptr i e o => (match b with | .ptr i' e' o' => bc (Nat.beq i i') (bc (Nat.beq e e') (Nat.beq o o') false) false | _ => false)
  | .sl i e o l => (match b with | .sl i' e' o' l' => bc (Nat.beq i i') (bc (Nat.beq e e') (bc (Nat.beq o o') (Nat.beq l l') false) false) false | _ => false)
  | .slz => (match b with | .slz => true | _ => false)
  | .mp i => (match b with | .mp i' => Nat.beq i i' | _ => false)
  | .lit v => (match b with | .lit v' => eqVlit v v' | _ => false)
  | _ => false
noncomputable def eqCs (l : List SV) : List SV → Bool := List.rec (fun m => match m with | [] => true | _ => false) (fun x _ go m => match m with | y :: ys => bc (eqSV x y) (go ys) false | [] => false) l
noncomputable def eqT1 (a b : TV) : Bool := match a with
  | .one x => (match b with | .one y => eqSV x y | _ => false)
  | .agg x => (match b with | .agg y => eqCs x y | _ => false)
  | .tup _ => false
noncomputable def eqTs (l : List TV) : List TV → Bool := List.rec (fun m => match m with | [] => true | _ => false) (fun x _ go m => match m with | y :: ys => bc (eqT1 x y) (go ys) false | [] => false) l
noncomputable def eqTV (a b : TV) : Bool := match a with
  | .tup l => (match b with | .tup m => eqTs l m | _ => false)
  | a => eqT1 a b

noncomputable def sameAt (T : Tab) (run : Job → Res) (ops : List Oper) (r : Rec) (h : Hp) : Bool := match stepV T run ops r.o r.ts h with
  | some q => (match q.2 with | none => eqTV q.1 r.v | some _ => false)
  | none => false
/-- Two operations that may come in either order. 'h', 'h1': the memory ahead of the one that turns it, and behind. -/
noncomputable def swapB (T : Tab) (run : Job → Res) (ops : List Oper) (A : List (List Nat)) (nxt : Nat → Hp) (i : Nat) (p : Rec) (j : Nat) (q : Rec) : Bool :=
  bc (ordB A i j) true
  (bc p.md (bc q.md false (bc (isPure q.o.op) true (bc (sameAt T run ops q p.h) (sameAt T run ops q (nxt i)) false)))
  (bc q.md (bc (isPure p.o.op) true (bc (sameAt T run ops p q.h) (sameAt T run ops p (nxt j)) false)) true))
noncomputable def allR (f : Nat → Rec → Bool) (l : List Rec) : Nat → Bool := List.rec (fun _ => true) (fun o _ go i => bc (f i o) (go (i + 1)) false) l
noncomputable def allRR (f : Nat → Rec → Nat → Rec → Bool) (l : List Rec) : Nat → Bool :=
  List.rec (fun _ => true) (fun o r go i => bc (allR (f i o) r (i + 1)) (go (i + 1)) false) l
noncomputable def nextH (l : List Rec) (hl : Hp) (i : Nat) : Hp := match nth l (i + 1) with | some r => r.h | none => hl

noncomputable def drawO (T : Tab) (run : Job → Res) (ops : List Oper) (ts : Fr) (h : Hp) : Option (Fr × Hp) :=
  bc (shapeB ops) (bc (simpleB ops) (opsO T run ops ops ts h)
    ((recs T run ops ops ts h).ob fun r => bc (allRR (swapB T run ops (ancs ops []) (nextH r.1 r.2.2)) r.1 0) (some r.2) none)) none

noncomputable def c_seq (run : Job → Res) (b : Code) (r : Res) : Res := match r with
  | some (.code .normal ts h) => run (.code b ts h)
  | r => r
noncomputable def c_block (id : Nat) (r : Res) : Res := match r with
  | some (.code (.exit i) ts h) => some (.code (bc (Nat.beq i id) .normal (.exit i)) ts h)
  | r => r
noncomputable def endLoop (run : Job → Res) (l : Nat) (ts : Fr) (h : Hp) : Res := match h.get l with
  | some (.loop st pend tmps ps asg body d) => match st with
    | .busy => none
    | _ => match pend with
      | none => some (.code .normal ts (h.set l (.loop .exhausted pend tmps ps asg body d)))
      | some c => run (.code c ts (h.set l (.loop .exhausted pend tmps ps asg body d)))
  | _ => none
/-- A range over a function: the block for the rounds' deferred calls; the loop's record; the one call; the pending jump. -/
noncomputable def c_rangeFunc (run : Job → Res) (ts : Fr) (h : Hp) (f : Operand) (params : Array Tmp) (asg body : Code) : Res :=
  bc ts.rd none (((evalO ts f).ob TV.one?).ob fun s =>
    (fun h2 => (callG run [.one (.fn (.yield (h.n + 1)) [])] h2 s).ob fun q => endLoop run (h.n + 1) { n := ts.n, t := ts.t, ms := h.n :: ts.ms, rd := ts.rd } (orH h2 q.2))
      ((h.new (.dfr true)).new (.loop .ready none { n := ts.n, t := ts.t, ms := [], rd := true } params.toList asg body h.n)))

noncomputable def z_region (c : Cx) (ops : Array Oper) (draw : Bool) : Res :=
  (bc draw (drawO c.T c.run ops.toList c.ts c.h) (opsO c.T c.run ops.toList ops.toList c.ts c.h)).ob fun q => some (.code .normal q.1 q.2)
noncomputable def z_cond (c : Cx) (x : Operand) (a b : Code) : Res := ((evalO c.ts x).ob TV.bool?).ob fun t => c.run (.code (bc t a b) c.ts c.h)
noncomputable def codeStep (c : Cx) (x : Code) : Res :=
  Code.casesOn x (some (.code .normal c.ts c.h)) (fun _ ops d => z_region c ops d) (fun a b => c_seq c.run b (c.run (.code a c.ts c.h))) (z_cond c)
    (fun id b => c_block id (c.run (.code b c.ts c.h))) (fun b => c_seq c.run (.loop b) (c.run (.code b c.ts c.h))) (fun f ps a b => c_rangeFunc c.run c.ts c.h f ps a b)
    (fun id => some (.code (.exit id) c.ts c.h)) (fun _ => none) (fun _ => none) (fun _ => none) (some (.code .ret c.ts c.h)) (fun _ => none)

noncomputable def noTup (l : List TV) : Bool := List.rec true (fun v _ r => match v with | .tup _ => false | _ => r) l
noncomputable def tupO (l : List TV) : Option TV := match l with
  | [] => some (.tup [])
  | v :: r => (match r with | [] => some v | _ => bc (noTup (v :: r)) (some (.tup (v :: r))) none)
/-- The marks of an activation: its blocks for deferred calls are shut. -/
noncomputable def shutM (ms : List Nat) : Hp → Hp := List.rec (fun h => h) (fun d _ go h => go (h.set d (.dfr false))) ms
noncomputable def marksB (ms : List Nat) (h : Hp) : Bool := List.rec true (fun d _ r => match h.get d with | some (.dfr b) => bc b r false | _ => false) ms
/-- What the call laid is let go, where nothing that lay before has turned and nothing of it is handed back. -/
noncomputable def letGo (h0 h : Hp) (v : TV) : Option Hp :=
  bc (Nat.ble h0.n h.low) (bc (belowT h0.n v) none (some { t := h.t, n := h.n, low := h0.low }))
    (some { t := h.t, n := h.n, low := bc (Nat.blt h0.low h.low) h0.low h.low })
noncomputable def nodupB (ms : List Nat) : Bool := List.rec true (fun d r go => bc (memb d r) false go) ms
noncomputable def retH (T : Tab) (fn : Func) (h0 : Hp) (ts : Fr) (h : Hp) : Res :=
  (resultsO T h ts fn.results.toList).ob fun vs => (tupO vs).ob fun v => some (.val v (letGo h0 h v))
noncomputable def retO (T : Tab) (fn : Func) (h0 : Hp) (ts : Fr) (h : Hp) : Res :=
  bc (marksB ts.ms h) (bc (nodupB ts.ms) (retH T fn h0 ts (shutM ts.ms h)) none) none
noncomputable def callStep (B : Funs) (T : Tab) (run : Job → Res) (f : FuncId) (args : List TV) (h : Hp) : Res :=
  (B f).ob fun fn => fn.body.ob fun c => match run (.code c (.init args fn.ntmps) { t := h.t, n := h.n, low := h.n }) with
    | some (.code .normal ts h') => retO T fn h ts h'
    | some (.code .ret ts h') => retO T fn h ts h'
    | _ => none

noncomputable def Ex.jump (e : Ex) : Option Code := match e with
  | .normal => none | .ret => some .ret | .exit id => some (.exit id)

noncomputable def noneL (l : List Nat) : Bool := match l with | [] => true | _ => false
noncomputable def roundEnd (l : Nat) (e : Ex) (h : Hp) : Res := match h.get l with
  | some (.loop _ _ tmps ps asg body d) => some (.val (bl e.jump.isNone) (some (h.set l (.loop (bc e.jump.isNone .ready .done) e.jump tmps ps asg body d))))
  | _ => none
noncomputable def roundBody (run : Job → Res) (l : Nat) (b : Code) (ts : Fr) (h : Hp) : Res := match h.get l with
  | some (.loop .ready pend tmps ps asg body d) => (match run (.code b ts (h.set l (.loop .busy pend tmps ps asg body d))) with
    | some (.code e _ h) => roundEnd l e h
    | _ => none)
  | _ => none
noncomputable def roundStep (run : Job → Res) (l : Nat) (args : List TV) (h : Hp) : Res :=
  match h.get l with
  | some (.loop .ready _ tmps ps asg body _) =>
    bc (Nat.beq args.length ps.length) (bc tmps.rd (bc (noneL tmps.ms)
      (match run (.code asg (tmps.setL ps args) h) with
      | some (.code .normal ts h) => roundBody run l body ts h
      | _ => none) none) none) none
  | _ => none

noncomputable def jobStep (B : Funs) (T : Tab) (r : Job → Res) (j : Job) : Res :=
  match j with
  | .code c ts h => codeStep { T := T, run := r, ts := ts, h := h } c
  | .call f args h => callStep B T r f args h
  | .round l args h => roundStep r l args h

noncomputable def run (B : Funs) (T : Tab) (n : Nat) : Job → Res := Nat.rec (fun _ => none) (fun _ r => jobStep B T r) n

end Go.VI
