/-
  The executor X: its values, its operations, its runs. No conditions. An executor of its own, proved sound against the model; nothing here is of one program.
-/
import Derived.CallsIn
import GoSem.ClaimKeys
set_option linter.unusedVariables false
namespace Go.X

/-! ## Values, tries -/
inductive V where
  | junk
  | bool (b : Bool)
  | int (k : IntKind) (n : Int)
  | str (s len : Nat)
  | ptr (b o : Nat)
  | nilp
  | slc (b o len cap es : Nat) (ex : Bool)
  | nils
  | capv (b o es : Nat)      -- the capacity of what lies in block b from o on: not known
  | map (r : Nat)
  | nilm
  | fn (f : Fn) (cap : List V)
  | nilf
  | ifc (t : TypeId) (v : V)
  | nili
  | agg (l : List V)
  | tup (l : List V)
  deriving Inhabited

inductive T (α : Type) where
  | l : T α
  | n (a : T α) (v : α) (c : T α) : T α
  deriving Inhabited

def T.get {α : Type} (d : α) : List Bool → T α → α
  | [], t => match t with | .l => d | .n _ v _ => v
  | b :: p, t => match t with | .l => d | .n a _ c => T.get d p (bif b then a else c)

def T.set {α : Type} (d : α) : List Bool → T α → α → T α
  | [], t, x => match t with | .l => .n .l x .l | .n a _ c => .n a x c
  | b :: p, t, x => match t with
    | .l => bif b then .n (T.set d p .l x) d .l else .n .l d (T.set d p .l x)
    | .n a v c => bif b then .n (T.set d p a x) v c else .n a v (T.set d p c x)

/-- `T.set` with what comes next: nothing is left unreckoned. -/
def T.setK {α β : Type} (d : α) : List Bool → T α → α → (T α → β) → β
  | [], t, x, k => match t with | .l => k (.n .l x .l) | .n a _ c => k (.n a x c)
  | b :: p, t, x, k => match t with
    | .l => bif b then T.setK d p .l x (fun s => k (.n s d .l)) else T.setK d p .l x (fun s => k (.n .l d s))
    | .n a v c => bif b then T.setK d p a x (fun s => k (.n s v c)) else T.setK d p c x (fun s => k (.n a v s))

def bitsF : Nat → Nat → List Bool
  | 0, _ => []
  | f + 1, n => match n with
    | 0 => []
    | m + 1 => Nat.beq (m % 2) 0 :: bitsF f (m / 2)
def bits (n : Nat) : List Bool := bitsF n n

structure Ent where
  key : V
  val : V
  deriving Inhabited

inductive Ex where | norm | exit (id : Nat) | goto (l : Nat) | ret
  deriving Inhabited
inductive Obj where
  | free
  | cells (vs : List V) (e : TypeId) (hi : Nat)     -- hi: 0, or: fewer cells than this lie here
  | bytes (s len : Nat) (e : TypeId) (hi : Nat)
  | map (kt : TypeId) (es : List Ent) (clock : Nat)
  | siter (s len pos : Nat)
  | miter (m : Option Nat) (since : Nat) (seen : List V) (last : Nat)
  | loop (st : LoopState) (pend : Ex) (dfr : Nat)
  | dfr
  deriving Inhabited

/-! ## Numbers and strings -/
def iltb : Int → Int → Bool
  | .ofNat m, .ofNat n => Nat.ble (m + 1) n
  | .negSucc _, .ofNat _ => true
  | .ofNat _, .negSucc _ => false
  | .negSucc m, .negSucc n => Nat.ble (n + 1) m
def ieqb : Int → Int → Bool
  | .ofNat m, .ofNat n => Nat.beq m n
  | .negSucc m, .negSucc n => Nat.beq m n
  | _, _ => false
def maxNat : IntKind → Nat
  | .i8 => 127 | .u8 => 255 | .i16 => 32767 | .u16 => 65535
  | .i32 => 2147483647 | .u32 => 4294967295 | .i64 => 9223372036854775807 | .u64 => 18446744073709551615
def wrapX (k : IntKind) (n : Int) : Int := match n with
  | .ofNat m => bif Nat.ble m (maxNat k) then n else k.wrap n
  | _ => k.wrap n
def keq : IntKind → IntKind → Bool
  | .i8, .i8 | .i16, .i16 | .i32, .i32 | .i64, .i64 | .u8, .u8 | .u16, .u16 | .u32, .u32 | .u64, .u64 => true
  | _, _ => false

/-- a string is a number, little end first, and how many bytes: noughts behind it cost nothing -/
def sGet (s _len i : Nat) : Nat := (s >>> (8 * i)) % 256
def sCut (q n : Nat) : Nat := bif Nat.ble (Nat.log2 q + 1) (8 * n) then q else q % 2 ^ (8 * n)
def sSub (s _len lo hi : Nat) : Nat := sCut (s >>> (8 * lo)) (hi - lo)
/-- s has l bytes -/
def sCat (s l t : Nat) : Nat := bif Nat.beq t 0 then s else s + (t <<< (8 * l))
/-- replaces the bytes from o on by m others -/
def sPut (s len o t m : Nat) : Nat := sCat (sCat (sSub s len 0 o) o t) (o + m) (sSub s len (o + m) len)
def sLtF (s l t m : Nat) : Nat → Nat → Bool
  | 0, _ => Nat.ble (l + 1) m
  | f + 1, i => bif Nat.beq (sGet s l i) (sGet t m i) then sLtF s l t m f (i + 1) else Nat.ble (sGet s l i + 1) (sGet t m i)
def sLt (s l t m : Nat) : Bool := sLtF s l t m (bif Nat.ble l m then l else m) 0
def sEq (s l t m : Nat) : Bool := bif Nat.beq l m then Nat.beq s t else false
def natOf : List UInt8 → Nat
  | [] => 0
  | b :: r => b.toNat + 256 * natOf r
def sIndexByte (s len c : Nat) : Nat → Nat → Int
  | 0, _ => -1
  | f + 1, i => bif Nat.beq (sGet s len i) c then Int.ofNat i else sIndexByte s len c f (i + 1)
def sIndex (s len t m : Nat) : Nat → Nat → Int
  | 0, _ => -1
  | f + 1, i => bif Nat.beq (sSub s len i (i + m)) t then Int.ofNat i else sIndex s len t m f (i + 1)
def sCount (s len c : Nat) : Nat → Nat → Nat → Nat
  | 0, _, n => n
  | f + 1, i, n => bif Nat.beq (sGet s len i) c then sCount s len c f (i + 1) (n + 1) else sCount s len c f (i + 1) n
def sDecode (s len i : Nat) : Nat × Nat :=
  let at' (k : Nat) : Nat := sGet s len (i + k)
  let cont (k : Nat) : Bool := Nat.ble (i + k + 1) len && Nat.beq (at' k / 64) 2
  let b0 := at' 0
  if b0 < 0x80 then (b0, 1)
  else if b0 / 32 == 6 && cont 1 then
    let c := (b0 % 32) * 64 + at' 1 % 64
    if c ≥ 0x80 then (c, 2) else (Utf8.runeError, 1)
  else if b0 / 16 == 14 && cont 1 && cont 2 then
    let c := (b0 % 16) * 4096 + (at' 1 % 64) * 64 + at' 2 % 64
    if c ≥ 0x800 && Utf8.valid c then (c, 3) else (Utf8.runeError, 1)
  else if b0 / 8 == 30 && cont 1 && cont 2 && cont 3 then
    let c := (b0 % 8) * 262144 + (at' 1 % 64) * 4096 + (at' 2 % 64) * 64 + at' 3 % 64
    if c ≥ 0x10000 && Utf8.valid c then (c, 4) else (Utf8.runeError, 1)
  else (Utf8.runeError, 1)
def sRunes (s len : Nat) : Nat → Nat → List V
  | 0, _ => []
  | f + 1, i => bif Nat.ble (i + 1) len then
      match sDecode s len i with | (r, w) => .int .i32 (Int.ofNat r) :: sRunes s len f (i + w)
    else []
/-- bytes as cells -/
def sCells (s len : Nat) : Nat → Nat → List V
  | 0, _ => []
  | n + 1, i => .int .u8 (Int.ofNat (sGet s len i)) :: sCells s len n (i + 1)

/-! ## What the model's values are here -/
def natOfB (s : ByteArray) : Nat := natOf s.data.toList
def one1 : Value → Bool
  | .agg _ | .tuple _ => false
  | _ => true
def ones : List Value → Bool
  | [] => true
  | v :: r => bif one1 v then ones r else false
mutual
def ofV : Value → V
  | .bool b => .bool b
  | .int k n => .int k n
  | .string s => .str (natOfB s) s.data.toList.length
  | .pointer none => .nilp
  | .slice none 0 0 => .nils
  | .map none => .nilm
  | .func (.func f) ⟨[]⟩ ⟨c⟩ => .fn (.func f) (ofVs c)
  | .nilFunc => .nilf
  | .iface t v => .ifc t (ofV v)
  | .nilIface => .nili
  | .agg ⟨l⟩ => bif ones l then .agg (ofVs l) else .junk
  | .tuple ⟨l⟩ => .tup (ofVs l)
  | _ => .junk
def ofVs : List Value → List V
  | [] => []
  | v :: l => ofV v :: ofVs l
end

def bytesL (s len : Nat) : List UInt8 := (List.range len).map fun i => UInt8.ofNat (sGet s len i)
def strB (s len : Nat) : ByteArray := ⟨⟨bytesL s len⟩⟩
/-! ## What values without addresses are in the model -/
mutual
def gV : V → Option Value
  | .bool b => some (.bool b)
  | .int k n => some (.int k n)
  | .str s l => some (.string (strB s l))
  | .agg l => (match gVs l with | some cs => some (.agg ⟨cs⟩) | none => none)
  | _ => none
def gVs : List V → Option (List Value)
  | [] => some []
  | v :: r => (match gV v, gVs r with | some x, some xs => some (x :: xs) | _, _ => none)
end
/-! ## Lists -/
def takeL {α : Type} : Nat → List α → List α
  | 0, _ => []
  | n + 1, l => match l with | [] => [] | x :: r => x :: takeL n r
def dropL {α : Type} : Nat → List α → List α
  | 0, l => l
  | n + 1, l => match l with | [] => [] | _ :: r => dropL n r
def getL {α : Type} : List α → Nat → Option α
  | [], _ => none
  | x :: r, n => match n with | 0 => some x | m + 1 => getL r m
/-- replaces cells from o on -/
def putL {α : Type} (l : List α) (o : Nat) (xs : List α) : List α := takeL o l ++ (xs ++ dropL (o + xs.length) l)
def lenL {α : Type} : List α → Nat → Nat
  | [], n => n
  | _ :: r, n => lenL r (n + 1)
def repL {α : Type} (xs : List α) : Nat → List α
  | 0 => []
  | n + 1 => xs ++ repL xs n

/-! ## Reckoning at once (for the kernel) -/
def seqN {β : Type} (n : Nat) (k : Nat → β) : β := bif Nat.beq n n then k n else k n
def seqI {β : Type} (n : Int) (k : Int → β) : β := match n with
  | .ofNat m => seqN m fun m => k (.ofNat m)
  | .negSucc m => seqN m fun m => k (.negSucc m)
/-- reckons what lies at the head of a value (not below) -/
def seqF {β : Type} (v : V) (k : V → β) : β := match v with
  | .int i n => seqI n fun n => k (.int i n)
  | .bool b => match b with | true => k (.bool true) | false => k (.bool false)
  | .str s l => seqN s fun s => seqN l fun l => k (.str s l)
  | .ptr b o => seqN b fun b => seqN o fun o => k (.ptr b o)
  | .slc b o l c e x => seqN b fun b => seqN o fun o => seqN l fun l => seqN c fun c => match x with | true => k (.slc b o l c e true) | false => k (.slc b o l c e false)
  | .capv b o e => seqN b fun b => seqN o fun o => k (.capv b o e)
  | .map r => seqN r fun r => k (.map r)
  | v => k v
def seqVs {β : Type} : List V → (List V → β) → β
  | [], k => k []
  | v :: r, k => seqF v fun v => seqVs r fun r => k (v :: r)
def seqV {β : Type} (v : V) (k : V → β) : β := match v with
  | .fn f cap => seqVs cap fun cap => k (.fn f cap)
  | .ifc t v => seqF v fun v => k (.ifc t v)
  | .agg l => seqVs l fun l => k (.agg l)
  | .tup l => seqVs l fun l => k (.tup l)
  | v => seqF v k
def seqEs {β : Type} : List Ent → (List Ent → β) → β
  | [], k => k []
  | e :: r, k => match e with | ⟨a, b⟩ => seqV a fun a => seqV b fun b => seqEs r fun r => k (⟨a, b⟩ :: r)
def seqO {β : Type} (o : Obj) (k : Obj → β) : β := match o with
  | .cells vs e h => seqVs vs fun vs => seqN h fun h => k (.cells vs e h)
  | .bytes s l e h => seqN s fun s => seqN l fun l => seqN h fun h => k (.bytes s l e h)
  | .map kt es c => seqEs es fun es => seqN c fun c => k (.map kt es c)
  | .siter s l p => seqN p fun p => k (.siter s l p)
  | .miter m s seen l => seqVs seen fun seen => seqN l fun l => k (.miter m s seen l)
  | o => k o
end Go.X

namespace Go.X

inductive Eff where
  | bad (why : String)
  | val (v : V)
  | new (o : Obj) (v : V)
  | set (b : Nat) (o : Obj) (v : V)
  | setnew (b : Nat) (o o2 : Obj) (v : V)
  | call (f : FuncId) (args : List V)
  | round (l : Nat) (args : List V)
  | fork (b : Nat) (l : List (Obj × V))
  deriving Inhabited

structure Cx where
  rd : Operand → V
  hp : Nat → Obj
  nx : Nat

def und : V := .tup []
def rds (l : List Operand) (c : Cx) : List V := match l with | [] => [] | o :: r => c.rd o :: rds r c

/-! ## Types (closed: reckoned once) -/
inductive Lay where | bad | one | agg (n : Nat)
def lay (P : Program) (t : TypeId) : Lay := match P.underlying t with
  | some (.struct _) | some (.array ..) => .agg (P.cellsOf t)
  | some _ => bif Nat.beq (P.cellsOf t) 1 then .one else .bad
  | none => .bad
def zeroL (P : Program) (t : TypeId) : Option (List V) := match (P.info? t) with
  | some i => (match i.zero with
    | some v => (match v.cells with | ⟨l⟩ => bif ones l then (bif Nat.beq (lenL l 0) i.size then some (ofVs l) else none) else none)
    | none => none)
  | none => none
def fieldOff (P : Program) (s : TypeId) (f : Nat) : Option Nat := match P.underlying s with
  | some (.struct fs) => (match fs[f]? with
    | some fd => bif Nat.beq (P.cellsOf fd.type) 0 then none else some fd.offset
    | none => none)
  | _ => none
def fieldLay (P : Program) (s : TypeId) (f : Nat) : Option (Nat × Lay) := match P.underlying s with
  | some (.struct fs) => (match fs[f]? with
    | some fd => some (fd.offset, lay P fd.type)
    | none => none)
  | _ => none
inductive Sq where | none | slice (es : Nat) (lay : Lay) (u8 : Bool) | array (n es : Nat) (lay : Lay) | str
def isZ8 : Option (List V) → Bool | some [.int .u8 (.ofNat 0)] => true | _ => false
def isU8 (P : Program) (e : TypeId) : Bool := isZ8 (zeroL P e)
def isInfo (P : Program) (t : TypeId) : Bool := match P.info? t with | some _ => true | none => false
def sqOf (P : Program) (t : TypeId) : Sq := match P.underlying t with
  | some (.slice e) => bif isInfo P e then .slice (P.cellsOf e) (lay P e) (isU8 P e) else .none
  | some (.array n e) => bif isInfo P e then .array n (P.cellsOf e) (lay P e) else .none
  | some .string => .str
  | _ => .none

def oneV : V → Bool
  | .junk | .agg _ | .tup _ => false
  | _ => true
def byteV : V → Option Nat
  | .int .u8 (.ofNat m) => bif Nat.ble m 255 then some m else none
  | _ => none

/-! ## Cells -/
def partL (la : Lay) (l : List V) (o : Nat) : Eff := match la with
  | .one => (match getL l o with | some v => .val v | none => .bad "part")
  | .agg n => (let r := takeL n (dropL o l); bif Nat.beq (lenL r 0) n then .val (.agg r) else .bad "part")
  | .bad => .bad "part"
def loadX (la : Lay) (ob : Obj) (o : Nat) : Eff := match ob with
  | .cells vs _ _ => partL la vs o
  | .bytes s l _ _ => (match la with
    | .one => bif Nat.ble (o + 1) l then .val (.int .u8 (Int.ofNat (sGet s l o))) else .bad "load"
    | .agg n => bif Nat.ble (o + n) l then .val (.agg (sCells s l n o)) else .bad "load"
    | .bad => .bad "load")
  | _ => .bad "load: no cells"
def bytesOfL : List V → Nat → Nat → Option (Nat × Nat)
  | [], s, n => some (s, n)
  | v :: r, s, n => match byteV v with | some m => bytesOfL r (sCat s n m) (n + 1) | none => none
/-- cells from o on are these now -/
def putO (ob : Obj) (o : Nat) (xs : List V) : Option Obj := match ob with
  | .cells vs e h => bif Nat.ble (o + lenL xs 0) (lenL vs 0) then some (.cells (putL vs o xs) e h) else none
  | .bytes s l e h => (match bytesOfL xs 0 0 with
    | some (t, m) => bif Nat.ble (o + m) l then some (.bytes (sPut s l o t m) l e h) else none
    | none => none)
  | _ => none
/-- n cells from o on -/
def getO (ob : Obj) (o n : Nat) : Option (List V) := match ob with
  | .cells vs _ _ => (let r := takeL n (dropL o vs); bif Nat.beq (lenL r 0) n then some r else none)
  | .bytes s l _ _ => bif Nat.ble (o + n) l then some (sCells s l n o) else none
  | _ => none
/-- n bytes from o on -/
def getB (ob : Obj) (o n : Nat) : Option Nat := match ob with
  | .bytes s l _ _ => bif Nat.ble (o + n) l then some (sSub s l o (o + n)) else none
  | .cells vs _ _ => (match bytesOfL (takeL n (dropL o vs)) 0 0 with
    | some (s, m) => bif Nat.beq m n then some s else none
    | none => none)
  | _ => none
def storeX (la : Lay) (b : Nat) (ob : Obj) (o : Nat) (v : V) : Eff := match la with
  | .one => bif oneV v then (match putO ob o [v] with | some x => .set b x und | none => .bad "store") else .bad "store: not one cell"
  | .agg n => (match v with
    | .agg l => bif Nat.beq (lenL l 0) n then (match putO ob o l with | some x => .set b x und | none => .bad "store") else .bad "store: size"
    | _ => .bad "store: agg")
  | .bad => .bad "store"

/-! ## Equality -/
def allL {α : Type} (f : α → Bool) : List α → Bool | [] => true | x :: r => bif f x then allL f r else false
def fieldsOf (fs : List Field) : List (TypeId × Nat) := match fs with | [] => [] | f :: r => bif f.name == "_" then fieldsOf r else (f.type, f.offset) :: fieldsOf r
def andO : Option Bool → Option Bool → Option Bool
  | some true, b => b
  | some false, _ => some false
  | none, _ => none
def eqBool : V → V → Option Bool | .bool a, .bool b => some (a == b) | _, _ => none
def eqInt : V → V → Option Bool | .int k a, .int k' b => bif keq k k' then some (ieqb a b) else none | _, _ => none
def eqStr : V → V → Option Bool | .str a l, .str b m => some (sEq a l b m) | _, _ => none
def eqPtr (z : Bool) : V → V → Option Bool
  | .nilp, .nilp => some true
  | .nilp, .ptr _ _ => some false
  | .ptr _ _, .nilp => some false
  | .ptr a o, .ptr b q => bif z then none else bif Nat.beq a b then some (Nat.beq o q) else none
  | _, _ => none
def eqSlc : V → V → Option Bool
  | .nils, .nils => some true
  | .nils, .slc .. => some false
  | .slc .., .nils => some false
  | _, _ => none
def eqMap : V → V → Option Bool
  | .nilm, .nilm => some true
  | .nilm, .map _ => some false
  | .map _, .nilm => some false
  | _, _ => none
def eqFn : V → V → Option Bool
  | .nilf, .nilf => some true
  | .nilf, .fn _ _ => some false
  | .fn _ _, .nilf => some false
  | _, _ => none
def asAgg : V → Option (List V) | .agg l => some l | _ => none
inductive IfcV where | nil | val (t : TypeId) (v : V) | no
def asIfc : V → IfcV | .nili => .nil | .ifc t v => .val t v | _ => .no
def comparable (P : Program) (t : TypeId) : Bool := match P.info? t with | some i => i.comparable | none => false
mutual
def eqX (P : Program) : Nat → TypeId → V → V → Option Bool
  | 0, _, _, _ => none
  | d + 1, t, x, y => match P.underlying t with
    | some .bool => eqBool x y
    | some (.int _) => eqInt x y
    | some .string => eqStr x y
    | some (.pointer e) => eqPtr (Nat.beq (P.cellsOf e) 0) x y
    | some (.interface _) => (match asIfc x, asIfc y with
      | .nil, .nil => some true
      | .nil, .val _ _ => some false
      | .val _ _, .nil => some false
      | .val t1 v1, .val t2 v2 => bif Nat.beq t1 t2 then (bif comparable P t1 then eqX P d t1 v1 v2 else none) else some false
      | _, _ => none)
    | some (.struct fs) => (match asAgg x, asAgg y with
      | some a, some b => bif P.stoodInHeld t then none else eqFs P d (fieldsOf fs.toList) a b
      | _, _ => none)
    | some (.array n e) => (match asAgg x, asAgg y with
      | some a, some b => (match P.info? e with | some _ => eqEs P d e (P.cellsOf e) n 0 a b | none => none)
      | _, _ => none)
    | some (.slice _) => eqSlc x y
    | some (.map ..) => eqMap x y
    | some (.func ..) => eqFn x y
    | _ => none
def eqFs (P : Program) : Nat → List (TypeId × Nat) → List V → List V → Option Bool
  | 0, _, _, _ => none
  | _ + 1, [], _, _ => some true
  | d + 1, (t, o) :: r, a, b => match partL (lay P t) a o, partL (lay P t) b o with
    | .val x, .val y => andO (eqX P d t x y) (eqFs P d r a b)
    | _, _ => none
def eqEs (P : Program) : Nat → TypeId → Nat → Nat → Nat → List V → List V → Option Bool
  | 0, _, _, _, _, _, _ => none
  | _ + 1, _, _, 0, _, _, _ => some true
  | d + 1, e, es, n + 1, i, a, b => match partL (lay P e) a (i * es), partL (lay P e) b (i * es) with
    | .val x, .val y => andO (eqX P d e x y) (eqEs P d e es n (i + 1) a b)
    | _, _ => none
end
def eqFuel : Nat := 1000

/-! ## Operations -/
def pow2 (n : Nat) : Nat := 2 ^ n
def bitsOp (op : BinOp) (k : IntKind) (a b : Int) : Option Int :=
  match op, a, b with
  | .and, .ofNat x, .ofNat y => some (wrapX k (Int.ofNat (Nat.land (x % pow2 k.bits) (y % pow2 k.bits))))
  | .or, .ofNat x, .ofNat y => some (wrapX k (Int.ofNat (Nat.lor (x % pow2 k.bits) (y % pow2 k.bits))))
  | .xor, .ofNat x, .ofNat y => some (wrapX k (Int.ofNat (Nat.xor (x % pow2 k.bits) (y % pow2 k.bits))))
  | _, _, _ => none
def intOp (op : BinOp) (k : IntKind) (a b : Int) : Eff := match op with
  | .add => .val (.int k (wrapX k (a + b)))
  | .sub => .val (.int k (wrapX k (a - b)))
  | .mul => .val (.int k (wrapX k (a * b)))
  | .quo => bif ieqb b 0 then .bad "division by zero" else .val (.int k (wrapX k (a.tdiv b)))
  | .rem => bif ieqb b 0 then .bad "division by zero" else .val (.int k (a.tmod b))
  | .eql => .val (.bool (ieqb a b))
  | .neq => .val (.bool (!ieqb a b))
  | .lss => .val (.bool (iltb a b))
  | .leq => .val (.bool (!iltb b a))
  | .gtr => .val (.bool (iltb b a))
  | .geq => .val (.bool (!iltb a b))
  | .and | .or | .xor | .andNot => (match bitsOp op k a b with | some n => .val (.int k n) | none => .bad "bits")
  | .shl | .shr => .bad "shift"
def shiftOp (op : BinOp) (k : IntKind) (x y : Int) : Eff := match y with
  | .ofNat m => (let n := Nat.min m k.bits; match op with
    | .shl => .val (.int k (wrapX k (x * Int.ofNat (pow2 n))))
    | .shr => (match x with | .ofNat q => .val (.int k (Int.ofNat (q / pow2 n))) | _ => .bad "shr of a negative")
    | _ => .bad "shift")
  | _ => .bad "shift by a negative"
def strOp (op : BinOp) (s l t m : Nat) : Eff := match op with
  | .add => bif Nat.ble (l + m) 1000000000 then .val (.str (sCat s l t) (l + m)) else .bad "string too long"
  | .eql => .val (.bool (sEq s l t m))
  | .neq => .val (.bool (!sEq s l t m))
  | .lss => .val (.bool (sLt s l t m))
  | .leq => .val (.bool (sLt s l t m || sEq s l t m))
  | .gtr => .val (.bool (!(sLt s l t m || sEq s l t m)))
  | .geq => .val (.bool (!sLt s l t m))
  | _ => .bad "string op"
def isConst : Operand → Bool | .const _ => true | _ => false
def eqOp (op : BinOp) (r : Option Bool) : Eff := match op, r with
  | .eql, some b => .val (.bool b)
  | .neq, some b => .val (.bool (!b))
  | _, _ => .bad "=="
def isShift : BinOp → Bool | .shl | .shr => true | _ => false
/-- how many cells of a block are known -/
def known : Obj → Nat
  | .cells vs _ _ => lenL vs 0
  | .bytes _ l _ _ => l
  | _ => 0
def hiOf : Obj → Nat
  | .cells _ _ h => h
  | .bytes _ _ _ h => h
  | _ => 0
/-- the block has n cells at least -/
def atLeast (n : Nat) : Obj → Option Obj
  | .cells vs e h => some (.cells (vs ++ repL [.junk] (n - lenL vs 0)) e h)
  | _ => none
def under (n : Nat) : Obj → Obj
  | .cells vs e h => .cells vs e (bif Nat.beq h 0 then n else Nat.min h n)
  | .bytes s l e h => .bytes s l e (bif Nat.beq h 0 then n else Nat.min h n)
  | o => o
/-- n > the capacity? -/
def gtCap (n b o es : Nat) (ob : Obj) : Eff :=
  bif Nat.ble (o + n * es) (known ob) then .val (.bool false) else
  bif !(Nat.beq (hiOf ob) 0) && Nat.ble (hiOf ob) (o + n * es) then .val (.bool true) else
  match atLeast (o + n * es) ob with
  | some big => .fork b [(under (o + n * es) ob, .bool true), (big, .bool false)]
  | none => .bad "cap: of bytes"
def binII (op : BinOp) (k : IntKind) (a : Int) (k' : IntKind) (b : Int) : Eff :=
  bif isShift op then shiftOp op k a b else bif keq k k' then intOp op k a b else .bad "kinds"
def binCap (op : BinOp) (a : Int) (b o es : Nat) (c : Cx) : Eff := match op, a with
  | .gtr, .ofNat n => gtCap n b o es (c.hp b)
  | _, _ => .bad "cap: compared"
def binI (op : BinOp) (k : IntKind) (a : Int) (y : V) (c : Cx) : Eff := match y with
  | .int k' b => binII op k a k' b
  | .capv b o es => bif keq k .i64 then binCap op a b o es c else .bad "kinds"
  | _ => .bad "binary: a number and what?"
def binS (op : BinOp) (s l : Nat) (y : V) : Eff := match y with
  | .str u m => strOp op s l u m
  | _ => .bad "binary: a string and what?"
def binN (op : BinOp) (t : TypeId) (k : Bool) (y : V) (P : Program) : Eff := match y with
  | .nili => bif k then eqOp op (eqX P eqFuel t .nili .nili) else .bad "nil interfaces"
  | u => eqOp op (eqX P eqFuel t .nili u)
def binA (op : BinOp) (t : TypeId) (a : List V) (y : V) (P : Program) : Eff := match y with
  | .agg b => bif P.eqGuardType P.depth t then .bad "eqGuard" else eqOp op (eqX P eqFuel t (.agg a) (.agg b))
  | _ => .bad "binary: an aggregate and what?"
def effBin (op : BinOp) (t : TypeId) (x y : Operand) (P : Program) (c : Cx) : Eff :=
  match c.rd x with
  | .int k a => binI op k a (c.rd y) c
  | .str s l => binS op s l (c.rd y)
  | .nili => binN op t (isConst x || isConst y) (c.rd y) P
  | .agg a => binA op t a (c.rd y) P
  | v => eqOp op (eqX P eqFuel t v (c.rd y))
def effUn (op : UnOp) (x : Operand) (_P : Program) (c : Cx) : Eff := match op, c.rd x with
  | .neg, .int k n => .val (.int k (wrapX k (0 - n)))
  | .not, .bool b => .val (.bool (!b))
  | .xor, .int k n => .val (.int k (wrapX k (-1 - n)))
  | _, _ => .bad "unary"
def encB (r : Int) : List UInt8 := (Utf8.encode r).data.toList
def encRunes : List V → Nat → Nat → Option (Nat × Nat)
  | [], s, n => some (s, n)
  | v :: r, s, n => match v with
    | .int .i32 q => (let l := encB q; encRunes r (sCat s n (natOf l)) (n + l.length))
    | _ => none
inductive Cv where | int (k : IntKind) | str | toBytes (e : TypeId) | toRunes (e : TypeId) | ofBytes | ofRunes | mark | bad
def cvOf (P : Program) (src dst : TypeId) : Cv := match P.underlying src, P.underlying dst with
  | some _, some (.int k) => .int k
  | some (.slice e), some .string => (match P.underlying e with | some (.int .u8) => .ofBytes | some (.int .i32) => .ofRunes | _ => .bad)
  | some _, some .string => .str
  | some .string, some (.slice e) => (match P.underlying e with | some (.int .u8) => .toBytes e | some (.int .i32) => .toRunes e | _ => .bad)
  | some (.slice _), some (.slice e) => (match P.underlying e with | some (.int .u8) => bif Nat.beq src dst then .mark else .bad | _ => .bad)
  | _, _ => .bad
def effConv (src dst : TypeId) (x : Operand) (P : Program) (c : Cx) : Eff := match cvOf P src dst, c.rd x with
  | .int k, .int _ n => .val (.int k (wrapX k n))
  | .str, .str s l => .val (.str s l)
  | .str, .int _ n => (let l := encB n; .val (.str (natOf l) l.length))
  | .toBytes e, .str s l => .new (.bytes s l e 0) (.slc c.nx 0 l 0 1 false)
  | .toRunes e, .str s l => (let r := sRunes s l l 0; .new (.cells r e 0) (.slc c.nx 0 (lenL r 0) 0 1 false))
  | .ofBytes, .nils => .val (.str 0 0)
  | .ofBytes, .slc b o l _ _ _ => (match getB (c.hp b) o l with | some s => .val (.str s l) | none => .bad "string(bytes)")
  | .mark, .slc b o l k es x => (match c.hp b with | .bytes .. => .val (.slc b o l k es x) | _ => .bad "convert: mark")
  | .ofRunes, .nils => .val (.str 0 0)
  | .ofRunes, .slc b o l _ _ _ => (match getO (c.hp b) o l with
    | some r => (match encRunes r 0 0 with | some (s, n) => .val (.str s n) | none => .bad "string(runes)")
    | none => .bad "string(runes)")
  | _, _ => .bad "convert"
def effLoad (t : TypeId) (a : Operand) (P : Program) (c : Cx) : Eff := match c.rd a with
  | .ptr b o => loadX (lay P t) (c.hp b) o
  | _ => .bad "load: no pointer"
def effStore (t : TypeId) (a x : Operand) (P : Program) (c : Cx) : Eff := match c.rd a with
  | .ptr b o => storeX (lay P t) b (c.hp b) o (c.rd x)
  | _ => .bad "store: no pointer"
def cellsX : V → List V | .agg l => l | v => [v]
def okCells : V → Bool | .agg _ => true | .junk | .tup _ => false | _ => true
def effAlloc (e : TypeId) (P : Program) (c : Cx) : Eff := match zeroL P e with
  | some l => .new (.cells l e 0) (.ptr c.nx 0)
  | none => .bad "alloc"
def effBox (e : TypeId) (x : Operand) (_P : Program) (c : Cx) : Eff :=
  let v := c.rd x
  bif okCells v then .new (.cells (cellsX v) e 0) (.ptr c.nx 0) else .bad "box"
def fillX : List (Nat × Nat × V) → List V → Option (List V)
  | [], l => some l
  | (o, n, v) :: r, l =>
    bif okCells v then
      (let xs := cellsX v
       bif Nat.beq (lenL xs 0) n then bif Nat.ble (o + n) (lenL l 0) then fillX r (putL l o xs) else none else none)
    else none
def placeS (P : Program) (fs : Array Field) (c : Cx) : List (Nat × Operand) → Option (List (Nat × Nat × V))
  | [] => some []
  | (i, x) :: r => match fs[i]?, placeS P fs c r with
    | some f, some l => some ((f.offset, P.cellsOf f.type, c.rd x) :: l)
    | _, _ => none
def placeA (es : Nat) (c : Cx) : List (Nat × Operand) → List (Nat × Nat × V)
  | [] => []
  | (i, x) :: r => (i * es, es, c.rd x) :: placeA es c r
def okFields (P : Program) (fs : Array Field) : Bool := allL (fun f => isInfo P f.type) fs.toList
def effBuild (t : TypeId) (parts : Array (Nat × Operand)) (P : Program) (c : Cx) : Eff := match zeroL P t, P.underlying t with
  | some z, some (.struct fs) => bif okFields P fs then (match placeS P fs c parts.toList with
    | some ps => (match fillX ps z with | some l => .val (.agg l) | none => .bad "build")
    | none => .bad "build") else .bad "build"
  | some z, some (.array _ e) => bif isInfo P e then (match fillX (placeA (P.cellsOf e) c parts.toList) z with | some l => .val (.agg l) | none => .bad "build") else .bad "build"
  | _, _ => .bad "build"
def mkRow (u8 : Bool) (vs : List V) (e : TypeId) : Obj := match u8 with
  | true => (match bytesOfL vs 0 0 with | some (s, n) => .bytes s n e 0 | none => .cells vs e 0)
  | false => .cells vs e 0
def effBuildSlice (t : TypeId) (len : Nat) (parts : Array (Nat × Operand)) (P : Program) (c : Cx) : Eff := match P.underlying t with
  | some (.slice e) => bif Nat.ble (len * P.cellsOf e) 16777216 then (match zeroL P e with
    | some z => (match fillX (placeA (P.cellsOf e) c parts.toList) (repL z len) with
      | some l => .new (mkRow (isU8 P e) l e) (.slc c.nx 0 len len (P.cellsOf e) true)
      | none => .bad "buildSlice")
    | none => .bad "buildSlice: zero") else .bad "buildSlice: much"
  | _ => .bad "buildSlice"
def effFieldAddr (s : TypeId) (x : Operand) (f : Nat) (P : Program) (c : Cx) : Eff := match c.rd x, fieldOff P s f with
  | .ptr b o, some d => .val (.ptr b (o + d))
  | _, _ => .bad "fieldAddr"
def effField (s : TypeId) (x : Operand) (f : Nat) (P : Program) (c : Cx) : Eff := match c.rd x, fieldLay P s f with
  | .agg l, some (o, la) => partL la l o
  | _, _ => .bad "field"
def natV : V → Option Nat | .int _ (.ofNat n) => some n | _ => none
def effIndexAddr (t : TypeId) (x i : Operand) (P : Program) (c : Cx) : Eff := match sqOf P t, c.rd x, natV (c.rd i) with
  | .slice es _ _, .slc b o l _ e _, some n => bif Nat.ble (n + 1) l then bif Nat.beq es e then .val (.ptr b (o + n * es)) else .bad "indexAddr: size" else .bad "indexAddr: out of range"
  | .array m es _, .ptr b o, some n => bif Nat.ble (n + 1) m then .val (.ptr b (o + n * es)) else .bad "indexAddr: out of range"
  | _, _, _ => .bad "indexAddr"
def effIndex (t : TypeId) (x i : Operand) (P : Program) (c : Cx) : Eff := match sqOf P t, c.rd x, natV (c.rd i) with
  | .array m es la, .agg l, some n => bif Nat.ble (n + 1) m then partL la l (n * es) else .bad "index: out of range"
  | .str, .str s l, some n => bif Nat.ble (n + 1) l then .val (.int .u8 (Int.ofNat (sGet s l n))) else .bad "index: out of range"
  | _, _, _ => .bad "index"
def bnd (o : Option Operand) (d : Nat) (c : Cx) : Option Nat := match o with | none => some d | some x => natV (c.rd x)
def okMx (hi mx : Option Operand) : Bool := match mx, hi with | some _, none => false | _, _ => true
def sliceS (s l : Nat) (lo hi mx : Option Operand) (c : Cx) : Eff := match mx, bnd lo 0 c, bnd hi l c with
  | none, some a, some b => bif Nat.ble a b then bif Nat.ble b l then .val (.str (sSub s l a b) (b - a)) else .bad "slice: bounds" else .bad "slice: bounds"
  | _, _, _ => .bad "slice"
def slice0 (lo hi mx : Option Operand) (c : Cx) : Eff := match bnd mx 0 c, bnd lo 0 c, bnd hi 0 c with
  | some 0, some 0, some 0 => .val .nils
  | _, _, _ => .bad "slice: bounds"
def sliceE (bl o len cap es : Nat) (lo hi mx : Option Operand) (c : Cx) : Eff := match bnd mx cap c, bnd lo 0 c, bnd hi len c with
  | some m, some a, some b => bif Nat.ble a b && Nat.ble b m && Nat.ble m cap then .val (.slc bl (o + a * es) (b - a) (m - a) es true) else .bad "slice: bounds"
  | _, _, _ => .bad "slice"
def sliceA (bl o n es : Nat) (lo hi mx : Option Operand) (c : Cx) : Eff := match c.hp bl with
  | .cells vs _ _ => bif Nat.ble (o + n * es) (lenL vs 0) then sliceE bl o n n es lo hi mx c else .bad "slice: array"
  | .bytes _ l _ _ => bif Nat.ble (o + n * es) l then sliceE bl o n n es lo hi mx c else .bad "slice: array"
  | _ => .bad "slice: array"
def sliceN (bl o len es : Nat) (lo hi mx : Option Operand) (c : Cx) : Eff := match mx with
  | some x => (match natV (c.rd x), bnd lo 0 c, bnd hi len c with
    | some m, some a, some b => bif Nat.ble a b && Nat.ble b m && (Nat.ble m len || Nat.ble (o + m * es) (known (c.hp bl))) then .val (.slc bl (o + a * es) (b - a) (m - a) es true) else .bad "slice: bounds"
    | _, _, _ => .bad "slice")
  | none => (match bnd lo 0 c, bnd hi len c with
    | some a, some b => bif Nat.ble a b && (Nat.ble b len || Nat.ble (o + b * es) (known (c.hp bl))) then .val (.slc bl (o + a * es) (b - a) 0 es false) else .bad "slice: bounds"
    | _, _ => .bad "slice")
def effSlice (t : TypeId) (x : Operand) (lo hi mx : Option Operand) (P : Program) (c : Cx) : Eff :=
  match okMx hi mx with
  | false => .bad "slice"
  | true => match c.rd x with
  | .str s l => (match sqOf P t with | .str => sliceS s l lo hi mx c | _ => .bad "slice")
  | .nils => (match sqOf P t with | .slice .. => slice0 lo hi mx c | _ => .bad "slice")
  | .slc bl o len cap es ex => (match sqOf P t with
    | .slice es' _ _ => bif Nat.beq es es' then (match ex with
      | true => sliceE bl o len cap es lo hi mx c
      | false => bif Nat.ble 1 es then sliceN bl o len es lo hi mx c else .bad "slice") else .bad "slice: size"
    | _ => .bad "slice")
  | .ptr bl o => (match sqOf P t with | .array n es _ => sliceA bl o n es lo hi mx c | _ => .bad "slice")
  | _ => .bad "slice"
def effMakeSlice (t : TypeId) (l k : Operand) (P : Program) (c : Cx) : Eff := match P.underlying t, natV (c.rd l), natV (c.rd k) with
  | some (.slice e), some n, some m => bif Nat.ble n m && Nat.ble m 140737488355328 && Nat.ble (m * P.bytesOf e) 140737488355328 then
      (match isU8 P e with
       | true => .new (.bytes 0 m e 0) (.slc c.nx 0 n m 1 true)
       | false => (match zeroL P e with | some z => .new (.cells (repL z m) e 0) (.slc c.nx 0 n m (P.cellsOf e) true) | none => .bad "makeSlice: zero")) else .bad "makeSlice"
  | _, _, _ => .bad "makeSlice"
def effPick (k a b : Operand) (_P : Program) (c : Cx) : Eff := match c.rd k with
  | .bool true => .val (c.rd a)
  | .bool false => .val (c.rd b)
  | _ => .bad "pick"
def effNil (x : Operand) (_P : Program) (c : Cx) : Eff := match c.rd x with
  | .ptr b o => .val (.ptr b o)
  | _ => .bad "nilCheck"
def effIface (t : TypeId) (x : Operand) (P : Program) (c : Cx) : Eff := match P.underlying t with
  | some (.interface _) => .bad "makeInterface"
  | some _ => .val (.ifc t (c.rd x))
  | none => .bad "makeInterface"
def okFn : Fn → Bool | .func _ => true | _ => false
def effFunc (fn : Fn) (first cap : Array Operand) (_P : Program) (c : Cx) : Eff :=
  bif okFn fn && first.toList.isEmpty then .val (.fn fn (rds cap.toList c)) else .bad "makeFunc"
def effExtract (x : Operand) (i : Nat) (_P : Program) (c : Cx) : Eff := match c.rd x with
  | .tup l => (match getL l i with | some v => .val v | none => .bad "extract")
  | _ => .bad "extract"
/-! maps -/
def okKey (P : Program) (t : TypeId) (v : V) : Bool := match gV v with
  | some x => (keyOf P t x).isSome
  | none => false
/-- fields lie one behind the other, and no cell is beside them -/
def rowX (P : Program) : Nat → List Field → Option Nat
  | n, [] => some n
  | n, f :: r => bif Nat.beq f.offset n then rowX P (n + P.cellsOf f.type) r else none
def isN (n : Nat) : Option Nat → Bool | some m => Nat.beq m n | none => false
def tileX (P : Program) : Nat → TypeId → Bool
  | 0, _ => false
  | m + 1, t => match P.underlying t with
    | some (.int _) => true
    | some .string => true
    | some .bool => true
    | some (.array n e) => Nat.beq (P.cellsOf t) (n * P.cellsOf e) && tileX P m e
    | some (.struct fs) => isN (P.cellsOf t) (rowX P 0 fs.toList) && allL (fun f => tileX P m f.type) fs.toList
    | _ => false
/-- types of keys -/
def okKt (P : Program) (t : TypeId) : Bool := match P.underlying t with
  | some (.int _) => true
  | some .string => true
  | some .bool => true
  | some (.array ..) => P.keyTypeAt 9 t && tileX P 9 t
  | some (.struct _) => P.keyTypeAt 9 t && tileX P 9 t
  | _ => false
/-! equality of keys -/
mutual
def keyEq : V → V → Bool
  | .bool a, .bool b => a == b
  | .int k a, .int j b => bif keq k j then ieqb a b else false
  | .str a l, .str b m => sEq a l b m
  | .agg a, .agg b => keyEqs a b
  | _, _ => false
def keyEqs : List V → List V → Bool
  | [], [] => true
  | x :: a, y :: b => bif keyEq x y then keyEqs a b else false
  | _, _ => false
end
def findE (k : V) : List Ent → Option V
  | [] => none
  | e :: r => bif keyEq k e.key then some e.val else findE k r
def mapTy (P : Program) (t : TypeId) : Option (TypeId × TypeId) := match P.underlying t with | some (.map k e) => bif okKt P k then some (k, e) else none | _ => none
def zeroV (P : Program) (t : TypeId) : Option V := match (P.info? t) with
  | some i => (match i.zero with | some v => some (ofV v) | none => none)
  | none => none
def effLookup (t : TypeId) (x i : Operand) (ok : Bool) (P : Program) (c : Cx) : Eff := match mapTy P t with
  | some (kt, et) =>
    let found (v : V) : Eff := .val (match ok with | true => .tup [v, .bool true] | false => v)
    let miss : Eff := match zeroV P et with | some z => .val (match ok with | true => .tup [z, .bool false] | false => z) | none => .bad "lookup"
    bif okKey P kt (c.rd i) then
    (match c.rd x with
    | .nilm => miss
    | .map r => (match c.hp r with
      | .map kt' es _ => bif Nat.beq kt kt' then (match findE (c.rd i) es with | some v => found v | none => miss) else .bad "lookup: key's type"
      | _ => .bad "lookup: no map")
    | _ => .bad "lookup: no map") else .bad "lookup: key"
  | none => .bad "lookup"
def setE (k v : V) : List Ent → List Ent
  | [] => []
  | e :: r => bif keyEq k e.key then ⟨k, v⟩ :: r else e :: setE k v r
def delE (k : V) : List Ent → List Ent
  | [] => []
  | e :: r => bif keyEq k e.key then r else e :: delE k r
def effUpdate (t : TypeId) (m k v : Operand) (P : Program) (c : Cx) : Eff := match mapTy P t, c.rd m with
  | some (kt, _), .map r => (match c.hp r with
    | .map kt' es cl => bif Nat.beq kt kt' && okKey P kt (c.rd k) then (match findE (c.rd k) es with
      | some _ => .set r (.map kt (setE (c.rd k) (c.rd v) es) cl) und
      | none => .set r (.map kt (es ++ [⟨c.rd k, c.rd v⟩]) (cl + 1)) und) else .bad "update: key"
    | _ => .bad "update: no map")
  | _, _ => .bad "update"
def effRange (t : TypeId) (x : Operand) (P : Program) (c : Cx) : Eff := match P.underlying t, c.rd x with
  | some .string, .str s l => .new (.siter s l 0) (.ptr c.nx 0)
  | some (.map ..), .nilm => .new (.miter none 0 [] 0) (.ptr c.nx 0)
  | some (.map ..), .map r => (match c.hp r with | .map _ _ cl => .new (.miter (some r) cl [] cl) (.ptr c.nx 0) | _ => .bad "range")
  | _, _ => .bad "range"
def memN (n : Nat) : List Nat → Bool | [] => false | m :: r => bif Nat.beq n m then true else memN n r
def memK (k : V) : List V → Bool | [] => false | m :: r => bif keyEq k m then true else memK k r
def leftE (seen : List V) : List Ent → List Ent
  | [] => []
  | e :: r => bif memK e.key seen then leftE seen r else e :: leftE seen r
def effNext (it : Operand) (isStr : Bool) (_P : Program) (c : Cx) : Eff := match c.rd it with
  | .ptr b 0 => (match c.hp b, isStr with
    | .siter s l p, true => bif Nat.ble (p + 1) l then
        (match sDecode s l p with | (r, w) => .set b (.siter s l (p + w)) (.tup [.bool true, .int .i64 (Int.ofNat p), .int .i32 (Int.ofNat r)]))
        else .val (.tup [.bool false])
    | .miter none _ _ _, false => .val (.tup [.bool false])
    | .miter (some m) since seen last, false => (match c.hp m with
      | .map _ es cl => bif Nat.beq cl since && Nat.beq cl last then
          (match leftE seen es with
           | [] => .val (.tup [.bool false])
           | left => .fork b (left.map fun e => (.miter (some m) since (seen ++ [e.key]) cl, .tup [.bool true, e.key, e.val])))
          else .bad "next: inserted meanwhile"
      | _ => .bad "next")
    | _, _ => .bad "next")
  | _ => .bad "next"
def lastL : List V → Option V | [] => none | [x] => some x | _ :: r => lastL r
def effEntry (it : Operand) (_P : Program) (c : Cx) : Eff := match c.rd it with
  | .ptr b 0 => (match c.hp b with
    | .miter (some m) _ seen stepped => (match lastL seen, c.hp m with
      | some k, .map _ es cl => bif Nat.beq cl stepped then (match findE k es with | some v => .val (.tup [k, v]) | none => .bad "entry") else .bad "entry"
      | _, _ => .bad "entry")
    | _ => .bad "entry")
  | _ => .bad "entry"
def hasM1 (l : List Method) (q : String × TypeId) : Bool := match l with
  | [] => false
  | m :: r => bif m.name == q.1 && m.sig == q.2 then true else hasM1 r q
def hasMs (P : Program) (t u : TypeId) : Option Bool := match P.underlying u, P.info? t with
  | some (.interface want), some i => some (allL (hasM1 i.methods.toList) want.toList)
  | _, _ => none
def isIfc (P : Program) (t : TypeId) : Option Bool := match P.underlying t with | some (.interface _) => some true | some _ => some false | none => none
def effAssert (x : Operand) (_xt u : TypeId) (ok : Bool) (P : Program) (c : Cx) : Eff :=
  let holds (v : V) : Eff := .val (match ok with | true => .tup [v, .bool true] | false => v)
  let fails : Eff := match ok, zeroV P u with | true, some z => .val (.tup [z, .bool false]) | _, _ => .bad "typeAssert: panics"
  match isIfc P u, c.rd x with
  | some _, .nili => fails
  | some true, .ifc t v => (match hasMs P t u with | some true => holds (.ifc t v) | some false => fails | none => .bad "typeAssert")
  | some false, .ifc t v => bif Nat.beq t u then holds v else fails
  | _, _ => .bad "typeAssert"
/-! builtins -/
def lenX (d : Option TypeDesc) (v : V) (c : Cx) : Eff :=
  let g (n : Nat) : Eff := .val (.int .i64 (Int.ofNat n))
  match d, v with
  | some .string, .str _ l => g l
  | some (.array n _), _ => g n
  | some (.slice _), .nils => g 0
  | some (.slice _), .slc _ _ l _ _ _ => g l
  | some (.map ..), .nilm => g 0
  | some (.map ..), .map r => (match c.hp r with | .map _ es _ => g (lenL es 0) | _ => .bad "len")
  | _, _ => .bad "len"
def effLen (ts : List TypeId) (x : Operand) (P : Program) (c : Cx) : Eff := match ts with
  | t :: _ => lenX (P.underlying t) (c.rd x) c
  | [] => .bad "len"
def capX (d : Option TypeDesc) (v : V) : Eff := match d, v with
  | some (.slice _), .nils => .val (.int .i64 0)
  | some (.slice _), .slc _ _ _ cap _ true => .val (.int .i64 (Int.ofNat cap))
  | some (.slice _), .slc b o _ _ es false => bif Nat.ble 1 es then .val (.capv b o es) else .bad "cap"
  | some (.array n _), _ => .val (.int .i64 (Int.ofNat n))
  | _, _ => .bad "cap: not known"
def effCap (ts : List TypeId) (x : Operand) (P : Program) (c : Cx) : Eff := match ts with
  | t :: _ => capX (P.underlying t) (c.rd x)
  | [] => .bad "cap"
/-- what is appended: how many, the cells (bytes as a number where the row is of bytes) -/
inductive Src where | bad | cells (n : Nat) (l : List V) | bytes (n s : Nat)
def srcOf (u8 : Bool) (es : Nat) (x : V) (c : Cx) : Src := match x with
  | .nils => (match u8 with | true => .bytes 0 0 | false => .cells 0 [])
  | .slc b o l _ e _ => bif Nat.beq e es then (match u8 with
      | true => (match getB (c.hp b) o l with | some s => .bytes l s | none => .bad)
      | false => (match getO (c.hp b) o (l * es) with | some r => .cells l r | none => .bad)) else .bad
  | .str s l => (match u8 with | true => .bytes l s | false => .bad)
  | _ => .bad
def zerosOf (P : Program) (u8 : Bool) (e : TypeId) (n : Nat) : Src := match u8 with
  | true => .bytes n 0
  | false => (match zeroL P e with | some z => .cells n (repL z n) | none => .bad)
def Src.n : Src → Nat | .bad => 0 | .cells n _ => n | .bytes n _ => n
/-- the row that a grown slice gets -/
def growO (c : Cx) (u8 : Bool) (s : V) (es : Nat) (src : Src) (e : TypeId) : Option Obj := match s, src with
  | .nils, .cells _ l => some (.cells l e 0)
  | .nils, .bytes n t => some (.bytes t n e 0)
  | .slc b o l _ _ _, .cells _ r => (match u8, getO (c.hp b) o (l * es) with | false, some old => some (.cells (old ++ r) e 0) | _, _ => none)
  | .slc b o l _ _ _, .bytes n t => (match getB (c.hp b) o l with | some old => some (.bytes (sCat old l t) (l + n) e 0) | none => none)
  | _, _ => none
def putSrc (ob : Obj) (o : Nat) (src : Src) : Option Obj := match src with
  | .cells _ l => putO ob o l
  | .bytes m t => (match ob with
    | .bytes s l e h => bif Nat.ble (o + m) l then some (.bytes (sPut s l o t m) l e h) else none
    | .cells _ _ _ => putO ob o (sCells t m m 0)
    | _ => none)
  | .bad => none
def much (n by' : Nat) : Bool := Nat.ble n 1099511627776 && Nat.ble (n * by') 1099511627776
/-- a block that may go on as it is, or be copied -/
def moveOk (u8 : Bool) (e : TypeId) : Obj → Bool
  | .cells _ e' _ => Nat.beq e e'
  | .bytes _ _ e' _ => (match u8 with | true => Nat.beq e e' | false => false)
  | _ => false
/-- so many cells do certainly not fit -/
def noFit (n : Nat) (ob : Obj) : Bool := !(Nat.beq (hiOf ob) 0) && Nat.ble (hiOf ob) n
def fits (ex : Bool) (n cap cells : Nat) (ob : Obj) : Bool := match ex with | true => Nat.ble n cap | false => Nat.ble cells (known ob)
def growX (P : Program) (e : TypeId) (u8 : Bool) (c : Cx) (s : V) (src : Src) (n : Nat) (k : Obj → Eff) : Eff :=
  bif much n (P.bytesOf e) then (match growO c u8 s (P.cellsOf e) src e with
    | some x => k x
    | none => .bad "append: grow") else .bad "append: much"
def appendN (P : Program) (e : TypeId) (u8 : Bool) (c : Cx) (src : Src) : Eff :=
  bif Nat.beq src.n 0 then .val .nils else
  growX P e u8 c .nils src src.n fun x => .new x (.slc c.nx 0 src.n 0 (P.cellsOf e) false)
def appendS (P : Program) (e : TypeId) (u8 : Bool) (c : Cx) (b o len cap : Nat) (ex : Bool) (src : Src) : Eff :=
  let es := P.cellsOf e
  bif Nat.beq src.n 0 then .val (.slc b o len cap es ex) else
  bif fits ex (len + src.n) cap (o + (len + src.n) * es) (c.hp b) then
    (match putSrc (c.hp b) (o + len * es) src with | some ob => .set b ob (.slc b o (len + src.n) cap es ex) | none => .bad "append: in place")
  else growX P e u8 c (.slc b o len cap es ex) src (len + src.n) fun x =>
    bif ex || noFit (o + (len + src.n) * es) (c.hp b) then .new x (.slc c.nx 0 (len + src.n) 0 es false)
    else bif moveOk u8 e (c.hp b) then .setnew b .free x (.slc c.nx 0 (len + src.n) 0 es false) else .bad "append: move"
def hasZ : Option (List V) → Bool | some _ => true | none => false
def appendX (P : Program) (e : TypeId) (c : Cx) (s : V) (src : Src) : Eff :=
  match src with
  | .bad => .bad "append: source"
  | src => bif Nat.ble 1 (P.cellsOf e) && hasZ (zeroL P e) then (match s with
    | .nils => appendN P e (isU8 P e) c src
    | .slc b o len cap es ex => bif Nat.beq (P.cellsOf e) es then appendS P e (isU8 P e) c b o len cap ex src else .bad "append: size"
    | _ => .bad "append") else .bad "append: size"
def effAppend (ts : List TypeId) (s x : Operand) (P : Program) (c : Cx) : Eff := match ts with
  | st :: xt :: _ => (match P.underlying st, P.underlying xt with
    | some (.slice e), some (.int _) => (match natV (c.rd x) with
        | some n => bif much n (P.bytesOf e) then appendX P e c (c.rd s) (zerosOf P (isU8 P e) e n) else .bad "append: zeros"
        | none => .bad "append: zeros")
    | some (.slice e), some _ => appendX P e c (c.rd s) (srcOf (isU8 P e) (P.cellsOf e) (c.rd x) c)
    | _, _ => .bad "append")
  | _ => .bad "append"
def lenV : V → Option Nat | .nils => some 0 | .slc _ _ l _ _ _ => some l | .str _ l => some l | _ => none
def cutV (n : Nat) : V → V
  | .slc b o _ cap es ex => .slc b o n cap es ex
  | .str s l => .str (sSub s l 0 n) n
  | v => v
def copyX (P : Program) (e : TypeId) (b o n : Nat) (x : V) (c : Cx) : Eff :=
  match putSrc (c.hp b) o (srcOf (isU8 P e) (P.cellsOf e) (cutV n x) c) with
  | some ob => .set b ob (.int .i64 (Int.ofNat n))
  | none => .bad "copy"
def effCopy (ts : List TypeId) (d x : Operand) (P : Program) (c : Cx) : Eff := match ts with
  | dt :: _ => (match P.underlying dt, c.rd d, lenV (c.rd x) with
    | some (.slice e), .nils, some _ => bif isInfo P e then .val (.int .i64 0) else .bad "copy"
    | some (.slice e), .slc b o dl _ _ _, some xl => bif isInfo P e then
        (bif Nat.beq (Nat.min xl dl) 0 then .val (.int .i64 0) else copyX P e b o (Nat.min xl dl) (c.rd x) c) else .bad "copy"
    | _, _, _ => .bad "copy")
  | _ => .bad "copy"
def clearS (P : Program) (e : TypeId) (b o l : Nat) (c : Cx) : Eff :=
  bif Nat.beq l 0 then .val und else match putSrc (c.hp b) o (zerosOf P (isU8 P e) e l) with
  | some ob => .set b ob und
  | none => .bad "clear"
def clearM (r : Nat) (c : Cx) : Eff := match c.hp r with | .map kt _ cl => .set r (.map kt [] cl) und | _ => .bad "clear"
def clearX (P : Program) (d : TypeDesc) (v : V) (c : Cx) : Eff := match v with
  | .nilm => .val und
  | .nils => .val und
  | .map r => clearM r c
  | .slc b o l _ _ _ => (match d with | .slice e => clearS P e b o l c | _ => .bad "clear")
  | _ => .bad "clear"
def effClear (ts : List TypeId) (x : Operand) (P : Program) (c : Cx) : Eff := match ts with
  | t :: _ => (match P.underlying t with
    | some d => clearX P d (c.rd x) c
    | none => .bad "clear")
  | _ => .bad "clear"
def minmax (mx : Bool) : V → List V → Option V
  | v, [] => some v
  | .int k a, .int _ b :: r => (match mx with
    | true => minmax mx (.int k (bif iltb a b then b else a)) r
    | false => minmax mx (.int k (bif iltb b a then b else a)) r)
  | _, _ => none
def effMM (mx : Bool) (xs : List Operand) (_P : Program) (c : Cx) : Eff := match rds xs c with
  | v :: r => (match minmax mx v r with | some (.int k n) => .val (.int k n) | _ => .bad "min")
  | [] => .bad "min"
def effDelete (ts : List TypeId) (m k : Operand) (P : Program) (c : Cx) : Eff := match ts with
  | t :: _ => (match mapTy P t, c.rd m with
    | some (kt, _), .nilm => bif okKey P kt (c.rd k) then .val und else .bad "delete"
    | some (kt, _), .map r => (match c.hp r with
      | .map kt' es cl => bif Nat.beq kt kt' && okKey P kt (c.rd k) then (match findE (c.rd k) es with
        | some _ => .set r (.map kt (delE (c.rd k) es) cl) und
        | none => .val und) else .bad "delete"
      | _ => .bad "delete")
    | _, _ => .bad "delete")
  | _ => .bad "delete"
def effBuiltin (b : Builtin) (ts : Array TypeId) (args : Array Operand) : Program → Cx → Eff := match b, args.toList with
  | .len, [x] => effLen ts.toList x
  | .cap, [x] => effCap ts.toList x
  | .append, [s, x] => effAppend ts.toList s x
  | .copy, [d, x] => effCopy ts.toList d x
  | .clear, [x] => effClear ts.toList x
  | .min, xs => effMM false xs
  | .max, xs => effMM true xs
  | .delete, [m, k] => effDelete ts.toList m k
  | _, _ => fun _ _ => .bad "builtin"
/-! calls -/
inductive Ext where | indexByte | index | count | compare | overlaps (size : Nat) | clone | same | add64 | typeOf (u g : Nat) | comparable (g : Nat) (l : List (Nat × Bool))
def lookB (t : Nat) : List (Nat × Bool) → Option Bool
  | [] => none
  | x :: r => bif Nat.beq x.1 t then some x.2 else lookB t r
def effExt (x : Ext) (args : List V) (c : Cx) : Eff := match x, args with
  | .indexByte, [s, .int .u8 (.ofNat q)] => (match Nat.ble q 255, srcOf true 1 s c with
    | true, .bytes l t => .val (.int .i64 (sIndexByte t l q l 0))
    | _, _ => .bad "indexByte")
  | .count, [s, .int .u8 (.ofNat q)] => (match Nat.ble q 255, srcOf true 1 s c with
    | true, .bytes l t => .val (.int .i64 (Int.ofNat (sCount t l q l 0 0)))
    | _, _ => .bad "count")
  | .compare, [s, u] => (match srcOf true 1 s c, srcOf true 1 u c with
    | .bytes l a, .bytes m b => .val (.int .i64 (bif sLt a l b m then -1 else bif sEq a l b m then 0 else 1))
    | _, _ => .bad "compare")
  | .overlaps _, [.nils, .nils] => .val (.bool false)
  | .overlaps _, [.nils, .slc ..] => .val (.bool false)
  | .overlaps _, [.slc .., .nils] => .val (.bool false)
  | .overlaps sz, [.slc b o l _ es _, .slc b' o' l' _ es' _] => bif Nat.beq l 0 || Nat.beq l' 0 then .val (.bool false) else
      bif !(Nat.beq es sz) then .bad "overlaps: size" else
      bif Nat.beq b b' && Nat.beq es es' then .val (.bool (Nat.ble (o + 1) (o' + l' * es) && Nat.ble (o' + 1) (o + l * es)))
      else bif Nat.beq b b' then .bad "overlaps" else (match c.hp b, c.hp b' with
        | .cells .., .cells .. => .val (.bool false)
        | _, _ => .bad "overlaps")
  | .clone, [.ifc t (.map r)] => (match c.hp r with | .map kt es cl => .new (.map kt es cl) (.ifc t (.map c.nx)) | _ => .bad "clone")
  | .same, [v] => .val v
  | .typeOf _ _, [.nili] => .val .nili
  | .typeOf u g, [.ifc t _] => .val (.ifc u (.agg [.ptr g t]))
  | .comparable g l, [.agg [.ptr b t]] => bif Nat.beq b g then (match lookB t l with | some q => .val (.bool q) | none => .bad "comparable") else .bad "comparable"
  | _, _ => .bad "extern"
/-- a table: a package variable whose cells are numbers -/
structure Tab where
  g : Nat
  vs : List V
  e : TypeId
/-- what a call is known to answer: from a memory that knows the tables, of these arguments. New blocks stand from 1000 on. -/
structure Memo where
  args : List V
  ts : List Tab
  v : V
  n : Nat
  objs : List (Nat × Obj)
/-- the same of one call at one place: memory as it is there (what the call reads), and behind it (what is read later) -/
structure MemoX where
  args : List V
  nx : Nat
  ts : List Tab
  pre : List (Nat × Obj)
  v : V
  nx2 : Nat
  post : List (Nat × Obj)
  keep : List Nat
structure Cfg where
  P : Program
  ext : FuncId → Option Ext
  memo : FuncId → List Memo := fun _ => []
  exact : FuncId → List MemoX := fun _ => []
def methL (l : List Method) (name : String) : Option Method := match l with
  | [] => none
  | m :: r => bif m.name == name then some m else methL r name
/-- the function of a method of a value, and the receiver -/
def methOf (P : Program) (t : TypeId) (name : String) : Option (FuncId × Bool) := match P.info? t with
  | some i => (match methL i.methods.toList name with
    | some m => bif m.path.isEmpty then m.func else none
    | none => none)
  | none => none
def isPtr (P : Program) (t : TypeId) : Option Bool := match P.underlying t with | some (.pointer _) => some true | some _ => some false | none => none
def callX (C : Cfg) (f : FuncId) (args : List V) (c : Cx) : Eff := match C.P.funcs[f]? with
  | none => .bad "call: no function"
  | some fn => match fn.body with
    | some _ => .call f args
    | none => (match C.ext f with | some x => effExt x args c | none => .bad "call: extern")
def effInvoke (C : Cfg) (recv : V) (name : String) (args : List V) (c : Cx) : Eff := match recv with
  | .ifc t v => (match methOf C.P t name with
    | some (f, pr) => (match isPtr C.P t, pr with
      | some true, true => callX C f (v :: args) c
      | some false, false => callX C f (v :: args) c
      | _, _ => .bad "invoke: through a pointer")
    | none => .bad "invoke: method")
  | _ => .bad "invoke: nil"
def effCall (q : Call) (C : Cfg) (c : Cx) : Eff := match q.callee with
  | .builtin b => effBuiltin b q.argTypes q.args C.P c
  | .invoke r name => effInvoke C (c.rd r) name (rds q.args.toList c) c
  | .value f => (match c.rd f with
    | .fn (.func g) cap => callX C g (rds q.args.toList c ++ cap) c
    | .fn (.yield l) _ => .round l (rds q.args.toList c)
    | _ => .bad "call: value")
/-! the dispatch: each arm closed -/
def eMove (x : Operand) (_ : Cfg) (c : Cx) : Eff := .val (c.rd x)
def eMap0 (t : TypeId) (C : Cfg) (c : Cx) : Eff := match mapTy C.P t with | some (kt, _) => .new (.map kt [] 0) (.map c.nx) | none => .bad "makeMap"
def eMap1 (t : TypeId) (x : Operand) (C : Cfg) (c : Cx) : Eff := match mapTy C.P t, c.rd x with | some (kt, _), .int _ _ => .new (.map kt [] 0) (.map c.nx) | _, _ => .bad "makeMap"
def eMap (t : TypeId) (r : Option Operand) : Cfg → Cx → Eff := match r with | none => eMap0 t | some x => eMap1 t x
def eBad (_ : Cfg) (_ : Cx) : Eff := .bad "operation"
def eff (o : Op) : Cfg → Cx → Eff := match o with
  | .move x => eMove x
  | .assign x => eMove x
  | .pick k a b => fun C => effPick k a b C.P
  | .alloc e => fun C => effAlloc e C.P
  | .box e x => fun C => effBox e x C.P
  | .build t ps => fun C => effBuild t ps C.P
  | .buildSlice t n ps => fun C => effBuildSlice t n ps C.P
  | .insert t m k v => fun C => effUpdate t m k v C.P
  | .load t a => fun C => effLoad t a C.P
  | .store t a x => fun C => effStore t a x C.P
  | .nilCheck x => fun C => effNil x C.P
  | .binOp op t x y _ => fun C => effBin op t x y C.P
  | .unOp op _ x => fun C => effUn op x C.P
  | .convert s d x => fun C => effConv s d x C.P
  | .makeInterface t x => fun C => effIface t x C.P
  | .makeFunc f a b => fun C => effFunc f a b C.P
  | .makeMap t r => eMap t r
  | .makeSlice t l k => fun C => effMakeSlice t l k C.P
  | .slice t x l h m => fun C => effSlice t x l h m C.P
  | .fieldAddr s x f => fun C => effFieldAddr s x f C.P
  | .field s x f => fun C => effField s x f C.P
  | .indexAddr t x i => fun C => effIndexAddr t x i C.P
  | .index t x i => fun C => effIndex t x i C.P
  | .lookup t x i ok => fun C => effLookup t x i ok C.P
  | .mapUpdate t m k v => fun C => effUpdate t m k v C.P
  | .range t x => fun C => effRange t x C.P
  | .next i s => fun C => effNext i s C.P
  | .entry i => fun C => effEntry i C.P
  | .typeAssert x xt u ok => fun C => effAssert x xt u ok C.P
  | .extract x i => fun C => effExtract x i C.P
  | .call q => effCall q
  | _ => eBad
end Go.X

namespace Go.X
/-! ## Memories and frames: tries of eight -/
inductive E8 (α : Type) where
  | nil : E8 α
  | mk (a0 a1 a2 a3 a4 a5 a6 a7 : α) : E8 α
  deriving Inhabited
inductive D8 where | d0 | d1 | d2 | d3 | d4 | d5 | d6 | d7
  deriving DecidableEq
def d8 (n : Nat) : D8 := match n with | 0 => .d0 | 1 => .d1 | 2 => .d2 | 3 => .d3 | 4 => .d4 | 5 => .d5 | 6 => .d6 | _ => .d7
def D8.nat : D8 → Nat | .d0 => 0 | .d1 => 1 | .d2 => 2 | .d3 => 3 | .d4 => 4 | .d5 => 5 | .d6 => 6 | .d7 => 7

def gl0 {α β : Type} (z : β) (g : α → List D8 → β) (t : E8 α) (r : List D8) : β := E8.casesOn (motive := fun _ => List D8 → β) t (fun _ => z) (fun a0 a1 a2 a3 a4 a5 a6 a7 r => g a0 r) r
def gl1 {α β : Type} (z : β) (g : α → List D8 → β) (t : E8 α) (r : List D8) : β := E8.casesOn (motive := fun _ => List D8 → β) t (fun _ => z) (fun a0 a1 a2 a3 a4 a5 a6 a7 r => g a1 r) r
def gl2 {α β : Type} (z : β) (g : α → List D8 → β) (t : E8 α) (r : List D8) : β := E8.casesOn (motive := fun _ => List D8 → β) t (fun _ => z) (fun a0 a1 a2 a3 a4 a5 a6 a7 r => g a2 r) r
def gl3 {α β : Type} (z : β) (g : α → List D8 → β) (t : E8 α) (r : List D8) : β := E8.casesOn (motive := fun _ => List D8 → β) t (fun _ => z) (fun a0 a1 a2 a3 a4 a5 a6 a7 r => g a3 r) r
def gl4 {α β : Type} (z : β) (g : α → List D8 → β) (t : E8 α) (r : List D8) : β := E8.casesOn (motive := fun _ => List D8 → β) t (fun _ => z) (fun a0 a1 a2 a3 a4 a5 a6 a7 r => g a4 r) r
def gl5 {α β : Type} (z : β) (g : α → List D8 → β) (t : E8 α) (r : List D8) : β := E8.casesOn (motive := fun _ => List D8 → β) t (fun _ => z) (fun a0 a1 a2 a3 a4 a5 a6 a7 r => g a5 r) r
def gl6 {α β : Type} (z : β) (g : α → List D8 → β) (t : E8 α) (r : List D8) : β := E8.casesOn (motive := fun _ => List D8 → β) t (fun _ => z) (fun a0 a1 a2 a3 a4 a5 a6 a7 r => g a6 r) r
def gl7 {α β : Type} (z : β) (g : α → List D8 → β) (t : E8 α) (r : List D8) : β := E8.casesOn (motive := fun _ => List D8 → β) t (fun _ => z) (fun a0 a1 a2 a3 a4 a5 a6 a7 r => g a7 r) r
def gl {α β : Type} (z : β) (g : α → List D8 → β) (t : E8 α) (p : List D8) : β := List.casesOn (motive := fun _ => E8 α → β) p (fun _ => z) (fun d r t => D8.casesOn (motive := fun _ => E8 α → List D8 → β) d (gl0 z g) (gl1 z g) (gl2 z g) (gl3 z g) (gl4 z g) (gl5 z g) (gl6 z g) (gl7 z g) t r) t
def sl0 {α γ β : Type} (z : α) (s : α → List D8 → γ → (α → β) → β) (t : E8 α) (r : List D8) (o : γ) (k : E8 α → β) : β := E8.casesOn (motive := fun _ => β) t (s z r o fun x => k (.mk x z z z z z z z)) (fun a0 a1 a2 a3 a4 a5 a6 a7 => s a0 r o fun x => k (.mk x a1 a2 a3 a4 a5 a6 a7))
def sl1 {α γ β : Type} (z : α) (s : α → List D8 → γ → (α → β) → β) (t : E8 α) (r : List D8) (o : γ) (k : E8 α → β) : β := E8.casesOn (motive := fun _ => β) t (s z r o fun x => k (.mk z x z z z z z z)) (fun a0 a1 a2 a3 a4 a5 a6 a7 => s a1 r o fun x => k (.mk a0 x a2 a3 a4 a5 a6 a7))
def sl2 {α γ β : Type} (z : α) (s : α → List D8 → γ → (α → β) → β) (t : E8 α) (r : List D8) (o : γ) (k : E8 α → β) : β := E8.casesOn (motive := fun _ => β) t (s z r o fun x => k (.mk z z x z z z z z)) (fun a0 a1 a2 a3 a4 a5 a6 a7 => s a2 r o fun x => k (.mk a0 a1 x a3 a4 a5 a6 a7))
def sl3 {α γ β : Type} (z : α) (s : α → List D8 → γ → (α → β) → β) (t : E8 α) (r : List D8) (o : γ) (k : E8 α → β) : β := E8.casesOn (motive := fun _ => β) t (s z r o fun x => k (.mk z z z x z z z z)) (fun a0 a1 a2 a3 a4 a5 a6 a7 => s a3 r o fun x => k (.mk a0 a1 a2 x a4 a5 a6 a7))
def sl4 {α γ β : Type} (z : α) (s : α → List D8 → γ → (α → β) → β) (t : E8 α) (r : List D8) (o : γ) (k : E8 α → β) : β := E8.casesOn (motive := fun _ => β) t (s z r o fun x => k (.mk z z z z x z z z)) (fun a0 a1 a2 a3 a4 a5 a6 a7 => s a4 r o fun x => k (.mk a0 a1 a2 a3 x a5 a6 a7))
def sl5 {α γ β : Type} (z : α) (s : α → List D8 → γ → (α → β) → β) (t : E8 α) (r : List D8) (o : γ) (k : E8 α → β) : β := E8.casesOn (motive := fun _ => β) t (s z r o fun x => k (.mk z z z z z x z z)) (fun a0 a1 a2 a3 a4 a5 a6 a7 => s a5 r o fun x => k (.mk a0 a1 a2 a3 a4 x a6 a7))
def sl6 {α γ β : Type} (z : α) (s : α → List D8 → γ → (α → β) → β) (t : E8 α) (r : List D8) (o : γ) (k : E8 α → β) : β := E8.casesOn (motive := fun _ => β) t (s z r o fun x => k (.mk z z z z z z x z)) (fun a0 a1 a2 a3 a4 a5 a6 a7 => s a6 r o fun x => k (.mk a0 a1 a2 a3 a4 a5 x a7))
def sl7 {α γ β : Type} (z : α) (s : α → List D8 → γ → (α → β) → β) (t : E8 α) (r : List D8) (o : γ) (k : E8 α → β) : β := E8.casesOn (motive := fun _ => β) t (s z r o fun x => k (.mk z z z z z z z x)) (fun a0 a1 a2 a3 a4 a5 a6 a7 => s a7 r o fun x => k (.mk a0 a1 a2 a3 a4 a5 a6 x))
def sl {α γ β : Type} (z : α) (s : α → List D8 → γ → (α → β) → β) (t : E8 α) (p : List D8) (o : γ) (k : E8 α → β) : β := List.casesOn (motive := fun _ => E8 α → γ → (E8 α → β) → β) p (fun t _ k => k t) (fun d r t o k => D8.casesOn (motive := fun _ => E8 α → List D8 → γ → (E8 α → β) → β) d (sl0 z s) (sl1 z s) (sl2 z s) (sl3 z s) (sl4 z s) (sl5 z s) (sl6 z s) (sl7 z s) t r o k) t o k
def jl {α : Type} (j : α → α → α) : E8 α → E8 α → E8 α | .mk a0 a1 a2 a3 a4 a5 a6 a7, .mk b0 b1 b2 b3 b4 b5 b6 b7 => .mk (j a0 b0) (j a1 b1) (j a2 b2) (j a3 b3) (j a4 b4) (j a5 b5) (j a6 b6) (j a7 b7) | _, _ => .nil
def dg : Nat → Nat → List D8 | 0, _ => [] | k + 1, b => d8 (b % 8) :: dg k (b / 8)
/-! ### frames: 64 slots -/
abbrev EF := E8 (E8 V)
def fget (i : Nat) (e : EF) : V := gl .junk (gl .junk fun v _ => v) e (dg 2 i)
def fsetK {β : Type} (i : Nat) (e : EF) (v : V) (k : EF → β) : β := sl (γ := V) .nil (sl .junk fun _ _ v k => k v) e (dg 2 i) v k
def fset (i : Nat) (e : EF) (v : V) : EF := fsetK i e v fun e => e
def e8 {α : Type} (a : α) : E8 α := .mk a a a a a a a a
def ef0 : EF := e8 (e8 und)
/-! ### memories -/
abbrev M1 := E8 Obj
abbrev M2 := E8 M1
abbrev M3 := E8 M2
abbrev M4 := E8 M3
abbrev M5 := E8 M4
abbrev M6 := E8 M5
abbrev HP := T M6
def g6 : M6 → List D8 → Obj := gl .free (gl .free (gl .free (gl .free (gl .free (gl .free fun o _ => o)))))
def s6 {β : Type} : M6 → List D8 → Obj → (M6 → β) → β := sl .nil (sl .nil (sl .nil (sl .nil (sl .nil (sl .free fun _ _ o k => k o)))))
def hget (h : HP) (b : Nat) : Obj := g6 (T.get .nil (bits (b / 262144)) h) (dg 6 b)
def hsetK {β : Type} (b : Nat) (o : Obj) (h : HP) (k : HP → β) : β := s6 (T.get .nil (bits (b / 262144)) h) (dg 6 b) o fun m => T.setK .nil (bits (b / 262144)) h m k
def hset (b : Nat) (o : Obj) (h : HP) : HP := hsetK b o h fun h => h
end Go.X

namespace Go.X

structure St where
  env : EF
  hp : HP
  nx : Nat
  marks : List Nat
  deriving Inhabited
structure FC where
  fid : Nat
  N : Nat
  msk : List Nat
  around : Option Nat
/-- a range over a function that goes on: its block, and what its rounds are of -/
structure LoopS where
  l : Nat
  fid : Nat
  N : Nat
  msk : List Nat
  env : EF
  ps : List Tmp
  asg : Code
  body : Code
def findLp (l : Nat) : List LoopS → Option LoopS
  | [] => none
  | s :: r => bif Nat.beq s.l l then some s else findLp l r
structure Fin where
  v : V
  hp : HP
  nx : Nat
  ex : Ex := .norm
  env : EF := .nil
  deriving Inhabited
inductive Ans where
  | stuck (why : String)
  | ok (l : List Fin)
  deriving Inhabited
def Ans.app : Ans → Ans → Ans
  | .stuck w, _ => .stuck w
  | .ok _, .stuck w => .stuck w
  | .ok a, .ok b => .ok (a ++ b)

/-! ### Joining two outcomes: what is alike in both -/
def listEq {α : Type} (f : α → α → Bool) : List α → List α → Bool
  | [], [] => true
  | x :: a, y :: b => bif f x y then listEq f a b else false
  | _, _ => false
def fnEq : Fn → Fn → Bool
  | .func f, .func g => Nat.beq f g
  | .yield a, .yield b => Nat.beq a b
  | _, _ => false
mutual
def beqV : V → V → Bool
  | .junk, .junk => true
  | .bool a, .bool b => a == b
  | .int k a, .int j b => bif keq k j then ieqb a b else false
  | .str a l, .str b m => bif Nat.beq a b then Nat.beq l m else false
  | .ptr a l, .ptr b m => bif Nat.beq a b then Nat.beq l m else false
  | .nilp, .nilp => true
  | .slc b o l c e x, .slc b' o' l' c' e' x' => bif Nat.beq b b' && Nat.beq o o' && Nat.beq l l' && Nat.beq c c' && Nat.beq e e' then x == x' else false
  | .nils, .nils => true
  | .capv b o e, .capv b' o' e' => bif Nat.beq b b' then (bif Nat.beq o o' then Nat.beq e e' else false) else false
  | .map a, .map b => Nat.beq a b
  | .nilm, .nilm => true
  | .fn f a, .fn g b => bif fnEq f g then beqVs a b else false
  | .nilf, .nilf => true
  | .ifc t a, .ifc u b => bif Nat.beq t u then beqV a b else false
  | .nili, .nili => true
  | .agg a, .agg b => beqVs a b
  | .tup a, .tup b => beqVs a b
  | _, _ => false
def beqVs : List V → List V → Bool
  | [], [] => true
  | x :: a, y :: b => bif beqV x y then beqVs a b else false
  | _, _ => false
end
def beqE (a b : Ent) : Bool := bif beqV a.key b.key then beqV a.val b.val else false
def anyE (e : Ent) : List Ent → Bool | [] => false | f :: r => bif beqE e f then true else anyE e r
def beqO : Obj → Obj → Bool
  | .free, .free => true
  | .cells a e h, .cells b f i => bif Nat.beq e f then (bif Nat.beq h i then beqVs a b else false) else false
  | .bytes a l e h, .bytes b m f i => bif Nat.beq e f then (bif Nat.beq a b then (bif Nat.beq h i then Nat.beq l m else false) else false) else false
  | .map k a c, .map k' b d => bif Nat.beq k k' && Nat.beq c d && Nat.beq (lenL a 0) (lenL b 0) then allL (fun e => anyE e a) b else false
  | .dfr, .dfr => true
  | .siter a l p, .siter b m q => bif Nat.beq a b then (bif Nat.beq l m then Nat.beq p q else false) else false
  | .miter (some m) a s l, .miter (some m') b s' l' => bif Nat.beq m m' && Nat.beq a b && Nat.beq l l' then beqVs s s' else false
  | .miter none a s l, .miter none b s' l' => bif Nat.beq a b && Nat.beq l l' then beqVs s s' else false
  | .loop .ready .norm d, .loop .ready .norm d' => Nat.beq d d'
  | .loop .busy .norm d, .loop .busy .norm d' => Nat.beq d d'
  | _, _ => false
def joinO (v w : Obj) : Obj := bif beqO v w then v else .free
def joinT : HP → HP → HP
  | .n a v c, .n a' v' c' => .n (joinT a a') (jl (jl (jl (jl (jl (jl joinO))))) v v') (joinT c c')
  | _, _ => .l
def joinF : List Fin → Fin → Option Fin
  | [], f => some f
  | g :: r, f => bif beqV f.v g.v then joinF r ⟨f.v, joinT f.hp g.hp, Nat.max f.nx g.nx, f.ex, f.env⟩ else none
def beqX : Ex → Ex → Bool
  | .norm, .norm => true
  | .ret, .ret => true
  | .exit a, .exit b => Nat.beq a b
  | .goto a, .goto b => Nat.beq a b
  | _, _ => false
def joinV (v w : V) : V := bif beqV v w then v else .junk
def joinE : EF → EF → EF := jl (jl joinV)
/-- joins what has the first one's way out -/
def joinX : List Fin → Fin → List Fin → Fin × List Fin
  | [], f, rest => (f, rest)
  | g :: r, f, rest => bif beqX f.ex g.ex then joinX r ⟨f.v, joinT f.hp g.hp, Nat.max f.nx g.nx, f.ex, joinE f.env g.env⟩ rest else joinX r f (g :: rest)
/-- the slice that is answered lies in a new block now, the elder one is given up -/
def cutO (o n : Nat) : Obj → Option Obj
  | .cells vs e _ => (let r := takeL n (dropL o vs); bif Nat.beq (lenL r 0) n then some (.cells r e 0) else none)
  | .bytes s l e _ => bif Nat.ble (o + n) l then some (.bytes (sSub s l o (o + n)) n e 0) else none
  | _ => none
def reissue (n : Nat) (f : Fin) : Option Fin := match f.v with
  | .slc b o l _ es false => (match cutO o (l * es) (hget f.hp b) with
    | some x => some ⟨.slc n 0 l 0 es false, hset n x (hset b .free f.hp), n + 1, f.ex, f.env⟩
    | none => none)
  | _ => none
def maxNx : List Fin → Nat → Nat
  | [], n => n
  | f :: r, n => maxNx r (Nat.max f.nx n)
def reissueL (n : Nat) : List Fin → Option (List Fin)
  | [] => some []
  | f :: r => match reissue n f, reissueL n r with
    | some g, some l => some (g :: l)
    | _, _ => none
def joinAll (l : List Fin) : Option Fin := match l with
  | [] => none
  | f :: r => match joinF r f with
    | some g => some g
    | none => match reissueL (maxNx l 0) l with
      | some (g :: r) => joinF r g
      | _ => none
/-- one outcome out of all -/
def one (a : Ans) (k : Fin → Ans) : Ans := match a with
  | .stuck w => .stuck w
  | .ok [] => .stuck "no outcome"
  | .ok (f :: r) => match r with
    | [] => k f
    | _ => (match joinAll (f :: r) with
      | some g => k g
      | none => .stuck "outcomes that differ")

/-- each way out once -/
def outs (k : Fin → Ans) : Nat → List Fin → Ans
  | 0, _ => .stuck "outs"
  | n + 1, l => match l with
    | [] => .stuck "no outcome"
    | f :: r => match r with
      | [] => k f
      | _ => match joinX r f [] with
        | (g, rest) => match rest with
          | [] => k g
          | _ => Ans.app (k g) (outs k n rest)
def outsA (k : Fin → Ans) : Ans → Ans
  | .stuck w => .stuck w
  | .ok l => outs k 10 l
def opForks (o : Oper) : Bool := match o.op with | .next _ false => true | _ => false
def codeForks : Code → Bool
  | .region _ ops _ => ops.toList.any opForks
  | .seq a b => bif codeForks a then true else codeForks b
  | .cond _ a b => bif codeForks a then true else codeForks b
  | .block _ c => codeForks c
  | .loop c => codeForks c
  | .scope c => codeForks c
  | _ => false
/-! ### Effects -/
/-- the place of a slot in the frame -/
def ixOf (t : Nat) : List Nat → Nat → Option Nat
  | [], _ => none
  | u :: r, i => bif Nat.beq u t then (bif Nat.ble (i + 1) 64 then some i else none) else ixOf t r (i + 1)
def putH {β : Type} (b : Nat) (o : Obj) (h : HP) (k : HP → β) : β := seqO o fun o => hsetK b o h k
structure Calls where
  call : FuncId → List V → HP → Nat → Ans
  round : Nat → List V → HP → Nat → Ans
abbrev KV := V → HP → Nat → Ans
def forks (b : Nat) (hp : HP) (nx : Nat) (k : KV) : List (Obj × V) → Ans
  | [] => .stuck "fork of none"
  | x :: r => match x with
    | (o, v) => match r with
      | [] => putH b o hp fun h => seqV v fun v => k v h nx
      | _ => Ans.app (putH b o hp fun h => seqV v fun v => k v h nx) (forks b hp nx k r)
def doEff (G : Calls) (e : Eff) (hp : HP) (nx : Nat) (k : KV) : Ans := match e with
  | .bad w => .stuck w
  | .val v => seqV v fun v => k v hp nx
  | .new o v => putH nx o hp fun h => seqV v fun v => seqN (nx + 1) fun n => k v h n
  | .set b o v => putH b o hp fun h => seqV v fun v => k v h nx
  | .setnew b o p v => putH b o hp fun h => putH nx p h fun h => seqV v fun v => seqN (nx + 1) fun n => k v h n
  | .call f args => one (G.call f args hp nx) fun r => k r.v r.hp r.nx
  | .round l args => one (G.round l args hp nx) fun r => k r.v r.hp r.nx
  | .fork b l => forks b hp nx k l

/-! ### Regions -/
/-- where an operand is found: among what this region has made, in the frame, or it is constant -/
inductive Src0 where | loc (k : Nat) | env (i : Nat) | const (v : V)
def locIx (t : Nat) : List (Option Tmp) → Nat → Option Nat
  | [], _ => none
  | d :: r, k => match d with
    | some u => bif Nat.beq u t then some k else locIx t r (k + 1)
    | none => locIx t r (k + 1)
def opdSrc (G : List Nat) (past : List (Option Tmp)) (x : Operand) : Src0 := match x with
  | .tmp t => (match ixOf t G 0 with
    | some i => .env i
    | none => (match locIx t past 0 with | some k => .loc k | none => .const .junk))
  | .const v => .const (ofV v)
  | .global g => .const (bif Nat.ble (g + 1) 1000 then .ptr g 0 else .junk)
  | .func f => .const (.fn (.func f) [])
def getLoc : Nat → List V → V
  | 0, l => match l with | v :: _ => v | [] => .junk
  | k + 1, l => match l with | _ :: r => getLoc k r | [] => .junk
def rdS (s : Src0) : List V → EF → V := match s with
  | .loc k => fun l _ => getLoc k l
  | .env i => fun _ e => fget i e
  | .const v => fun _ _ => v
/-- an operation, and what this region has made ahead of it -/
structure ROp where
  ix : Nat
  op : Op
  dst : Option Tmp
  glob : Option Nat
  guard : Option (Operand × Bool)
  never : Bool
  past : List (Option Tmp)
  pos : String
def guardOf (ops : Array Oper) (o : Oper) : Option (Operand × Bool) := match o.guard with
  | none => none
  | some (j, want) => match (ops[j]?).bind (·.dst) with
    | none => none
    | some d => some (.tmp d, want)
def neverOf (ops : Array Oper) (o : Oper) : Bool := match o.guard with
  | none => false
  | some (j, _) => match (ops[j]?).bind (·.dst) with
    | none => true
    | some _ => false
def globOf (G : List Nat) (dst : Option Tmp) : Option Nat := match dst with | some d => ixOf d G 0 | none => none
def resolveR (G : List Nat) (ops : Array Oper) : List Nat → List (Option Tmp) → List ROp
  | [], _ => []
  | i :: r, past => match ops[i]? with
    | some o => ⟨i, o.op, o.dst, globOf G o.dst, guardOf ops o, neverOf ops o, past, o.pos⟩ :: resolveR G ops r (o.dst :: past)
    | none => resolveR G ops r past
def upto : Nat → List Nat → List Nat
  | 0, acc => acc
  | n + 1, acc => upto n (n :: acc)
/-- is the operation done? none: not known -/
def wantR (o : ROp) (rd : Operand → V) : Option Bool := match o.never with
  | true => some false
  | false => match o.guard with
    | none => some true
    | some (x, want) => match rd x with
      | .bool b => some (b == want)
      | .junk => none
      | _ => some false
abbrev KL := List V → EF → HP → Nat → Ans
def pushR (o : ROp) (v : V) (loc : List V) (env : EF) (hp : HP) (nx : Nat) (k : KL) : Ans := match o.glob with
  | some i => seqV v fun v => fsetK i env v fun env => k (v :: loc) env hp nx
  | none => k (v :: loc) env hp nx
def stepOp (C : Cfg) (G : Calls) (msk : List Nat) (o : ROp) (loc : List V) (env : EF) (hp : HP) (nx : Nat) (k : KL) : Ans :=
  let rd : Operand → V := fun x => rdS (opdSrc msk o.past x) loc env
  match wantR o rd with
  | none => .stuck "guard"
  | some true => doEff G (eff o.op C ⟨rd, hget hp, nx⟩) hp nx fun v hp nx => pushR o v loc env hp nx k
  | some false => pushR o und loc env hp nx k
def dstOk (N : Nat) : Option Tmp → Bool | none => true | some d => Nat.ble (d + 1) N
def dstsOk (N : Nat) (ops : Array Oper) : Bool := allL (fun o => dstOk N o.dst) ops.toList
def seqOps (C : Cfg) (G : Calls) (msk : List Nat) : List ROp → List V → EF → HP → Nat → KL → Ans
  | [], loc, env, hp, nx, k => k loc env hp nx
  | o :: r, loc, env, hp, nx, k => stepOp C G msk o loc env hp nx fun loc env hp nx => seqOps C G msk r loc env hp nx k

/-! ### Regions that draw their order -/
def isBig : Op → Bool
  | .store .. | .mapUpdate .. | .insert .. | .next .. | .range .. | .entry .. => true
  | .call c => (match c.callee with
    | .builtin b => (match b with | .len | .cap | .min | .max => false | _ => true)
    | _ => true)
  | _ => false
def isAlloc : Op → Bool
  | .alloc _ | .box .. | .buildSlice .. | .makeMap .. | .makeSlice .. => true
  | .convert .. => true
  | _ => false
/-- what it yields may hang on memory -/
def isRead : Op → Bool
  | .load .. | .lookup .. | .slice .. | .convert .. => true
  | .call _ => true
  | _ => false
def edges (o : Oper) : List Nat := o.after.toList.filterMap fun e => bif Region.binds .any e then some e.on else none
def anyL {α : Type} (f : α → Bool) : List α → Bool | [] => false | x :: r => bif f x then true else anyL f r
/-- one that can be done now: the first, those that do not lay memory first -/
def ready1 (ops : List Oper) (all : List Nat) (done : List Nat) : Option Nat :=
  let ok (i : Nat) : Bool := match getL ops i with
    | some o => !(memN i done) && allL (fun j => memN j done || !(memN j all)) (edges o)
    | none => false
  let first := all.find? fun i => ok i && (match getL ops i with | some o => !(isAlloc o.op) | none => false)
  match first with
  | some i => some i
  | none => all.find? ok
def lexFix (ops : List Oper) (all : List Nat) : Nat → List Nat → List Nat → List Nat
  | 0, _, out => out.reverse
  | f + 1, done, out => match ready1 ops all done with
    | some i => lexFix ops all f (i :: done) (i :: out)
    | none => out.reverse
/-- what comes ahead of each, as a mask, along an order in which it does -/
def masks (ops : List Oper) : List Nat → List (Nat × Nat) → List (Nat × Nat)
  | [], acc => acc
  | i :: r, acc => masks ops r ((i, match getL ops i with
      | some o => (edges o).foldl (fun m j => Nat.lor m (Nat.lor (2 ^ j) (lookN j acc))) 0
      | none => 0) :: acc)
where lookN (j : Nat) : List (Nat × Nat) → Nat
  | [] => 0
  | (i, m) :: r => bif Nat.beq i j then m else lookN j r
def order (ops : List Oper) : List Nat :=
  let n := ops.length
  let all := upto n []
  let lin := lexFix ops all n [] []
  let ms := masks ops lin []
  let bigs := lin.filter fun i => match getL ops i with | some o => isBig o.op | none => false
  let out := bigs.foldl (fun out j => out ++ (lexFix ops (all.filter fun i => Nat.testBit (masks.lookN j ms) i && !(memN i out)) n [] []) ++ [j]) []
  out ++ lexFix ops (all.filter fun i => !(memN i out)) n [] []
def tmpsOf (o : Op) : List Nat := o.operands.toList.filterMap fun | .tmp t => some t | _ => none
def looks (ops : List Oper) (o : Oper) : List Nat := tmpsOf o.op ++ (match o.guard with
  | some (g, _) => (match getL ops g with | some x => x.dst.toList | none => [])
  | none => [])
def apartX (ops : List Oper) (x y : Oper) : Bool :=
  (match x.dst with | some d => !(memN d (looks ops y)) && (match y.dst with | some e => !(Nat.beq d e) | none => true) | none => true) &&
  (match y.dst with | some d => !(memN d (looks ops x)) | none => true)
/-- an operation of a region that draws, and what comes ahead of it -/
structure DOp where
  ix : Nat
  op : Op
  dst : Option Tmp
  guard : Option (Operand × Bool)
  never : Bool
  mask : Nat
  big : Bool
  pos : String
def maskOf (ops : List Oper) (ms : List (Nat × Nat)) (o : Oper) : Nat := (edges o).foldl (fun m j => Nat.lor m (Nat.lor (2 ^ j) (masks.lookN j ms))) 0
def dopOf (ops : Array Oper) (ms : List (Nat × Nat)) (i : Nat) (o : Oper) : DOp := ⟨i, o.op, o.dst, guardOf ops o, neverOf ops o, masks.lookN i ms, isBig o.op, o.pos⟩
def dopsOf (ops : Array Oper) (ms : List (Nat × Nat)) : List Nat → Option (List DOp)
  | [] => some []
  | i :: r => match ops[i]?, dopsOf ops ms r with
    | some o, some l => some (dopOf ops ms i o :: l)
    | _, _ => none
def nodupN : List Nat → Bool | [] => true | i :: r => bif memN i r then false else nodupN r
/-- may y go ahead of x, that stands ahead of it? then they are apart -/
def pairOk (ops : List Oper) (ox : Oper) (x : DOp) (oy : Oper) (y : DOp) : Bool :=
  !(Nat.testBit x.mask y.ix) && (Nat.testBit y.mask x.ix || (!y.big && apartX ops ox oy)) && (!x.big || !y.big || Nat.beq (Nat.land x.mask y.mask) x.mask)
def pairB (ops : List Oper) (x y : DOp) : Bool := match getL ops x.ix, getL ops y.ix with | some ox, some oy => pairOk ops ox x oy y | _, _ => false
def pairsOk (ops : List Oper) (l : List DOp) : Bool := match l with
  | [] => true
  | x :: r => bif allL (pairB ops x) r then pairsOk ops r else false
def okPlan (ops : List Oper) (ord : List Nat) (ms : List (Nat × Nat)) (l : List DOp) : Bool :=
  Nat.beq (lenL ord 0) (lenL ops 0) && nodupN ord && allL (fun i => Nat.ble (i + 1) (lenL ops 0)) ord &&
  allL (fun i => match getL ops i with | some o => Nat.beq (masks.lookN i ms) (maskOf ops ms o) && !(Nat.testBit (masks.lookN i ms) i) && allL (fun j => Nat.ble (j + 1) (lenL ops 0)) (edges o) | none => false) ord && pairsOk ops l
def plan (ops : Array Oper) : Option (List DOp) :=
  let l := ops.toList
  let ord := order l
  let ms := masks l ord []
  match dopsOf ops ms ord with
  | some ds => (match okPlan l ord ms ds with | true => some ds | false => none)
  | none => none
/-- a memory between two great ones: what came ahead of the one that left it; the one that came behind it -/
structure Ver where
  mprev : Nat
  base : HP
  next : Option Nat
structure DS where
  vers : List Ver
  cur : Ver
  news : List (Nat × Obj)
  al : List (Tmp × V)
  nx : Nat
def newsH (mask mprev nx0 : Nat) (news : List (Nat × Obj)) (h : HP) : HP := match news with
  | [] => h
  | x :: r => bif Nat.testBit mask x.1 && !(Nat.testBit mprev x.1) then hset (nx0 + x.1) x.2 (newsH mask mprev nx0 r h) else newsH mask mprev nx0 r h
def lookA (t : Nat) : List (Tmp × V) → Option V
  | [] => none
  | x :: r => bif Nat.beq x.1 t then some x.2 else lookA t r
def rdA (msk : List Nat) (env : EF) (al : List (Tmp × V)) (x : Operand) : V := match x with
  | .tmp t => (match lookA t al with
    | some v => v
    | none => (match ixOf t msk 0 with | some i => fget i env | none => .junk))
  | x => rdS (opdSrc msk [] x) [] env
def pushA (d : Option Tmp) (v : V) (al : List (Tmp × V)) : List (Tmp × V) := match d with
  | none => al
  | some t => (t, v) :: al
def wantD (o : DOp) (rd : Operand → V) : Option Bool := match o.never with
  | true => some false
  | false => match o.guard with
    | none => some true
    | some (x, want) => match rd x with
      | .bool b => some (b == want)
      | .junk => none
      | _ => some false
def valOn (C : Cfg) (op : Op) (rd : Operand → V) (nx : Nat) (h : HP) : Option V := match eff op C ⟨rd, hget h, nx⟩ with | .val v => some v | _ => none
def isV (v : V) : Option V → Bool | some w => beqV v w | none => false
def isRow : Obj → Bool | .cells .. | .bytes .. | .map .. => true | _ => false
def ahead (mask : Nat) : Option Nat → Bool | some j => Nat.testBit mask j | none => false
/-- it yields the same v in every memory in which it may come -/
def stableV (C : Cfg) (op : Op) (rd : Operand → V) (nx mask nx0 : Nat) (news : List (Nat × Obj)) (v : V) : List Ver → Bool
  | [] => true
  | x :: r => bif ahead mask x.next then stableV C op rd nx mask nx0 news v r
    else bif isV v (valOn C op rd nx (newsH mask x.mprev nx0 news x.base)) then stableV C op rd nx mask nx0 news v r else false
def drawOps (C : Cfg) (G : Calls) (msk : List Nat) (env : EF) (nx0 : Nat) : List DOp → DS → (DS → Ans) → Ans
  | [], st, k => k st
  | d :: r, st, k =>
    let rd : Operand → V := rdA msk env st.al
    match wantD d rd with
    | none => .stuck "guard"
    | some false => drawOps C G msk env nx0 r ⟨st.vers, st.cur, st.news, pushA d.dst und st.al, st.nx⟩ k
    | some true => match d.big with
      | true =>
        let h := newsH d.mask st.cur.mprev nx0 st.news st.cur.base
        (match eff d.op C ⟨rd, hget h, st.nx⟩ with
        | .fork _ _ => .stuck "fork in a region that draws"
        | e => doEff G e h st.nx fun v h' nx' => bif !(Nat.ble st.nx nx') then .stuck "numbers" else drawOps C G msk env nx0 r ⟨⟨st.cur.mprev, st.cur.base, some d.ix⟩ :: st.vers, ⟨d.mask, h', none⟩, st.news, pushA d.dst v st.al, nx'⟩ k)
      | false => match eff d.op C ⟨rd, fun _ => .free, nx0 + d.ix⟩ with
        | .val v => seqV v fun v => drawOps C G msk env nx0 r ⟨st.vers, st.cur, st.news, pushA d.dst v st.al, st.nx⟩ k
        | .new ob v => (match isRow ob with
          | true => seqO ob fun ob => seqV v fun v => drawOps C G msk env nx0 r ⟨st.vers, st.cur, (d.ix, ob) :: st.news, pushA d.dst v st.al, st.nx⟩ k
          | false => .stuck ("drawn map at " ++ d.pos))
        | _ => (match valOn C d.op rd st.nx (newsH d.mask st.cur.mprev nx0 st.news st.cur.base) with
          | some v => (match stableV C d.op rd st.nx d.mask nx0 st.news v st.vers with
            | true => seqV v fun v => drawOps C G msk env nx0 r ⟨st.vers, st.cur, st.news, pushA d.dst v st.al, st.nx⟩ k
            | false => .stuck ("a read that is not stable at " ++ d.pos))
          | none => .stuck ("drawn " ++ d.pos))
def envA (msk : List Nat) : List (Tmp × V) → EF → EF
  | [], e => e
  | x :: r, e => match ixOf x.1 msk 0 with | some i => fset i (envA msk r e) x.2 | none => envA msk r e
def envK (msk : List Nat) : List (Tmp × V) → EF → (EF → Ans) → Ans
  | [], e, k => k e
  | x :: r, e, k => envK msk r e fun e => match ixOf x.1 msk 0 with | some i => fsetK i e x.2 k | none => k e
def newsK (mask mprev nx0 : Nat) (news : List (Nat × Obj)) (h : HP) (k : HP → Ans) : Ans := match news with
  | [] => k h
  | x :: r => newsK mask mprev nx0 r h fun h => bif Nat.testBit mask x.1 && !(Nat.testBit mprev x.1) then hsetK (nx0 + x.1) x.2 h k else k h
def drawR (C : Cfg) (G : Calls) (fc : FC) (ops : Array Oper) (env : EF) (hp : HP) (nx : Nat) (k : EF → HP → Nat → Ans) : Ans := match plan ops with
  | some ds => seqN (nx + ops.size) fun nx1 => drawOps C G fc.msk env nx ds ⟨[], ⟨0, hp, none⟩, [], [], nx1⟩ fun st =>
      envK fc.msk st.al env fun env => newsK (2 ^ ops.size - 1) st.cur.mprev nx st.news st.cur.base fun hp => k env hp st.nx
  | none => .stuck ("a region's order: " ++ ((ops[0]?).map (·.pos)).getD "")

/-! ### Which slots are read from elsewhere -/
def orT (m : Nat) (x : Operand) : Nat := match x with | .tmp t => Nat.lor m (2 ^ t) | _ => m
def regMask (ops : Array Oper) : List Oper → List Nat → Nat → Nat
  | [], _, m => m
  | o :: r, past, m =>
    regMask ops r (match o.dst with | some d => d :: past | none => past)
      ((tmpsOf o.op ++ (match guardOf ops o with | some (.tmp d, _) => [d] | _ => [])).foldl (fun m t => bif memN t past then m else Nat.lor m (2 ^ t)) m)
def globMask : Code → Nat → Nat
  | .region _ ops _, m => regMask ops (ops.toList) [] m
  | .seq a b, m => globMask b (globMask a m)
  | .cond c a b, m => globMask b (globMask a (orT m c))
  | .block _ c, m => globMask c m
  | .loop c, m => globMask c m
  | .scope c, m => globMask c m
  | .rangeFunc g ps a b, m => globMask b (globMask a (ps.toList.foldl (fun m t => Nat.lor m (2 ^ t)) (orT m g)))
  | _, m => m
/-- a slot written twice in one function stands in the frame -/
def resMask : List ResultVar → Nat → Nat
  | [], m => m
  | .tmp t :: r, m => resMask r (Nat.lor m (2 ^ t))
  | .cell a _ :: r, m => resMask r (Nat.lor m (2 ^ a))
def maskBits : Nat → Nat → Nat → List Nat
  | 0, _, _ => []
  | f + 1, i, m => bif Nat.testBit m i then i :: maskBits f (i + 1) m else maskBits f (i + 1) m
def fnMask0 (fn : Func) : Nat := match fn.body with
  | some c => globMask c (resMask fn.results.toList (2 ^ (fn.params.size + fn.nfree) - 1))
  | none => 0

def fnMask (fn : Func) : List Nat := maskBits fn.ntmps 0 (fnMask0 fn)
/-! ### Code -/
def resX (P : Program) (msk : List Nat) (st : St) : List ResultVar → Option (List V)
  | [] => some []
  | r :: rs => match (match r with
      | .tmp t => some (rdS (opdSrc msk [] (.tmp t)) [] st.env)
      | .cell a t => (match rdS (opdSrc msk [] (.tmp a)) [] st.env with
        | .ptr b o => (match loadX (lay P t) (hget st.hp b) o with | .val v => some v | _ => none)
        | _ => none)), resX P msk st rs with
    | some v, some l => some (v :: l)
    | _, _ => none
def finish (P : Program) (msk : List Nat) (fn : Func) (st : St) : List Nat → Ans
  | [] => (match resX P msk st fn.results.toList with
    | some [v] => seqV v fun v => .ok [⟨v, st.hp, st.nx, .norm, .nil⟩]
    | some l => seqV (.tup l) fun v => .ok [⟨v, st.hp, st.nx, .norm, .nil⟩]
    | none => .stuck "results")
  | d :: ds => (match hget st.hp d with
    | .dfr => putH d .free st.hp fun h => finish P msk fn ⟨st.env, h, st.nx, []⟩ ds
    | _ => .stuck "deferred")
def envOf (msk : List Nat) : List V → Nat → EF → (EF → Ans) → Ans
  | [], _, t, k => k t
  | v :: r, i, t, k => match ixOf i msk 0 with
    | some j => seqV v fun v => fsetK j t v fun t => envOf msk r (i + 1) t k
    | none => envOf msk r (i + 1) t k
def setPs (msk : List Nat) (N : Nat) : List Tmp → List V → EF → (EF → Ans) → Ans
  | [], [], t, k => k t
  | p :: ps, v :: vs, t, k => bif Nat.ble (p + 1) N then (match ixOf p msk 0 with
    | some j => seqV v fun v => fsetK j t v fun t => setPs msk N ps vs t k
    | none => setPs msk N ps vs t k) else .stuck "slot"
  | _, _, _, _ => .stuck "yield: arguments"
def isNorm : Ex → Bool | .norm => true | _ => false
def stOf : Ex → LoopState | .norm => .ready | _ => .done
def endRound (l : Nat) (ex : Ex) (st : St) : Ans := match hget st.hp l with
  | .loop .busy _ d => putH l (.loop (stOf ex) ex d) st.hp fun h => .ok [⟨.bool (isNorm ex), h, st.nx, .norm, .nil⟩]
  | _ => .stuck "endRound"
/-- what comes behind a range over a function: its loop is shut -/
def endLoop (l : Nat) (r : Fin) (env : EF) (marks : List Nat) (k : Ex → St → Ans) : Ans := match hget r.hp l with
  | .loop s pend d => (match s with
    | .busy => .stuck "range: busy"
    | _ => putH l (.loop .exhausted pend d) r.hp fun hp => k pend ⟨env, hp, r.nx, marks⟩)
  | _ => .stuck "range"
def outK (id : Nat) (marks : List Nat) (k : Ex → St → Ans) (r : Fin) : Ans := match r.ex with
  | .exit i => bif Nat.beq i id then k .norm ⟨r.env, r.hp, r.nx, marks⟩ else k (.exit i) ⟨r.env, r.hp, r.nx, marks⟩
  | ex => k ex ⟨r.env, r.hp, r.nx, marks⟩
def exitK (id : Nat) (k : Ex → St → Ans) (ex : Ex) (st : St) : Ans := match ex with
  | .exit i => bif Nat.beq i id then k .norm st else k (.exit i) st
  | ex => k ex st
/-- loops that go on, the frame, the scope whose part this is, the code -/
def evT : Type := List LoopS → FC → Option Code → Code → St → (Ex → St → Ans) → Ans
def callF (C : Cfg) (e : evT) (L : List LoopS) (g : FuncId) (args : List V) (hp : HP) (nx : Nat) : Ans := match C.P.funcs[g]? with
  | some fn => (match fn.body with
    | some c => envOf (fnMask fn) args 0 ef0 fun env => e L ⟨g, fn.ntmps, fnMask fn, none⟩ none c ⟨env, hp, nx, []⟩ fun ex st => (match ex with
      | .norm | .ret => finish C.P (fnMask fn) fn st st.marks
      | _ => .stuck "a jump out of a function")
    | none => .stuck "no body")
  | none => .stuck "no function"
/-! ### Calls whose answers are known -/
def tabsKept (ts : List Tab) (hp : HP) : Bool := allL (fun t => beqO (hget hp t.g) (.cells t.vs t.e 0)) ts
def shB (d b : Nat) : Nat := bif Nat.ble 1000 b then b + d else b
mutual
/-- the same, where new blocks stand further on -/
def shV (d : Nat) : V → V
  | .ptr b o => .ptr (shB d b) o
  | .slc b o l c e x => .slc (shB d b) o l c e x
  | .capv b o e => .capv (shB d b) o e
  | .map r => .map (shB d r)
  | .fn (.func f) l => .fn (.func f) (shVs d l)
  | .ifc t v => .ifc t (shV d v)
  | .agg l => .agg (shVs d l)
  | .tup l => .tup (shVs d l)
  | .bool b => .bool b
  | .int k n => .int k n
  | .str s l => .str s l
  | .nilp => .nilp
  | .nils => .nils
  | .nilm => .nilm
  | .nilf => .nilf
  | .nili => .nili
  | _ => .junk
def shVs (d : Nat) : List V → List V
  | [] => []
  | v :: r => shV d v :: shVs d r
end
def shEs (d : Nat) : List Ent → List Ent
  | [] => []
  | e :: r => ⟨e.key, shV d e.val⟩ :: shEs d r
def shO (d : Nat) : Obj → Obj
  | .cells vs e h => .cells (shVs d vs) e h
  | .bytes s l e h => .bytes s l e h
  | .map kt es cl => .map kt (shEs d es) cl
  | _ => .free
def memoPut (d nx : Nat) (hp : HP) (k : HP → Ans) : List (Nat × Obj) → Ans
  | [] => k hp
  | x :: r => memoPut d nx hp (fun h => seqO (shO d x.2) fun o => hsetK (nx + x.1) o h k) r
def memoRun (M : Memo) (hp : HP) (nx : Nat) : Ans := seqN (nx - 1000) fun d => memoPut d nx hp (fun h => seqV (shV d M.v) fun v => seqN (nx + M.n) fun n => .ok [⟨v, h, n, .norm, .nil⟩]) M.objs
def memoFind (args : List V) (hp : HP) : List Memo → Option Memo
  | [] => none
  | M :: r => bif beqVs args M.args then (bif tabsKept M.ts hp then some M else memoFind args hp r) else memoFind args hp r
def isMi : Obj → Bool | .miter .. => true | _ => false
def putL1 (l : List (Nat × Obj)) (h : HP) (k : HP → Ans) : Ans := match l with
  | [] => k h
  | x :: r => putL1 r h fun h => seqO x.2 fun o => hsetK x.1 o h k
def putTs (l : List Tab) (h : HP) (k : HP → Ans) : Ans := match l with
  | [] => k h
  | t :: r => putTs r h fun h => seqO (.cells t.vs t.e 0) fun o => hsetK t.g o h k
def putKs (l : List Nat) (hp : HP) (h : HP) (k : HP → Ans) : Ans := match l with
  | [] => k h
  | b :: r => putKs r hp h fun h => seqO (hget hp b) fun o => hsetK b o h k
def xFits (M : MemoX) (args : List V) (hp : HP) (nx : Nat) : Bool := bif Nat.beq nx M.nx then (bif beqVs args M.args then (bif tabsKept M.ts hp then
  (bif allL (fun x => beqO x.2 (hget hp x.1)) M.pre then allL (fun b => !(isMi (hget hp b))) M.keep else false) else false) else false) else false
def xFind (args : List V) (hp : HP) (nx : Nat) : List MemoX → Option MemoX
  | [] => none
  | M :: r => bif xFits M args hp nx then some M else xFind args hp nx r
def xRun (M : MemoX) (hp : HP) : Ans := putTs M.ts .l fun h => putL1 M.post h fun h => putKs M.keep hp h fun h => seqV M.v fun v => .ok [⟨v, h, M.nx2, .norm, .nil⟩]
def callK (C : Cfg) (e : evT) (L : List LoopS) (g : FuncId) (args : List V) (hp : HP) (nx : Nat) : Ans := match memoFind args hp (C.memo g) with
  | some M => memoRun M hp nx
  | none => match xFind args hp nx (C.exact g) with
    | some M => xRun M hp
    | none => callF C e L g args hp nx
def roundF (e : evT) (L : List LoopS) (l : Nat) (args : List V) (hp : HP) (nx : Nat) : Ans := match hget hp l, findLp l L with
  | .loop .ready _ _, some s => setPs s.msk s.N s.ps args s.env fun env =>
      e L ⟨s.fid, s.N, s.msk, some l⟩ none s.asg ⟨env, hp, nx, []⟩ fun ex st => (match ex with
      | .norm => (match hget st.hp l with
        | .loop .ready pd d => putH l (.loop .busy pd d) st.hp fun h =>
            e L ⟨s.fid, s.N, s.msk, some l⟩ none s.body ⟨st.env, h, st.nx, st.marks⟩ fun ex st => endRound l ex st
        | _ => .stuck "round")
      | _ => .stuck "round: assign")
  | _, _ => .stuck "yield: no loop that is ready"
/-- a range over a function: the loop's block is nx -/
def enterF (C : Cfg) (e : evT) (L : List LoopS) (fc : FC) (g : Operand) (ps : List Tmp) (asg body : Code) (env : EF) (k : Ex → St → Ans) (d : Nat) (hp : HP) (nx : Nat) (marks : List Nat) : Ans :=
  putH nx (.loop .ready .norm d) hp fun hp => seqN (nx + 1) fun nx' => match rdS (opdSrc fc.msk [] g) [] env with
  | .fn (.func q) cap => one (callF C e (⟨nx, fc.fid, fc.N, fc.msk, env, ps, asg, body⟩ :: L) q (.fn (.yield nx) [] :: cap) hp nx') fun r => endLoop nx r env marks k
  | _ => .stuck "range: value"
def ev (C : Cfg) : Nat → evT
  | 0, _, _, _, _, _, _ => .stuck "fuel"
  | f + 1, L, fc, some b, c, st, k => ev C f L fc none c st fun ex st => (match ex with
      | .goto l => (match findLabel b l with
        | some r => ev C f L fc (some b) r st k
        | none => k (.goto l) st)
      | ex => k ex st)
  | f + 1, L, fc, none, c, st, k =>
    let G : Calls := ⟨callK C (ev C f) L, roundF (ev C f) L⟩
    match c with
    | .skip => k .norm st
    | .label _ => k .norm st
    | .region _ ops draw => bif !(dstsOk fc.N ops) then .stuck "slots" else (match draw with
      | false => seqOps C G fc.msk (resolveR fc.msk ops (upto ops.size []) []) [] st.env st.hp st.nx fun _ env hp nx => k .norm ⟨env, hp, nx, st.marks⟩
      | true => drawR C G fc ops st.env st.hp st.nx fun env hp nx => k .norm ⟨env, hp, nx, st.marks⟩)
    | .seq a b => ev C f L fc none a st fun ex st => (match ex with | .norm => ev C f L fc none b st k | ex => k ex st)
    | .cond c a b => (match rdS (opdSrc fc.msk [] c) [] st.env with
      | .bool true => ev C f L fc none a st k
      | .bool false => ev C f L fc none b st k
      | _ => .stuck "cond")
    | .block id c => (match codeForks c with
      | false => ev C f L fc none c st (exitK id k)
      | true => outsA (outK id st.marks k)
        (ev C f L fc none c st fun ex st' => bif listEq Nat.beq st'.marks st.marks then .ok [⟨und, st'.hp, st'.nx, ex, st'.env⟩] else .stuck "marks"))
    | .loop c => ev C f L fc none c st fun ex st => (match ex with | .norm => ev C f L fc none (.loop c) st k | ex => k ex st)
    | .exit id => k (.exit id) st
    | .goto l => k (.goto l) st
    | .ret => k .ret st
    | .scope b => ev C f L fc (some b) b st k
    | .refuse w => .stuck w
    | .rangeFunc g ps asg body => (match fc.around with
      | none => putH st.nx .dfr st.hp fun hp => seqN (st.nx + 1) fun nx => enterF C (ev C f) L fc g ps.toList asg body st.env k st.nx hp nx (st.nx :: st.marks)
      | some l0 => (match hget st.hp l0 with
        | .loop _ _ d => enterF C (ev C f) L fc g ps.toList asg body st.env k d st.hp st.nx st.marks
        | _ => .stuck "range: around"))

def callTop (C : Cfg) (fuel : Nat) (g : FuncId) (args : List V) (hp : HP) (nx : Nat) : Ans := callF C (ev C fuel) [] g args hp nx
end Go.X
