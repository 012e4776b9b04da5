/- An evaluator for runs that do not hang on the input: abstract values, abstract memory, code with its offsets worked out. (Definitions; that it is right is proved in the texts that follow.) -/
import Derived.WalkKit
import Derived.Orders
namespace Go.Proofs.YtpmephcfamcbjaaGreat.Ev
open Go

/-- abstract values: an address is the number of an abstract block and an offset; the capacity of a slice is known only to be at least so much, or exactly so much; 'opq i': something that is carried along unseen -/
inductive DV where
  | bool (b : Bool)
  | int (k : IntKind) (n : Int)
  | str (l : List Nat)
  | nilp
  | ptr (b o : Nat)
  | nils
  | slc (b o n lo sz : Nat) (ex : Bool)
  | nilm
  | mp (b : Nat)
  | fn (f : Nat) (first caps : List DV)
  | nilf
  | ifc (t : Nat) (v : DV)
  | nili
  | agg (l : List DV)
  | tup (l : List DV)
  | opq (i : Nat)
  deriving Inhabited

def DV.cells : DV → List DV
  | .agg l => l
  | v => [v]
def DV.one : DV → Bool
  | .agg _ | .tup _ => false
  | _ => true
def oneAll : List DV → Bool
  | [] => true
  | v :: l => v.one && oneAll l

inductive Trie (α : Type) where
  | nil
  | node (v : Option α) (l r : Trie α)
  deriving Inhabited
def Trie.left {α : Type} : Trie α → Trie α | .nil => .nil | .node _ l _ => l
def Trie.right {α : Type} : Trie α → Trie α | .nil => .nil | .node _ _ r => r
def Trie.val {α : Type} : Trie α → Option α | .nil => none | .node v _ _ => v
def Trie.get {α : Type} : Nat → Trie α → Nat → Option α
  | 0, _, _ => none
  | d + 1, t, n => match n with
    | 0 => t.val
    | n + 1 => match n % 2 with
      | 0 => Trie.get d t.left (n / 2)
      | _ => Trie.get d t.right (n / 2)
def Trie.set {α : Type} : Nat → Trie α → Nat → Option α → Trie α
  | 0, t, _, _ => t
  | d + 1, t, n, x => match n with
    | 0 => .node x t.left t.right
    | n + 1 => match n % 2 with
      | 0 => .node t.val (Trie.set d t.left (n / 2) x) t.right
      | _ => .node t.val t.left (Trie.set d t.right (n / 2) x)

inductive Blk where
  | cells (l : List DV)
  | map (es : List (DV × DV × Nat)) (clock : Nat)
  | itS (s : List Nat) (pos : Nat)
  | itM (m : Option Nat) (since : Nat) (seen : List Nat) (last : Nat)
  deriving Inhabited

structure St where
  heap : Trie Blk
  next : Nat
  deriving Inhabited
abbrev Fr := Trie DV
def St.blk (s : St) (b : Nat) : Option Blk := Trie.get 40 s.heap b
def St.put (s : St) (b : Nat) (x : Option Blk) : St := { s with heap := Trie.set 40 s.heap b x }
def St.new (s : St) (x : Blk) : St := { heap := Trie.set 40 s.heap s.next (some x), next := s.next + 1 }
def fget (f : Fr) (t : Nat) : Option DV := Trie.get 40 f t
def fput (f : Fr) (t : Option Nat) (v : DV) : Fr := match t with | some t => Trie.set 40 f t (some v) | none => f

inductive DO where
  | t (i : Nat)
  | c (v : DV)
  deriving Inhabited
inductive CK where | toInt (k : IntKind) | same | bts
  deriving Inhabited
inductive SK where | str | slc (sz : Nat)
  deriving Inhabited
inductive EK where | bool | ptr | slice | map | func | strct
  deriving Inhabited
inductive KK where | int | str | bool | strct
  deriving Inhabited
inductive LK where | str | slc | map
  deriving Inhabited
/-- operations -/
inductive DOp where
  | mov (x : DO)
  | pick (c a b : DO)
  | box (n : Nat) (x : DO)
  | alloc (zs : List DV)
  | bld (zs : List DV) (ps : List (Nat × Nat × DO))
  | bslc (n sz : Nat) (zs : List DV) (ps : List (Nat × Nat × DO))
  | ld (n : Nat) (ag : Bool) (a : DO)
  | st (n : Nat) (a x : DO)
  | nilck (x : DO)
  | bin (op : BinOp) (x y : DO)
  | eqa (k : EK) (neg : Bool) (x y : DO)
  | un (op : UnOp) (x : DO)
  | conv (k : CK) (x : DO)
  | mkfn (f : Nat) (first caps : List DO)
  | mkmap
  | mkslc (sz bytes : Nat) (zs : List DV) (len cap : DO)
  | slc (k : SK) (x : DO) (lo hi : Option DO)
  | fa (off : Nat) (x : DO)
  | fld (off n : Nat) (ag : Bool) (x : DO)
  | ia (arr : Option Nat) (sz : Nat) (x i : DO)
  | idx (arr : Option (Nat × Nat × Bool)) (x i : DO)
  | lk (kk : KK) (z : DV) (ok : Bool) (m k : DO)
  | mu (kk : KK) (m k v : DO)
  | rngS (x : DO)
  | rngM (x : DO)
  | nxtS (x : DO)
  | nxtM (x : DO)
  | ext (x : DO) (i : Nat)
  | call (f : Nat) (args : List DO)
  | callv (f : DO) (args : List DO)
  | len (k : LK) (x : DO)
  | lenc (n : Nat)
  | app (sz bytes : Nat) (s x : DO)
  | appz (sz bytes : Nat) (zs : List DV) (s n : DO)
  | cpy (sz : Nat) (d s : DO)
  | minmax (mx : Bool) (x y : DO)
  | del (kk : KK) (m k : DO)
  deriving Inhabited
structure DOper where
  dst : Option Nat
  op : DOp
  guard : Option (Option Nat × Bool)
  deriving Inhabited
/-- 'draw': a region whose order is open, with the order in which it is run here; behind each number: which loads need not be looked at again from there on -/
inductive DCode where
  | skip
  | region (ops : List DOper)
  | draw (ops : List DOper) (order : List (Nat × List Nat))
  | seq (a b : DCode)
  | cond (c : DO) (a b : DCode)
  | block (id : Nat) (c : DCode)
  | loop (c : DCode)
  | exit (id : Nat)
  | ret
  deriving Inhabited
inductive DRes where | tmp (t : Nat) | cell (t n : Nat) (ag : Bool)
  deriving Inhabited
structure DFun where
  ntmps : Nat
  results : List DRes
  code : DCode
  deriving Inhabited

def plain : Value → Option DV
  | .bool b => some (.bool b)
  | .int k n => some (.int k n)
  | .string s => some (.str (s.data.toList.map UInt8.toNat))
  | .pointer none => some .nilp
  | .slice none 0 0 => some .nils
  | .map none => some .nilm
  | .nilFunc => some .nilf
  | .nilIface => some .nili
  | .func (.func f) ⟨[]⟩ ⟨[]⟩ => some (.fn f [] [])
  | _ => none
def plainAll : List Value → Option (List DV)
  | [] => some []
  | v :: l => match plain v with
    | some v => (match plainAll l with | some l => some (v :: l) | none => none)
    | none => none
def plainV : Value → Option DV
  | .agg cs => match plainAll cs.toList with | some l => some (.agg l) | none => none
  | .tuple cs => match plainAll cs.toList with | some l => some (.tup l) | none => none
  | v => plain v

def ev (f : Fr) : DO → Option DV
  | .t i => fget f i
  | .c v => some v
def evs (f : Fr) : List DO → Option (List DV)
  | [] => some []
  | x :: l => match ev f x with
    | some v => (match evs f l with | some l => some (v :: l) | none => none)
    | none => none
def evo (f : Fr) : Option DO → Option (Option DV)
  | none => some none
  | some x => match ev f x with | some v => some (some v) | none => none

def getCells : Nat → List DV → Option (List DV)
  | 0, _ => some []
  | _ + 1, [] => none
  | n + 1, x :: l => match getCells n l with | some r => some (x :: r) | none => none
def loadN (s : St) (b o n : Nat) : Option (List DV) := match s.blk b with
  | some (.cells l) => getCells n (l.drop o)
  | _ => none
def storeL : List DV → Nat → List DV → Option (List DV)
  | l, 0, [] => some l
  | [], 0, _ :: _ => none
  | _ :: l, 0, v :: vs => match storeL l 0 vs with | some r => some (v :: r) | none => none
  | [], _ + 1, [] => some []
  | [], _ + 1, _ :: _ => none
  | x :: l, o + 1, vs => match storeL l o vs with | some r => some (x :: r) | none => none
def storeN (s : St) (b o : Nat) (vs : List DV) : Option St := match oneAll vs with
  | true => (match s.blk b with
    | some (.cells l) => (match storeL l o vs with | some r => some (s.put b (some (.cells r))) | none => none)
    | _ => none)
  | false => none
def aggIf (ag : Bool) (l : List DV) : Option DV := match ag with
  | true => some (.agg l)
  | false => match l with | [v] => some v | _ => none
def ofSem : Sem Value → Option DV
  | .pure v => plain v
  | _ => none

def leB : List Nat → List Nat → Bool
  | _, [] => false
  | [], _ :: _ => true
  | a :: x, b :: y => Nat.blt a b || (Nat.beq a b && leB x y)
def eqL : List Nat → List Nat → Bool
  | [], [] => true
  | a :: x, b :: y => Nat.beq a b && eqL x y
  | _, _ => false
def kEq (a b : IntKind) : Bool := Nat.beq a.ctorIdx b.ctorIdx
def iEq : Int → Int → Bool
  | .ofNat a, .ofNat b => Nat.beq a b
  | .negSucc a, .negSucc b => Nat.beq a b
  | _, _ => false

/-- equality, where it is that of plain data -/
def eqv1 : EK → DV → DV → Option Bool
  | .bool, .bool a, .bool b => some (a == b)
  | .ptr, .nilp, .nilp => some true
  | .ptr, .nilp, .ptr _ _ => some false
  | .ptr, .ptr _ _, .nilp => some false
  | .slice, .nils, .nils => some true
  | .slice, .nils, .slc .. => some false
  | .slice, .slc .., .nils => some false
  | .map, .nilm, .nilm => some true
  | .map, .nilm, .mp _ => some false
  | .map, .mp _, .nilm => some false
  | .func, .nilf, .nilf => some true
  | .func, .nilf, .fn _ _ _ => some false
  | .func, .fn _ _ _, .nilf => some false
  | _, _, _ => none
/-- the same of two lists of cells of plain data (no pointers) -/
def eqvs : List DV → List DV → Option Bool
  | [], [] => some true
  | x :: l, y :: r => match x, y with
    | .bool a, .bool b => if (a == b) = true then eqvs l r else some false
    | .int k a, .int k' b => if kEq k k' = true then (if iEq a b = true then eqvs l r else some false) else none
    | .str a, .str b => if eqL a b = true then eqvs l r else some false
    | _, _ => none
  | _, _ => none
/-- keys of maps -/
def eqk : KK → DV → DV → Option Bool
  | .strct, .agg l, .agg r => eqvs l r
  | .bool, .bool a, .bool b => some (a == b)
  | .int, .int k a, .int k' b => if kEq k k' = true then some (iEq a b) else none
  | .str, .str a, .str b => some (eqL a b)
  | _, _, _ => none

def binD (op : BinOp) (x y : DV) : Option DV := match x, y with
  | .int k a, .int k' b => ofSem (Go.binOp op 0 (.int k a) (.int k' b))
  | .str a, .str b => match op with
    | .add => if a.length + b.length ≤ 1073741824 then some (.str (a ++ b)) else none
    | .eql => some (.bool (eqL a b))
    | .neq => some (.bool (!eqL a b))
    | .lss => some (.bool (leB a b))
    | .leq => some (.bool (leB a b || eqL a b))
    | .gtr => some (.bool (!(leB a b || eqL a b)))
    | .geq => some (.bool (!leB a b))
    | _ => none
  | _, _ => none

def fillD : List (Nat × Nat × DV) → List DV → Option (List DV)
  | [], l => some l
  | (off, n, v) :: r, l => if v.cells.length = n ∧ off + n ≤ l.length then (match storeL l off v.cells with | some l => fillD r l | none => none) else none
def evps (f : Fr) : List (Nat × Nat × DO) → Option (List (Nat × Nat × DV))
  | [] => some []
  | (o, n, x) :: l => match ev f x with
    | some v => (match evps f l with | some l => some ((o, n, v) :: l) | none => none)
    | none => none
def rep : Nat → List DV → List DV
  | 0, _ => []
  | n + 1, l => l ++ rep n l

def toNat? : DV → Option Nat
  | .int _ (.ofNat n) => some n
  | _ => none
def lookD (kk : KK) (k : DV) : List (DV × DV × Nat) → Option (Option DV)
  | [] => some none
  | (k', v, _) :: l => match eqk kk k k' with
    | some true => some (some v)
    | some false => lookD kk k l
    | none => none
def updD (kk : KK) (k v : DV) (clock : Nat) : List (DV × DV × Nat) → Option (List (DV × DV × Nat) × Nat)
  | [] => some ([(k, v, clock)], clock + 1)
  | (k', v', b) :: l => match eqk kk k k' with
    | some true => some ((k, v, b) :: l, clock)
    | some false => (match updD kk k v clock l with | some (r, c) => some ((k', v', b) :: r, c) | none => none)
    | none => none
def delD (kk : KK) (k : DV) : List (DV × DV × Nat) → Option (List (DV × DV × Nat))
  | [] => some []
  | (k', v', b) :: l => match eqk kk k k' with
    | some true => some l
    | some false => (match delD kk k l with | some r => some ((k', v', b) :: r) | none => none)
    | none => none
def memN (n : Nat) : List Nat → Bool
  | [] => false
  | a :: l => Nat.beq n a || memN n l
def nthD : List DV → Nat → Option DV
  | [], _ => none
  | x :: _, 0 => some x
  | _ :: l, n + 1 => nthD l n
def nthN : List Nat → Nat → Option Nat
  | [], _ => none
  | x :: _, 0 => some x
  | _ :: l, n + 1 => nthN l n

def bnd (d : Nat) : Option DV → Option Nat
  | none => some d
  | some v => toNat? v
def sliceD (k : SK) (x : DV) (lo hi : Option DV) : Option DV :=
  match k, x with
  | .str, .str l => (match bnd l.length hi, bnd 0 lo with
    | some h, some a => if a ≤ h ∧ h ≤ l.length then some (.str ((l.take h).drop a)) else none
    | _, _ => none)
  | .slc _, .nils => (match bnd 0 hi, bnd 0 lo with
    | some 0, some 0 => some .nils
    | _, _ => none)
  | .slc sz, .slc b o n c sz' ex => (match bnd n hi, bnd 0 lo with
    | some h, some a => if a ≤ h ∧ h ≤ c ∧ sz = sz' then
        (if a = c then some (.slc b o 0 0 sz ex) else some (.slc b (o + a * sz) (h - a) (c - a) sz ex)) else none
    | _, _ => none)
  | _, _ => none

def byteCells (l : List Nat) : List DV := l.map fun c => .int .u8 (.ofNat c)
def cellBytes : List DV → Option (List Nat)
  | [] => some []
  | .int .u8 (.ofNat c) :: l => if c < 256 then (match cellBytes l with | some r => some (c :: r) | none => none) else none
  | _ :: _ => none
/-- the cells of a slice or a string -/
def fromS (s : St) (sz : Nat) : DV → Option (List DV × Nat)
  | .nils => some ([], 0)
  | .slc b o n _ sz' _ => if sz = sz' then (match loadN s b o (n * sz) with | some l => some (l, n) | none => none) else none
  | .str l => if sz = 1 then some (byteCells l, l.length) else none
  | _ => none
def appD (sz bytes : Nat) (a : DV) (new : List DV) (m : Nat) (s : St) : Option (DV × St) := match a with
  | .nils => if m = 0 then some (.nils, s) else if m * bytes ≤ 1073741824 ∧ m ≤ 1073741824 then some (.slc s.next 0 m m sz false, s.new (.cells new)) else none
  | .slc b o n lo sz' ex => if sz = sz' then
    (if n + m ≤ lo then (match storeN s b (o + n * sz) new with | some s => some (.slc b o (n + m) lo sz ex, s) | none => none)
     else if (n + m) * bytes ≤ 1073741824 ∧ n + m ≤ 1073741824 then (match loadN s b o (n * sz) with
       | some old => (match ex with
         | true => some (.slc s.next 0 (n + m) (n + m) sz false, s.new (.cells (old ++ new)))
         | false => some (.slc s.next 0 (n + m) (n + m) sz false, (s.put b none).new (.cells (old ++ new))))
       | none => none) else none) else none
  | _ => none
def mapOf (s : St) : DV → Option (List (DV × DV × Nat))
  | .nilm => some []
  | .mp b => match s.blk b with | some (.map es _) => some es | _ => none
  | _ => none

/-- what an operation does: it gives a value; a value in a new block; a value, and memory has changed; it calls; one of several -/
inductive Res where
  | fail
  | val (v : DV)
  | new (c : Blk) (mk : Nat → DV)
  | upd (v : DV) (s : St)
  | call (g : Nat) (args : List DV)
  | fork (l : List (DV × St))
def Res.ofV : Option DV → Res
  | some v => .val v
  | none => .fail
def Res.ofU : Option (DV × St) → Res
  | some (v, s) => .upd v s
  | none => .fail
def Res.ofS : Option St → Res
  | some s => .upd (.tup []) s
  | none => .fail

/-- the candidates of the next round of a range over a map -/
def nextM (es : List (DV × DV × Nat)) (since : Nat) (seen : List Nat) : List (Option (DV × DV × Nat)) :=
  let left := es.filter fun e => !memN e.2.2 seen
  let old := left.filter fun e => Nat.blt e.2.2 since
  let new := left.filter fun e => !Nat.blt e.2.2 since
  (match old with | [] => [none] | _ => []) ++ (old ++ new).map some

def sem1 (op : DOp) (f : Fr) (s : St) : Res :=
  match op with
  | .mov x => .ofV (ev f x)
  | .pick c a b => match ev f c with
    | some (.bool true) => .ofV (ev f a)
    | some (.bool false) => .ofV (ev f b)
    | _ => .fail
  | .box n x => match ev f x with
    | some v => if v.cells.length = n ∧ oneAll v.cells = true then .new (.cells v.cells) (fun b => .ptr b 0) else .fail
    | none => .fail
  | .alloc zs => .new (.cells zs) (fun b => .ptr b 0)
  | .bld zs ps => match evps f ps with
    | some l => (match fillD l zs with | some r => .val (.agg r) | none => .fail)
    | none => .fail
  | .bslc n sz zs ps => match evps f ps with
    | some l => (match fillD l (rep n zs) with | some r => if oneAll r = true then .new (.cells r) (fun b => .slc b 0 n n sz true) else .fail | none => .fail)
    | none => .fail
  | .ld n ag a => match ev f a with
    | some (.ptr b o) => (match loadN s b o n with
      | some l => .ofV (aggIf ag l)
      | none => .fail)
    | _ => .fail
  | .st n a x => match ev f a with
    | some (.ptr b o) => (match ev f x with
      | some v => if v.cells.length = n then .ofS (storeN s b o v.cells) else .fail
      | none => .fail)
    | _ => .fail
  | .nilck x => match ev f x with
    | some (.ptr b o) => .val (.ptr b o)
    | some (.fn g i c) => .val (.fn g i c)
    | _ => .fail
  | .bin op x y => match ev f x with
    | some a => (match ev f y with | some b => .ofV (binD op a b) | none => .fail)
    | none => .fail
  | .eqa k neg x y => match ev f x with
    | some a => (match ev f y with
      | some b => (match eqv1 k a b with
        | some r => .val (.bool (match neg with | true => !r | false => r))
        | none => .fail)
      | none => .fail)
    | none => .fail
  | .un op x => match ev f x with
    | some (.int k n) => .ofV (ofSem (Go.Op.unary op (.int k n)))
    | some (.bool b) => (match op with | .not => .val (.bool (!b)) | _ => .fail)
    | _ => .fail
  | .conv k x => match ev f x with
    | some v => (match k, v with
      | .toInt k, .int _ n => .val (.int k (k.wrap n))
      | .same, .str l => .val (.str l)
      | .bts, .nils => .val (.str [])
      | .bts, .slc b o n _ sz _ => if sz = 1 then (match loadN s b o n with
          | some l => (match cellBytes l with | some r => .val (.str r) | none => .fail)
          | none => .fail) else .fail
      | _, _ => .fail)
    | none => .fail
  | .mkfn g fi caps => match evs f fi with
    | some i => (match evs f caps with | some l => .val (.fn g i l) | none => .fail)
    | none => .fail
  | .mkmap => .new (.map [] 0) (fun b => .mp b)
  | .mkslc sz bytes zs len cap => match ev f len with
    | some l => (match ev f cap with
      | some c => (match toNat? l, toNat? c with
        | some l, some c => if l ≤ c ∧ c * bytes ≤ 1073741824 ∧ c * sz ≤ 16777216 ∧ c ≤ 1073741824 then .new (.cells (rep c zs)) (fun b => .slc b 0 l c sz true) else .fail
        | _, _ => .fail)
      | none => .fail)
    | none => .fail
  | .slc k x lo hi => match ev f x with
    | some v => (match evo f lo with
      | some a => (match evo f hi with | some b => .ofV (sliceD k v a b) | none => .fail)
      | none => .fail)
    | none => .fail
  | .fa off x => match ev f x with | some (.ptr b o) => .val (.ptr b (o + off)) | _ => .fail
  | .fld off n ag x => match ev f x with
    | some (.agg l) => (match getCells n (l.drop off) with | some r => .ofV (aggIf ag r) | none => .fail)
    | _ => .fail
  | .ia arr sz x i => match ev f x with
    | some v => (match ev f i with
      | some j => (match toNat? j with
        | some j => (match arr, v with
          | some n, .ptr b o => if j < n then .val (.ptr b (o + j * sz)) else .fail
          | none, .slc b o n _ sz' _ => if j < n ∧ sz = sz' then .val (.ptr b (o + j * sz)) else .fail
          | _, _ => .fail)
        | none => .fail)
      | none => .fail)
    | none => .fail
  | .idx arr x i => match ev f x with
    | some v => (match ev f i with
      | some j => (match toNat? j with
        | some j => (match arr, v with
          | none, .str l => (match nthN l j with | some c => .val (.int .u8 (.ofNat c)) | none => .fail)
          | some (n, sz, ag), .agg l => if j < n then (match getCells (match ag with | true => sz | false => 1) (l.drop (j * sz)) with | some r => .ofV (aggIf ag r) | none => .fail) else .fail
          | _, _ => .fail)
        | none => .fail)
      | none => .fail)
    | none => .fail
  | .lk kk z ok m k => match ev f m with
    | some v => (match ev f k with
      | some k => (match mapOf s v with
        | some es => (match lookD kk k es with
          | some r => .val (match ok with | true => .tup [r.getD z, .bool r.isSome] | false => r.getD z)
          | none => .fail)
        | none => .fail)
      | none => .fail)
    | none => .fail
  | .mu kk m k v => match ev f m with
    | some (.mp b) => (match ev f k with
      | some k => (match ev f v with
        | some v => (match s.blk b with
          | some (.map es c) => (match updD kk k v c es with | some (r, c) => .upd (.tup []) (s.put b (some (.map r c))) | none => .fail)
          | _ => .fail)
        | none => .fail)
      | none => .fail)
    | _ => .fail
  | .del kk m k => match ev f m with
    | some (.mp b) => (match ev f k with
      | some k => (match s.blk b with
        | some (.map es c) => (match delD kk k es with | some r => .upd (.tup []) (s.put b (some (.map r c))) | none => .fail)
        | _ => .fail)
      | none => .fail)
    | _ => .fail
  | .rngS x => match ev f x with | some (.str l) => .new (.itS l 0) (fun b => .ptr b 0) | _ => .fail
  | .rngM x => match ev f x with
    | some .nilm => .upd (.ptr s.next 0) (s.new (.itM none 0 [] 0))
    | some (.mp b) => (match s.blk b with | some (.map _ c) => .upd (.ptr s.next 0) (s.new (.itM (some b) c [] c)) | _ => .fail)
    | _ => .fail
  | .nxtS x => match ev f x with
    | some (.ptr b 0) => (match s.blk b with
      | some (.itS l pos) => (match nthN l pos with
        | some c => if c < 128 then .upd (.tup [.bool true, .int .i64 pos, .int .i32 c]) (s.put b (some (.itS l (pos + 1)))) else .fail
        | none => .upd (.tup [.bool false]) s)
      | _ => .fail)
    | _ => .fail
  | .nxtM x => match ev f x with
    | some (.ptr b 0) => (match s.blk b with
      | some (.itM none _ _ _) => .upd (.tup [.bool false]) s
      | some (.itM (some m) since seen last) => (match s.blk m with
        | some (.map es clock) =>
          (match !seen.isEmpty && !es.isEmpty && es.all (fun e => Nat.ble last e.2.2) with
           | true => .fail
           | false => .fork ((nextM es since seen).map fun c => match c with
             | some (k, v, born) => (.tup [.bool true, k, v], s.put b (some (.itM (some m) since (seen ++ [born]) clock)))
             | none => (.tup [.bool false], s)))
        | _ => .fail)
      | _ => .fail)
    | _ => .fail
  | .ext x i => match ev f x with | some (.tup l) => .ofV (nthD l i) | _ => .fail
  | .call g args => match evs f args with | some l => .call g l | none => .fail
  | .callv g args => match ev f g with
    | some (.fn g fi caps) => (match evs f args with | some l => .call g (fi ++ l ++ caps) | none => .fail)
    | _ => .fail
  | .len k x => match ev f x with
    | some v => (match k, v with
      | .str, .str l => .val (.int .i64 l.length)
      | .slc, .nils => .val (.int .i64 0)
      | .slc, .slc _ _ n _ _ _ => .val (.int .i64 n)
      | .map, v => (match mapOf s v with | some es => .val (.int .i64 es.length) | none => .fail)
      | _, _ => .fail)
    | none => .fail
  | .lenc n => .val (.int .i64 n)
  | .app sz bytes sl x => match ev f sl with
    | some a => (match ev f x with
      | some x => (match fromS s sz x with
        | some (new, m) => .ofU (appD sz bytes a new m s)
        | none => .fail)
      | none => .fail)
    | none => .fail
  | .appz sz bytes zs sl x => match ev f sl with
    | some a => (match ev f x with
      | some x => (match toNat? x with
        | some m => if m * bytes ≤ 1073741824 ∧ m ≤ 1073741824 then .ofU (appD sz bytes a (rep m zs) m s) else .fail
        | none => .fail)
      | none => .fail)
    | none => .fail
  | .cpy sz d x => match ev f d with
    | some (.slc b o n _ sz' _) => (match ev f x with
      | some x => if sz = sz' then (match fromS s sz x with
        | some (l, m) => (match storeN s b o (l.take (min m n * sz)) with | some s => .upd (.int .i64 (min m n : Nat)) s | none => .fail)
        | none => .fail) else .fail
      | none => .fail)
    | _ => .fail
  | .minmax mx x y => match ev f x with
    | some (.int k a) => (match ev f y with
      | some (.int _ b) => .val (.int k (match mx with | true => if b > a then b else a | false => if b < a then b else a))
      | _ => .fail)
    | _ => .fail

def guardOk (f : Fr) : Option (Option Nat × Bool) → Option Bool
  | none => some true
  | some (none, _) => some false
  | some (some t, want) => match fget f t with
    | some (.bool b) => some (b == want)
    | some (.tup _) => some false
    | _ => none

inductive DE where | normal | exit (id : Nat) | ret
  deriving Inhabited

/-- all outcomes; none: not covered -/
def mapAll {α β : Type} (g : α → Option (List β)) : List α → Option (List β)
  | [] => some []
  | x :: l => match g x with
    | none => none
    | some r => match mapAll g l with | none => none | some r2 => some (r ++ r2)

def resD (f : Fr) (s : St) : List DRes → Option (List DV)
  | [] => some []
  | .tmp t :: l => match fget f t with
    | some v => (match resD f s l with | some r => some (v :: r) | none => none)
    | none => none
  | .cell t n ag :: l => match fget f t with
    | some (.ptr b o) => (match loadN s b o n with
      | some c => (match aggIf ag c with
        | some v => (match resD f s l with | some r => some (v :: r) | none => none)
        | none => none)
      | none => none)
    | _ => none
def argsFr : List DV → Nat → Fr → Fr
  | [], _, f => f
  | v :: l, i, f => argsFr l (i + 1) (fput f (some i) v)

mutual
def dvEq : DV → DV → Bool
  | .bool a, .bool b => a == b
  | .int k a, .int k' b => kEq k k' && iEq a b
  | .str a, .str b => eqL a b
  | .nilp, .nilp => true
  | .ptr b o, .ptr b' o' => Nat.beq b b' && Nat.beq o o'
  | .nils, .nils => true
  | .slc b o n lo sz ex, .slc b' o' n' lo' sz' ex' => Nat.beq b b' && Nat.beq o o' && Nat.beq n n' && Nat.beq lo lo' && Nat.beq sz sz' && ex == ex'
  | .nilm, .nilm => true
  | .mp b, .mp b' => Nat.beq b b'
  | .fn f i c, .fn f' i' c' => Nat.beq f f' && dvEqs i i' && dvEqs c c'
  | .nilf, .nilf => true
  | .nili, .nili => true
  | .ifc t v, .ifc t' v' => Nat.beq t t' && dvEq v v'
  | .agg l, .agg r => dvEqs l r
  | .tup l, .tup r => dvEqs l r
  | .opq i, .opq j => Nat.beq i j
  | _, _ => false
def dvEqs : List DV → List DV → Bool
  | [], [] => true
  | x :: l, y :: r => dvEq x y && dvEqs l r
  | _, _ => false
end
/-- two blocks without addresses of their own kind to compare: rows of cells, empty maps, iterators of strings -/
def blkEq : Option Blk → Blk → Bool
  | some (.cells l), .cells r => dvEqs l r
  | some (.map [] c), .map [] c' => Nat.beq c c'
  | some (.itS s p), .itS s' p' => eqL s s' && Nat.beq p p'
  | _, _ => false
/-- what is looked at again: number, operation, the frame in which it was run, its value; or a new block and what is in it -/
inductive Watch where
  | ld (i : Nat) (op : DOp) (f : Fr) (v : DV)
  | bk (i : Nat) (b : Nat) (c : Blk)
def Watch.num : Watch → Nat | .ld i _ _ _ => i | .bk i _ _ => i
def Watch.ok (s : St) : Watch → Bool
  | .ld _ op f v => match sem1 op f s with | .val u => dvEq u v | _ => false
  | .bk _ b c => blkEq (s.blk b) c
def watchAll (s : St) : List Watch → Bool
  | [] => true
  | w :: l => w.ok s && watchAll s l
def dropWatch (d : List Nat) (l : List Watch) : List Watch := l.filter fun w => !memN w.num d
/-- does an operation look into memory? -/
def DOp.reads : DOp → Bool
  | .ld .. | .lk .. | .len _ _ | .conv .bts _ => true
  | _ => false

section
variable (D : Nat → Option DFun)
mutual
def callF : Nat → Nat → List DV → St → Option (List (DV × St))
  | 0, _, _, _ => none
  | n + 1, g, args, s => match D g with
    | none => none
    | some fn => match Nat.ble args.length fn.ntmps with
      | false => none
      | true => match runC n fn.code (argsFr args 0 .nil) s with
        | none => none
        | some outs => mapAll (fun o => match o.1 with
          | .exit _ => none
          | _ => (match resD o.2.1 o.2.2 fn.results with
            | some [v] => some [(v, o.2.2)]
            | some vs => some [(.tup vs, o.2.2)]
            | none => none)) outs
def runOps : Nat → List DOper → Fr → St → Option (List (Fr × St))
  | 0, _, _, _ => none
  | n + 1, l, f, s => match l with
    | [] => some [(f, s)]
    | o :: l => match guardOk f o.guard with
      | none => none
      | some false => runOps n l (fput f o.dst (.tup [])) s
      | some true => match sem1 o.op f s with
        | .fail => none
        | .val v => runOps n l (fput f o.dst v) s
        | .new c mk => runOps n l (fput f o.dst (mk s.next)) (s.new c)
        | .upd v s => runOps n l (fput f o.dst v) s
        | .fork outs => mapAll (fun p => runOps n l (fput f o.dst p.1) p.2) outs
        | .call g args => match callF n g args s with
          | none => none
          | some outs => mapAll (fun p => runOps n l (fput f o.dst p.1) p.2) outs
def runDraw : Nat → List DOper → List (Nat × List Nat) → List Watch → Fr → St → Option (List (Fr × St))
  | 0, _, _, _, _, _ => none
  | n + 1, ops, order, ws, f, s => match order with
    | [] => some [(f, s)]
    | (i, dr) :: order => match ops[i]? with
      | none => none
      | some o => match guardOk f o.guard with
        | none => none
        | some false => runDraw n ops order ws (fput f o.dst (.tup [])) s
        | some true => match sem1 o.op f s with
          | .fail => none
          | .val v => runDraw n ops order (match o.op.reads with | true => .ld i o.op f v :: ws | false => ws) (fput f o.dst v) s
          | .new c mk => (match watchAll (s.new c) (.bk i s.next c :: ws) with
            | true => runDraw n ops order (.bk i s.next c :: ws) (fput f o.dst (mk s.next)) (s.new c)
            | false => none)
          | .upd v s => (match watchAll s (dropWatch dr ws) with
            | true => runDraw n ops order (dropWatch dr ws) (fput f o.dst v) s
            | false => none)
          | .fork outs => mapAll (fun p => match watchAll p.2 (dropWatch dr ws) with
            | true => runDraw n ops order (dropWatch dr ws) (fput f o.dst p.1) p.2
            | false => none) outs
          | .call g args => match callF n g args s with
            | none => none
            | some outs => mapAll (fun p => match watchAll p.2 (dropWatch dr ws) with
              | true => runDraw n ops order (dropWatch dr ws) (fput f o.dst p.1) p.2
              | false => none) outs
def runC : Nat → DCode → Fr → St → Option (List (DE × Fr × St))
  | 0, _, _, _ => none
  | n + 1, c, f, s => match c with
    | .skip => some [(.normal, f, s)]
    | .region ops => match runOps n ops f s with | none => none | some outs => some (outs.map fun p => (.normal, p.1, p.2))
    | .draw ops order => match runDraw n ops order [] f s with | none => none | some outs => some (outs.map fun p => (.normal, p.1, p.2))
    | .seq a b => match runC n a f s with
      | none => none
      | some outs => mapAll (fun o => match o.1 with | .normal => runC n b o.2.1 o.2.2 | e => some [(e, o.2.1, o.2.2)]) outs
    | .cond c a b => match ev f c with
      | some (.bool true) => runC n a f s
      | some (.bool false) => runC n b f s
      | _ => none
    | .block id c => match runC n c f s with
      | none => none
      | some outs => some (outs.map fun o => match o.1 with | .exit id' => (match Nat.beq id' id with | true => (.normal, o.2.1, o.2.2) | false => (.exit id', o.2.1, o.2.2)) | e => (e, o.2.1, o.2.2))
    | .loop c => match runC n c f s with
      | none => none
      | some outs => mapAll (fun o => match o.1 with | .normal => runC n (.loop c) o.2.1 o.2.2 | e => some [(e, o.2.1, o.2.2)]) outs
    | .exit id => some [(.exit id, f, s)]
    | .ret => some [(.ret, f, s)]
end
end
end Go.Proofs.YtpmephcfamcbjaaGreat.Ev
