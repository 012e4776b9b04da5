/- An evaluator for runs: how a function of the program becomes code with its offsets worked out. -/
import Derived.Test.YtpmephcfamcbjaaGreatEvA
namespace Go.Proofs.YtpmephcfamcbjaaGreat.Ev
open Go

def zeroOf (P : Program) (t : TypeId) : Option (List DV) := match P.info? t with
  | some i => (match i.zero with | some z => (match plainAll z.cells.toList with | some l => if l.length = i.size then some l else none | none => none) | none => none)
  | none => none
def isAg (P : Program) (t : TypeId) : Option Bool := match P.underlying t with
  | some (.struct _) => some true
  | some (.array _ _) => some true
  | some _ => some false
  | none => none
def agN : Bool → Nat → Nat
  | true, n => n
  | false, _ => 1
def opd : Operand → Option DO
  | .tmp t => some (.t t)
  | .const v => match plainV v with | some v => some (.c v) | none => none
  | .func f => some (.c (.fn f [] []))
  | .global _ => none
def opds : List Operand → Option (List DO)
  | [] => some []
  | x :: l => match opd x with
    | some x => (match opds l with | some l => some (x :: l) | none => none)
    | none => none
def opdo : Option Operand → Option (Option DO)
  | none => some none
  | some x => match opd x with | some x => some (some x) | none => none
def compParts (place : Nat → Option (Nat × Nat)) : List (Nat × Operand) → Option (List (Nat × Nat × DO))
  | [] => some []
  | (i, x) :: l => match place i with
    | some (o, n) => (match opd x with
      | some x => (match compParts place l with | some l => some ((o, n, x) :: l) | none => none)
      | none => none)
    | none => none
/-- the kinds of keys of maps -/
def keyK (P : Program) (t : TypeId) : Option KK := match P.underlying t with
  | some (.int _) => some .int
  | some .string => some .str
  | some .bool => some .bool
  | _ => none
def sizeNZ (P : Program) (e : TypeId) : Option Nat := match P.info? e with | some i => if i.size = 0 then none else some i.size | none => none
def place1 (P : Program) (fs : Array Field) (i : Nat) : Option (Nat × Nat) := match fs[i]? with
  | some f => (match P.info? f.type with | some j => some (f.offset, j.size) | none => none)
  | none => none
def compOp (P : Program) (o : Oper) : Option DOp := match o.op with
  | .move x => (match opd x with | some x => some (.mov x) | none => none)
  | .assign x => (match opd x with | some x => some (.mov x) | none => none)
  | .pick c a b => (match opd c, opd a, opd b with | some c, some a, some b => some (.pick c a b) | _, _, _ => none)
  | .alloc e => (match zeroOf P e with | some z => some (.alloc z) | none => none)
  | .box e x => (match P.info? e, opd x with | some i, some x => some (.box i.size x) | _, _ => none)
  | .build t ps => (match zeroOf P t, P.underlying t with
    | some z, some (.struct fs) => (match compParts (place1 P fs) ps.toList with | some l => if fs.toList.all (fun f => (P.info? f.type).isSome) then some (.bld z l) else none | none => none)
    | some z, some (.array _ e) => (match P.info? e with
      | some i => (match compParts (fun k => some (k * i.size, i.size)) ps.toList with | some l => some (.bld z l) | none => none)
      | none => none)
    | _, _ => none)
  | .buildSlice t n ps => (match P.underlying t with
    | some (.slice e) => (match P.info? e, zeroOf P e with
      | some i, some z => if n * i.size ≤ 16777216 ∧ 0 < i.size then
          (match compParts (fun k => some (k * i.size, i.size)) ps.toList with | some l => some (.bslc n i.size z l) | none => none) else none
      | _, _ => none)
    | _ => none)
  | .load t a => (match P.info? t, isAg P t, opd a with
    | some i, some ag, some a => some (.ld (agN ag i.size) ag a)
    | _, _, _ => none)
  | .store t a x => (match P.info? t, opd a, opd x with | some i, some a, some x => some (.st i.size a x) | _, _, _ => none)
  | .nilCheck x => (match opd x with | some x => some (.nilck x) | none => none)
  | .binOp op t x y _ => (match opd x, opd y with
    | some x, some y => (match P.underlying t with
      | some (.int _) => some (.bin op x y)
      | some .string => some (.bin op x y)
      | some .bool => (match op with | .eql => some (.eqa .bool false x y) | .neq => some (.eqa .bool true x y) | _ => none)
      | some (.slice _) => (match op with | .eql => some (.eqa .slice false x y) | .neq => some (.eqa .slice true x y) | _ => none)
      | some (.map _ _) => (match op with | .eql => some (.eqa .map false x y) | .neq => some (.eqa .map true x y) | _ => none)
      | some (.func _ _ _) => (match op with | .eql => some (.eqa .func false x y) | .neq => some (.eqa .func true x y) | _ => none)
      | some (.pointer _) => (match op with | .eql => some (.eqa .ptr false x y) | .neq => some (.eqa .ptr true x y) | _ => none)
      | _ => none)
    | _, _ => none)
  | .unOp op _ x => (match opd x with | some x => some (.un op x) | none => none)
  | .convert a b x => (match opd x with
    | some x => (match P.underlying a, P.underlying b with
      | some (.int _), some (.int k) => some (.conv (.toInt k) x)
      | some .string, some .string => some (.conv .same x)
      | some (.slice e), some .string => (match P.underlying e with | some (.int .u8) => some (.conv .bts x) | _ => none)
      | _, _ => none)
    | none => none)
  | .makeFunc (.func f) first caps => (match opds first.toList, opds caps.toList with | some i, some l => some (.mkfn f i l) | _, _ => none)
  | .makeMap _ none => some .mkmap
  | .makeSlice t l c => (match P.underlying t with
    | some (.slice e) => (match opd l, opd c with
      | some l, some c => (match P.info? e, zeroOf P e with
        | some i, some z => if 0 < i.size then some (.mkslc i.size i.bytes z l c) else none
        | _, _ => none)
      | _, _ => none)
    | _ => none)
  | .slice t x lo hi none => (match opd x, opdo lo, opdo hi with
    | some x, some lo, some hi => (match P.underlying t with
      | some .string => some (.slc .str x lo hi)
      | some (.slice e) => (match P.info? e with | some i => some (.slc (.slc i.size) x lo hi) | none => none)
      | _ => none)
    | _, _, _ => none)
  | .fieldAddr t x i => (match P.underlying t with
    | some (.struct fs) => (match opd x, fs[i]? with
      | some x, some f => (match sizeNZ P f.type with | some _ => some (.fa f.offset x) | none => none)
      | _, _ => none)
    | _ => none)
  | .field t x i => (match P.underlying t with
    | some (.struct fs) => (match opd x, fs[i]? with
      | some x, some f => (match P.info? f.type, isAg P f.type with | some j, some ag => some (.fld f.offset (agN ag j.size) ag x) | _, _ => none)
      | _, _ => none)
    | _ => none)
  | .indexAddr t x i => (match P.underlying t with
    | some (.slice e) => (match opd x, opd i, P.info? e with | some x, some i, some j => some (.ia none j.size x i) | _, _, _ => none)
    | some (.array n e) => (match opd x, opd i, P.info? e with | some x, some i, some j => some (.ia (some n) j.size x i) | _, _, _ => none)
    | _ => none)
  | .index t x i => (match P.underlying t with
    | some .string => (match opd x, opd i with | some x, some i => some (.idx none x i) | _, _ => none)
    | some (.array n e) => (match opd x, opd i with
      | some x, some i => (match P.info? e, isAg P e with | some j, some ag => some (.idx (some (n, j.size, ag)) x i) | _, _ => none)
      | _, _ => none)
    | _ => none)
  | .lookup t m k ok => (match P.underlying t with
    | some (.map kt e) => (match opd m, opd k with
      | some m, some k => (match P.info? e with
        | some i => (match i.zero with
          | some z => (match plainV z with | some z => (match keyK P kt with | some kk => some (.lk kk z ok m k) | none => none) | none => none)
          | none => none)
        | none => none)
      | _, _ => none)
    | _ => none)
  | .mapUpdate t m k v => (match P.underlying t with
    | some (.map kt _) => (match opd m, opd k, opd v with | some m, some k, some v => (match keyK P kt with | some kk => some (.mu kk m k v) | none => none) | _, _, _ => none)
    | _ => none)
  | .insert t m k v => (match P.underlying t with
    | some (.map kt _) => (match opd m, opd k, opd v with | some m, some k, some v => (match keyK P kt with | some kk => some (.mu kk m k v) | none => none) | _, _, _ => none)
    | _ => none)
  | .range t x => (match P.underlying t with
    | some .string => (match opd x with | some x => some (.rngS x) | none => none)
    | _ => none)
  | .next x true => (match opd x with | some x => some (.nxtS x) | none => none)
  | .extract x i => (match opd x with | some x => some (.ext x i) | none => none)
  | .call c => (match opds c.args.toList with
    | some args => (match c.callee with
      | .value (.func f) => (match P.funcs[f]? with | some fn => if fn.name = "runtime.NumGoroutine" then none else (match fn.body with | some _ => some (.call f args) | none => none) | none => none)
      | .value f => (match opd f with | some f => some (.callv f args) | none => none)
      | .invoke _ _ => none
      | .builtin b => (match c.argTypes[0]? with
        | some ty => (match b, P.underlying ty, args with
          | .len, some .string, [x] => some (.len .str x)
          | .len, some (.slice _), [x] => some (.len .slc x)
          | .len, some (.map _ _), [x] => some (.len .map x)
          | .append, some (.slice e), [s, x] => (match P.info? e, c.argTypes[1]? with
            | some i, some ty2 => (match P.underlying ty2 with
              | some (.slice _) => if 0 < i.size then (match zeroOf P e with | some _ => some (.app i.size i.bytes s x) | none => none) else none
              | some .string => if 0 < i.size then (match zeroOf P e with | some _ => some (.app i.size i.bytes s x) | none => none) else none
              | some (.int _) => (match zeroOf P e with | some z => if 0 < i.size then some (.appz i.size i.bytes z s x) else none | none => none)
              | _ => none)
            | _, _ => none)
          | .min, some (.int _), [x, y] => some (.minmax false x y)
          | .max, some (.int _), [x, y] => some (.minmax true x y)
          | .delete, some (.map kt _), [m, k] => (match keyK P kt with | some kk => some (.del kk m k) | none => none)
          | _, _, _ => none)
        | none => none))
    | none => none)
  | _ => none
def compOper (P : Program) (ntmps : Nat) (ops : Array Oper) (o : Oper) : Option DOper :=
  match compOp P o with
  | some d => (match o.dst with
    | some t => if t < ntmps then some ⟨some t, d, o.guard.map fun g => ((ops[g.1]?).bind (·.dst), g.2)⟩ else none
    | none => some ⟨none, d, o.guard.map fun g => ((ops[g.1]?).bind (·.dst), g.2)⟩)
  | none => none
def compOpers (P : Program) (ntmps : Nat) (ops : Array Oper) : List Oper → Option (List DOper)
  | [] => some []
  | o :: l => match compOper P ntmps ops o with
    | some o => (match compOpers P ntmps ops l with | some l => some (o :: l) | none => none)
    | none => none

/- the order of a region that draws -/
def ancOf (acc : List Nat) : List Edge → Nat
  | [] => 0
  | e :: l => match Region.binds .any e with
    | true => 2 ^ e.on ||| acc.getD e.on 0 ||| ancOf acc l
    | false => ancOf acc l
/-- for each operation, as bits, those that come before it in every order -/
def ancs : List Oper → List Nat → List Nat
  | [], acc => acc
  | o :: l, acc => ancs l (acc ++ [ancOf acc o.after.toList])
/-- operations that change memory or call -/
def DOp.acts : DOp → Bool
  | .st .. | .mu .. | .del .. | .rngM _ | .nxtS _ | .nxtM _ | .call .. | .callv .. | .app .. | .appz .. | .cpy .. => true
  | _ => false
def DOp.allocs : DOp → Bool
  | .box .. | .alloc .. | .bslc .. | .mkmap | .mkslc .. | .rngS _ => true
  | _ => false
def subBits (m done : Nat) : Bool := Nat.beq (m &&& done) m
def firstReady (acts : Bool) (dops : List DOper) (anc : List Nat) (done : Nat) : Nat → Option Nat
  | 0 => none
  | n + 1 => match firstReady acts dops anc done n with
    | some i => some i
    | none => match dops[n]? with
      | some o => if (o.op.acts == acts) && !done.testBit n && subBits (anc.getD n 0) done then some n else none
      | none => none
def sched (dops : List DOper) (anc : List Nat) : Nat → Nat → List Nat
  | 0, _ => []
  | n + 1, done => match firstReady false dops anc done dops.length with
    | some i => i :: sched dops anc n (done ||| 2 ^ i)
    | none => match firstReady true dops anc done dops.length with
      | some i => i :: sched dops anc n (done ||| 2 ^ i)
      | none => []
def withDrops (dops : List DOper) (anc : List Nat) (i : Nat) : Nat × List Nat :=
  (i, match dops[i]? with
    | some o => (match o.op.acts with
      | true => (List.range dops.length).filter fun u => (anc.getD i 0).testBit u && (match dops[u]? with | some q => q.op.reads || q.op.allocs | none => false)
      | false => [])
    | none => [])
/-- is the order right? each pair (the earlier one first) -/
def pairOk (ops : Array Oper) (dops : List DOper) (anc : List Nat) (i j : Nat) : Bool :=
  match ops[i]?, ops[j]?, dops[i]? with
  | some oi, some oj, some di =>
    !Nat.beq i j && ((oi.apart ops oj) || (anc.getD j 0).testBit i) && (!di.op.acts || (anc.getD j 0).testBit i) && oi.after.toList.all (fun e => !Region.binds .any e || !Nat.beq e.on j)
  | _, _, _ => false
def pairsOk (ops : Array Oper) (dops : List DOper) (anc : List Nat) : List (Nat × List Nat) → Bool
  | [] => true
  | x :: l => l.all (fun y => pairOk ops dops anc x.1 y.1) && pairsOk ops dops anc l
def oneOk (ops : Array Oper) (anc : List Nat) (x : Nat × List Nat) : Bool :=
  match ops[x.1]? with
  | some o => o.after.toList.all (fun e => !Region.binds .any e || Nat.blt e.on ops.size) && o.after.toList.all (fun e => !Region.binds .any e || !Nat.beq e.on x.1) && x.2.all (fun u => (anc.getD x.1 0).testBit u)
  | none => false
def orderOk (ops : Array Oper) (dops : List DOper) (order : List (Nat × List Nat)) : Bool :=
  Nat.beq order.length ops.size && (List.range ops.size).all (fun i => order.any fun x => Nat.beq x.1 i) && Nat.beq dops.length ops.size && order.all (oneOk ops (ancs ops.toList [])) && pairsOk ops dops (ancs ops.toList []) order

def compC (P : Program) (ntmps : Nat) : Code → Option DCode
  | .skip => some .skip
  | .region _ ops false => (match compOpers P ntmps ops ops.toList with | some l => some (.region l) | none => none)
  | .region _ ops true => (match compOpers P ntmps ops ops.toList with
    | some l => (match (sched l (ancs ops.toList []) l.length 0).map (withDrops l (ancs ops.toList [])) with
      | order => if orderOk ops l order = true then some (.draw l order) else none)
    | none => none)
  | .seq a b => (match compC P ntmps a with
    | some a => (match compC P ntmps b with | some b => some (.seq a b) | none => none)
    | none => none)
  | .cond c a b => (match opd c with
    | some c => (match compC P ntmps a with
      | some a => (match compC P ntmps b with | some b => some (.cond c a b) | none => none)
      | none => none)
    | none => none)
  | .block id c => (match compC P ntmps c with | some c => some (.block id c) | none => none)
  | .loop c => (match compC P ntmps c with | some c => some (.loop c) | none => none)
  | .exit id => some (.exit id)
  | .ret => some .ret
  | _ => none
def compRes (P : Program) : List ResultVar → Option (List DRes)
  | [] => some []
  | .tmp t :: l => (match compRes P l with | some l => some (.tmp t :: l) | none => none)
  | .cell t ty :: l => (match P.info? ty, isAg P ty with
    | some i, some ag => (match compRes P l with | some l => some (.cell t (agN ag i.size) ag :: l) | none => none)
    | _, _ => none)
def compF (P : Program) (f : Nat) : Option DFun := match P.funcs[f]? with
  | some fn => (match fn.body with
    | some c => (match compC P fn.ntmps c with
      | some c => (match compRes P fn.results.toList with | some r => some ⟨fn.ntmps, r, c⟩ | none => none)
      | none => none)
    | none => none)
  | none => none
end Go.Proofs.YtpmephcfamcbjaaGreat.Ev
