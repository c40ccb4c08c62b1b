/- From the given code to the abstract machine's: types looked up, orders that are drawn laid in one order, with what has to hold for every other. -/
import Derived.Test.YtohjmflbgohkhaaEngA
namespace Go.Proofs.Ytohjmflbgohkhaa.E
set_option linter.all false
open Go

def bytesN (s : ByteArray) : List Nat := s.data.toList.map UInt8.toNat

def flatAV : Value → Option AV
  | .bool b => some (.bool b)
  | .int k n => some (.int k n)
  | .string s => some (.str (bytesN s))
  | .pointer none => some .nilptr
  | .pointer (some a) => match a.spot with
    | none => some (.ptr (.base a.block) a.off)
    | some _ => none
  | .slice none l c => match Nat.beq l 0 && Nat.beq c 0 with
    | true => some .nilslice
    | false => none
  | .slice (some a) l c => match a.spot, Nat.ble l c with
    | none, true => some (.slice (.base a.block) a.off l c none)
    | _, _ => none
  | .map none => some .nilmap
  | .func (.func f) first cap => match first.isEmpty && cap.isEmpty with
    | true => some (.func f [])
    | false => none
  | .nilFunc => some .nilfunc
  | .nilIface => some .niliface
  | _ => none

def flatAll : List Value → Option (List AV)
  | [] => some []
  | v :: r => match flatAV v, flatAll r with
    | some a, some l => some (a :: l)
    | _, _ => none

def aggAV (v : Value) : Option AV :=
  match v with
  | .agg cs => match flatAll cs.toList with
    | some l => some (.agg l)
    | none => none
  | .tuple vs => match vs.isEmpty with
    | true => some (.tuple [])
    | false => none
  | v => flatAV v

def toAV (v : Value) : Option AV :=
  match v with
  | .iface t v => match aggAV v with
    | some a => some (.iface t a)
    | none => none
  | v => aggAV v

def rl : List AV → RL
  | [] => []
  | a :: l => match rl l with
    | (n, b) :: r => match AV.same a b with
      | true => (n + 1, b) :: r
      | false => (1, a) :: (n, b) :: r
    | [] => [(1, a)]

section
variable (P : Program) (nt : Nat)

def opd : Operand → Option Opd
  | .tmp t => match Nat.blt t nt with
    | true => some (.t (pathOf 64 t))
    | false => none
  | .const v => match toAV v with
    | some a => some (.c a)
    | none => none
  | .global g => some (.c (.ptr (.base g) 0))
  | .func f => some (.c (.func f []))

def opds : List Operand → Option (List Opd)
  | [] => some []
  | x :: r => match opd nt x, opds r with
    | some a, some l => some (a :: l)
    | _, _ => none

def opdO : Option Operand → Option (Option Opd)
  | none => some none
  | some x => match opd nt x with
    | some a => some (some a)
    | none => none

def isAggB (t : TypeId) : Option Bool :=
  match P.underlying t with
  | some (.struct _) | some (.array _ _) => some true
  | some _ => some false
  | none => none

def sizeB (t : TypeId) : Option Nat :=
  match P.info? t with
  | some i => some i.size
  | none => none

def zeroB (t : TypeId) : Option (List AV) :=
  match P.info? t with
  | some i => match i.zero with
    | some z => flatAll z.cells.toList
    | none => none
  | none => none

/- the cells of a type hold whole numbers, truths and strings alone, and all count where two values are compared -/
def flatKind (t : TypeId) : Option Nat :=
  match P.underlying t with
  | some (.int _) => some 0
  | some .bool => some 1
  | some .string => some 2
  | _ => none

def fieldKinds : List Field → Nat → Option (List Nat)
  | [], _ => some []
  | f :: r, i => match f.name != "_" && Nat.beq f.offset i, flatKind P f.type, fieldKinds r (i + 1) with
    | true, some k, some l => some (k :: l)
    | _, _, _ => none

def structEqB (t : TypeId) : Option (List Nat) :=
  match P.underlying t with
  | some (.struct fs) => match !P.stoodInHeld t && !P.eqGuardType P.depth t with
    | true => fieldKinds P fs.toList 0
    | false => none
  | _ => none

def partsS (fs : Array Field) : List (Nat × Operand) → Option (List (Nat × Nat × Opd))
  | [] => some []
  | (i, x) :: r => match fs[i]?, opd nt x, partsS fs r with
    | some f, some a, some l => match sizeB P f.type with
      | some n => some ((f.offset, n, a) :: l)
      | none => none
    | _, _, _ => none

def partsA (n : Nat) : List (Nat × Operand) → Option (List (Nat × Nat × Opd))
  | [] => some []
  | (i, x) :: r => match opd nt x, partsA n r with
    | some a, some l => some ((i * n, n, a) :: l)
    | _, _ => none

def isConstB : Operand → Bool
  | .const _ => true
  | _ => false

def cBin (op : BinOp) (t : TypeId) (x y : Operand) (a b : Opd) : Option AOp :=
  match op with
  | .eql | .neq =>
    let neg := match op with | .neq => true | _ => false
    match P.underlying t with
    | some (.int _) => some (.eqs neg .int a b)
    | some .bool => some (.eqs neg .bool a b)
    | some .string => some (.eqs neg .str a b)
    | some (.pointer _) => some (.eqs neg .ptr a b)
    | some (.slice _) => some (.eqs neg .slice a b)
    | some (.map _ _) => some (.eqs neg .map a b)
    | some (.func _ _ _) => some (.eqs neg .func a b)
    | some (.interface _) => match isConstB x || isConstB y with
      | true => some (.eqs neg .iface a b)
      | false => none
    | some (.struct _) => match structEqB P t with
      | some ks => some (.eqs neg (.cells ks) a b)
      | none => none
    | _ => none
  | op => some (.arith op a b)

def cCall (o : Oper) (c : Call) : Option AOp :=
  match c.callee with
  | .value f => match opds nt c.args.toList with
    | some args => match f with
      | .func g => some (.call g args)
      | f => match opd nt f with
        | some a => some (.callv a args)
        | none => none
    | none => none
  | .builtin b => match opds nt c.args.toList with
    | some args => match b with
      | .append => match args, (c.argTypes[0]?).bind P.underlying, c.argTypes[1]? with
        | [s, x], some (.slice e), some u => match P.underlying u, P.info? e with
          | some (.slice _), some i | some .string, some i => match Nat.beq i.size 0, i.zero with
            | false, some z => match Nat.beq z.cells.size i.size && !Nat.beq i.bytes 0 with
              | true => some (.append i.size i.bytes s x)
              | false => none
            | _, _ => none
          | _, _ => none
        | _, _, _ => none
      | .len => match args, (c.argTypes[0]?).bind P.underlying with
        | [x], some .string => some (.lenStr x)
        | [x], some (.slice _) => some (.len x)
        | [_], some (.array n _) => some (.mv (.c (.int .i64 n)))
        | _, _ => none
      | .max => some (.max args)
      | .min => some (.min args)
      | .copy => match args, (c.argTypes[0]?).bind P.underlying with
        | [d, s], some (.slice e) => match sizeB P e with
          | some n => some (.copy n d s)
          | none => none
        | _, _ => none
      | .clear => match args, (c.argTypes[0]?).bind P.underlying with
        | [x], some (.slice e) => match sizeB P e, zeroB P e with
          | some n, some z => match Nat.beq z.length n && !Nat.beq n 0 with
            | true => some (.clear n (rl z) x)
            | false => none
          | _, _ => none
        | _, _ => none
      | _ => none
    | none => none
  | .invoke _ _ => none

def cOp (o : Oper) : Option AOp :=
  match o.op with
  | .move x | .assign x => match opd nt x with
    | some a => some (.mv a)
    | none => none
  | .pick c a b => match opd nt c, opd nt a, opd nt b with
    | some c, some a, some b => some (.pick c a b)
    | _, _, _ => none
  | .alloc e => match zeroB P e with
    | some z => some (.alloc (rl z))
    | none => none
  | .box _ x => match opd nt x with
    | some a => some (.box a)
    | none => none
  | .build t parts => match P.underlying t, zeroB P t with
    | some (.struct fs), some z => match partsS P nt fs parts.toList, fs.toList.all fun f => (sizeB P f.type).isSome with
      | some l, true => some (.build (rl z) l)
      | _, _ => none
    | some (.array _ e), some z => match sizeB P e with
      | some n => match partsA nt n parts.toList with
        | some l => some (.build (rl z) l)
        | none => none
      | none => none
    | _, _ => none
  | .buildSlice t len parts => match P.underlying t with
    | some (.slice e) => match sizeB P e, zeroB P e with
      | some n, some z => match partsA nt n parts.toList, Nat.beq z.length n && Nat.ble (len * n) 16777216 with
        | some l, true => some (.buildSlice n len (rl z) l)
        | _, _ => none
      | _, _ => none
    | _ => none
  | .load t x => match isAggB P t, sizeB P t, opd nt x with
    | some g, some n, some a => match g || Nat.beq n 1 with
      | true => some (.load g n a)
      | false => none
    | _, _, _ => none
  | .store t x v => match sizeB P t, opd nt x, opd nt v with
    | some n, some a, some b => some (.store n a b)
    | _, _, _ => none
  | .nilCheck x => match opd nt x with
    | some a => some (.nilCheck a)
    | none => none
  | .binOp op t x y _ => match opd nt x, opd nt y with
    | some a, some b => cBin P op t x y a b
    | _, _ => none
  | .unOp op _ x => match opd nt x with
    | some a => some (.un op a)
    | none => none
  | .convert s d x => match P.underlying s, P.underlying d, opd nt x with
    | some (.int _), some (.int k), some a => some (.toInt k a)
    | some .string, some .string, some a => some (.strId a)
    | some (.slice e), some .string, some a => match P.underlying e with
      | some (.int .u8) => some (.bytesToStr a)
      | _ => none
    | some (.slice _), some (.slice e), some a => match s == d, P.underlying e with
      | true, some (.int .u8) => some (.markStr a)
      | _, _ => none
    | _, _, _ => none
  | .makeFunc (.func f) first cap => match first.isEmpty, opds nt cap.toList with
    | true, some l => some (.makeFunc f l)
    | _, _ => none
  | .makeSlice t l c => match P.underlying t, opd nt l, opd nt c with
    | some (.slice e), some a, some b => match P.info? e, zeroB P e with
      | some i, some z => match Nat.beq z.length i.size && !Nat.beq i.size 0 with
        | true => some (.makeSlice i.size i.bytes (rl z) a b)
        | false => none
      | _, _ => none
    | _, _, _ => none
  | .slice t x lo hi mx => match opd nt x, opdO nt lo, opdO nt hi, opdO nt mx with
    | some a, some l, some h, some m => match P.underlying t with
      | some (.slice e) => match sizeB P e with
        | some n => some (.slice n a l h m)
        | none => none
      | some .string => match m with
        | none => some (.sliceStr a l h)
        | some _ => none
      | some (.array len e) => match sizeB P e with
        | some n => some (.sliceArr false len n a l h m)
        | none => none
      | some (.pointer t) => match P.underlying t with
        | some (.array len e) => match sizeB P e with
          | some n => some (.sliceArr true len n a l h m)
          | none => none
        | _ => none
      | _ => none
    | _, _, _, _ => none
  | .fieldAddr s x f => match P.underlying s, opd nt x with
    | some (.struct fs), some a => match fs[f]? with
      | some f => match sizeB P f.type with
        | some n => match Nat.beq n 0 with
          | false => some (.fieldAddr f.offset a)
          | true => none
        | none => none
      | none => none
    | _, _ => none
  | .field t x f => match P.underlying t, opd nt x with
    | some (.struct fs), some a => match fs[f]? with
      | some f => match isAggB P f.type, sizeB P f.type with
        | some g, some n => some (.field g f.offset n a)
        | _, _ => none
      | none => none
    | _, _ => none
  | .indexAddr t x i => match P.underlying t, opd nt x, opd nt i with
    | some (.array len e), some a, some b => match sizeB P e with
      | some n => some (.indexAddrA len n a b)
      | none => none
    | some (.slice e), some a, some b => match sizeB P e with
      | some n => some (.indexAddrS n a b)
      | none => none
    | _, _, _ => none
  | .index t x i => match P.underlying t, opd nt x, opd nt i with
    | some (.array len e), some a, some b => match sizeB P e, isAggB P e with
      | some n, some g => some (.indexA len n g a b)
      | _, _ => none
    | some .string, some a, some b => some (.indexStr a b)
    | _, _, _ => none
  | .extract x i => match opd nt x with
    | some a => some (.extract a i)
    | none => none
  | .call c => cCall P nt o c
  | _ => none

/- kinds of operations, for regions that draw their order: 0 pure, 1 reads, 2 makes a block, 3 all else -/
def kindOf : AOp → Nat
  | .mv _ | .strId _ | .pick .. | .build .. | .nilCheck _ | .arith .. | .eqs .. | .un .. | .toInt .. | .fieldAddr .. | .field .. | .indexAddrA .. | .indexAddrS .. | .indexA .. | .indexStr ..
  | .slice .. | .sliceStr .. | .sliceArr .. | .extract .. | .makeFunc .. | .len _ | .lenStr _ | .max _ | .min _ => 0
  | .load .. => 1
  | .bytesToStr _ => 1
  | .alloc _ | .box _ | .buildSlice .. | .makeSlice .. | .strToBytes _ => 2
  | _ => 3

def akind (a : AOper) : Nat := match kindOf a.op, a.dst, a.guard with
  | 1, none, _ => 3
  | 2, _, some _ => 3
  | k, _, _ => k

/- who must have come up before, by bits -/
def afterOf (o : Oper) : List Nat := (o.after.toList.filter (Region.binds .any)).map (·.on)

def maskOf (masks : List Nat) : List Nat → Nat
  | [] => 0
  | i :: r => 2 ^ i ||| masks.getD i 0 ||| maskOf masks r
def masksOf : List Oper → List Nat → List Nat
  | [], acc => acc
  | o :: r, acc => masksOf r (acc ++ [maskOf acc (afterOf o)])

def looksOf (ops : List Oper) (o : Oper) : List Tmp :=
  (o.op.operands.toList.filterMap fun | .tmp t => some t | _ => none) ++
  (match o.guard with
   | some (g, _) => ((ops[g]?).bind (·.dst)).toList
   | none => [])

def apartB (ops : List Oper) (x y : Oper) : Bool :=
  (match x.dst with
   | some d => !(looksOf ops y).contains d && y.dst != some d
   | none => true) &&
  (match y.dst with
   | some d => !(looksOf ops x).contains d
   | none => true)

/- may a, which stands ahead of b in the order that is laid, come up behind it as well? -/
def mayPass (a b : Nat) : Bool :=
  match a, b with
  | 0, _ => true
  | 1, _ => true
  | 2, 0 => true
  | 2, 2 => true
  | 3, 2 => true
  | _, _ => false

def guardOf (ops : List Oper) : Option (Nat × Bool) → Option (Option (List Bool × Bool))
  | none => some none
  | some (j, want) => match (ops[j]?).bind (·.dst) with
    | some d => match Nat.blt d nt with
      | true => some (some (pathOf 64 d, want))
      | false => none
    | none => none

def dstOf : Option Tmp → Option (Option (List Bool))
  | none => some none
  | some d => match Nat.blt d nt with
    | true => some (some (pathOf 64 d))
    | false => none

def cOper (ops : List Oper) (o : Oper) : AOper :=
  match cOp P nt o, guardOf nt ops o.guard, dstOf nt o.dst with
  | some a, some g, some d => ⟨d, g, a, []⟩
  | _, _, _ => ⟨none, none, .bad, []⟩

def cOpers (ops : List Oper) : List Oper → List AOper
  | [] => []
  | o :: r => cOper P nt ops o :: cOpers ops r

/- the order that is laid: what computes and reads first, then the next of the others, blocks last -/
def pickIdx (ks masks : List Nat) (done : Nat) : List Nat → Option Nat → Option Nat → Option Nat → Option Nat
  | [], some e, _, _ => some e
  | [], none, some e, _ => some e
  | [], none, none, m => m
  | i :: r, n, e, m =>
    if done.testBit i || (masks.getD i 0 &&& done) != masks.getD i 0 then pickIdx ks masks done r n e m else
    match ks.getD i 0 with
    | 0 | 1 => pickIdx ks masks done r (n.orElse fun _ => some i) e m
    | 2 => pickIdx ks masks done r n e (m.orElse fun _ => some i)
    | _ => pickIdx ks masks done r n (e.orElse fun _ => some i) m
def layOrder (ks masks all : List Nat) : Nat → Nat → List Nat
  | 0, _ => []
  | f + 1, done => match pickIdx ks masks done all none none none with
    | some i => i :: layOrder ks masks all f (done ||| 2 ^ i)
    | none => []

/- the check of an order: x stands ahead of y -/
def dstIn (o : Oper) (l : List Tmp) : Bool :=
  match o.dst with
  | some d => l.contains d
  | none => false
def pairOk (ops : List Oper) (masks : List Nat) (x y : Nat × Oper × Nat) : Bool :=
  !(masks.getD x.1 0).testBit y.1 && ((masks.getD y.1 0).testBit x.1 || (mayPass x.2.2 y.2.2 && apartB ops x.2.1 y.2.1)) &&
  (match x.2.1.dst with | some d => y.2.1.dst != some d | none => true) && !(x.2.2 == 1 && dstIn y.2.1 (looksOf ops x.2.1))
def orderOk (ops : List Oper) (masks : List Nat) : List (Nat × Oper × Nat) → Bool
  | [] => true
  | x :: r => r.all (pairOk ops masks x) && orderOk ops masks r
/- a block that may come up ahead of what stands ahead of it hangs on no other such block -/
def lateOk (masks : List Nat) : List (Nat × Oper × Nat) → Bool
  | [] => true
  | x :: r => (!(x.2.2 == 3) || lateFrom masks x.1 r) && lateOk masks r
where
  lateFrom (masks : List Nat) (i : Nat) : List (Nat × Oper × Nat) → Bool
    | [] => true
    | y :: r => (!(y.2.2 == 2) || r.all (fun z => !(z.2.2 == 2) || (masks.getD z.1 0).testBit i || !(masks.getD z.1 0).testBit y.1)) && lateFrom masks i r

/- what is read ahead of an operation of the last kind, and need not be -/
def againFor (masks : List Nat) (y : Nat × Nat) : List (Nat × Oper × AOper) → List (Option (List Bool × Bool) × List Bool × AOp)
  | [] => []
  | (i, _, a) :: r => match y.2 == 3 && akind a == 1 && !(masks.getD y.1 0).testBit i, a.dst with
    | true, some d => (a.guard, d, a.op) :: againFor masks y r
    | _, _ => againFor masks y r

def layOps (masks : List Nat) : List (Nat × Oper × AOper) → List (Nat × Oper × AOper) → List AOper
  | _, [] => []
  | before, (i, o, a) :: r => { a with again := againFor masks (i, akind a) before } :: layOps masks ((i, o, a) :: before) r

/- nobody waits for himself, nor for nobody; what reads does not write what it looks at -/
def selfOk (ops : List Oper) (masks : List Nat) (n : Nat) : List (Nat × Oper × AOper) → Bool
  | [] => true
  | x :: r => !(masks.getD x.1 0).testBit x.1 && (afterOf x.2.1).all (fun e => Nat.blt e n) && !(akind x.2.2 == 1 && dstIn x.2.1 (looksOf ops x.2.1)) && selfOk ops masks n r

def drawItems (ops : List Oper) : List (Nat × Oper × AOper) :=
  let as := cOpers P nt ops ops
  let order := layOrder (as.map akind) (masksOf ops []) (List.range ops.length) ops.length 0
  order.filterMap fun i => match ops[i]?, as[i]? with | some o, some a => some (i, o, a) | _, _ => none

def drawOk (ops : List Oper) (masks : List Nat) (items : List (Nat × Oper × AOper)) : Bool :=
  Nat.beq items.length ops.length && decide ((items.map (·.1)).Nodup) && (List.range ops.length).all (fun i => (items.map (·.1)).contains i) && selfOk ops masks ops.length items &&
  orderOk ops masks (items.map fun x => (x.1, x.2.1, akind x.2.2)) && lateOk masks (items.map fun x => (x.1, x.2.1, akind x.2.2))

def cDraw (ops : List Oper) : Option (List AOper) :=
  match drawOk ops (masksOf ops []) (drawItems P nt ops) with
  | true => some (layOps (masksOf ops []) [] (drawItems P nt ops))
  | false => none

def cCode : Code → ACode
  | .skip => .skip
  | .region _ ops draw => match draw with
    | false => .ops (cOpers P nt ops.toList ops.toList)
    | true => match cDraw P nt ops.toList with
      | some l => .ops l
      | none => .bad
  | .seq a b => .seq (cCode a) (cCode b)
  | .cond c x y => match opd nt c with
    | some c => .cond c (cCode x) (cCode y)
    | none => .bad
  | .block id b => .block id (cCode b)
  | .loop b => .loop (cCode b)
  | .exit id => .exit id
  | .ret => .ret
  | .label _ => .skip
  | _ => .bad

def cRes : List ResultVar → Option (List (List Bool × Option (Bool × Nat)))
  | [] => some []
  | .tmp t :: r => match Nat.blt t nt, cRes r with
    | true, some l => some ((pathOf 64 t, none) :: l)
    | _, _ => none
  | .cell t ty :: r => match Nat.blt t nt, cRes r, isAggB P ty, sizeB P ty with
    | true, some l, some g, some n => match g || Nat.beq n 1 with
      | true => some ((pathOf 64 t, some (g, n)) :: l)
      | false => none
    | _, _, _, _ => none

end

def cFunc (P : Program) (f : Func) : Option AFunc :=
  match f.body, cRes P f.ntmps f.results.toList, Nat.blt f.ntmps 100000 && f.name != "runtime.NumGoroutine" with
  | some c, some r, true => some { body := cCode P f.ntmps c, res := r }
  | _, _, _ => none

end Go.Proofs.Ytohjmflbgohkhaa.E
