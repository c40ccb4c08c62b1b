/- The abstract machine: values, heap, operations and the run of code, as plain computable Lean (no proof yet). -/
import Derived.Calls
import Derived.RowKit3
import Derived.Below
namespace Go.Proofs.Ytohjmflbgohkhaa.E
set_option linter.all false
open Go

inductive ABlk where
  | base (b : Nat)
  | own (i : Nat)
  deriving DecidableEq

inductive AV where
  | bool (b : Bool)
  | int (k : IntKind) (n : Int)
  | str (s : List Nat)
  | ptr (b : ABlk) (o : Nat)
  | nilptr
  | slice (b : ABlk) (o len cap : Nat) (es : Option Nat)
  | nilslice
  | map (i : Nat)
  | nilmap
  | func (f : Nat) (cap : List AV)
  | nilfunc
  | iface (t : Nat) (v : AV)
  | niliface
  | agg (cs : List AV)
  | tuple (vs : List AV)

instance : Inhabited AV := ⟨.tuple []⟩

def AV.undef : AV := .tuple []

def AV.cells : AV → List AV
  | .agg cs => cs
  | v => [v]

def AV.cellsOk : AV → Option (List AV)
  | .tuple _ => none
  | .agg cs => some cs
  | v => some [v]

def AV.oneCell : AV → Bool
  | .agg _ | .tuple _ => false
  | _ => true

/- equality of values, by their form -/
mutual
def AV.same : AV → AV → Bool
  | .bool a, .bool b => a == b
  | .int j a, .int k b => decide (j = k) && decide (a = b)
  | .str a, .str b => decide (a = b)
  | .ptr a i, .ptr b j => decide (a = b) && Nat.beq i j
  | .nilptr, .nilptr => true
  | .slice a i l c e, .slice b j m d f => decide (a = b) && Nat.beq i j && Nat.beq l m && Nat.beq c d && decide (e = f)
  | .nilslice, .nilslice => true
  | .map i, .map j => Nat.beq i j
  | .nilmap, .nilmap => true
  | .func f a, .func g b => Nat.beq f g && AV.sameAll a b
  | .nilfunc, .nilfunc => true
  | .iface t a, .iface u b => Nat.beq t u && AV.same a b
  | .niliface, .niliface => true
  | .agg a, .agg b => AV.sameAll a b
  | .tuple a, .tuple b => AV.sameAll a b
  | _, _ => false
def AV.sameAll : List AV → List AV → Bool
  | [], [] => true
  | a :: l, b :: m => AV.same a b && AV.sameAll l m
  | _, _ => false
end

/- whole numbers, fast for the kernel -/
def iEq : Int → Int → Bool
  | .ofNat a, .ofNat b => Nat.beq a b
  | .negSucc a, .negSucc b => Nat.beq a b
  | _, _ => false
def iLt : Int → Int → Bool
  | .ofNat a, .ofNat b => Nat.blt a b
  | .negSucc a, .negSucc b => Nat.blt b a
  | .negSucc _, .ofNat _ => true
  | .ofNat _, .negSucc _ => false
def iLe (a b : Int) : Bool := !iLt b a
def iAdd : Int → Int → Int
  | .ofNat a, .ofNat b => .ofNat (a + b)
  | a, b => a + b

theorem iEq_eq (a b : Int) : iEq a b = (a == b) := by
  rw [Bool.eq_iff_iff]
  cases a <;> cases b <;> simp [iEq, Nat.beq_eq_true_eq] <;> omega
theorem iLt_eq (a b : Int) : iLt a b = decide (a < b) := by
  rw [Bool.eq_iff_iff]
  cases a <;> cases b <;> simp [iLt, Nat.blt_eq] <;> omega
theorem iLe_eq (a b : Int) : iLe a b = decide (a ≤ b) := by
  rw [Bool.eq_iff_iff]; unfold iLe; rw [iLt_eq]; simp

def fits : IntKind → Int → Bool
  | .i64, .ofNat n => Nat.blt n 9223372036854775808
  | .i64, .negSucc n => Nat.blt n 9223372036854775808
  | .u8, .ofNat n => Nat.blt n 256
  | .u32, .ofNat n => Nat.blt n 4294967296
  | .u64, .ofNat n => Nat.blt n 18446744073709551616
  | _, _ => false
def awrap (k : IntKind) (n : Int) : Int := cond (fits k n) n (k.wrap n)

/- the frame: a tree of slots; a slot's place is a path -/
inductive Env where
  | e
  | n (l : Env) (v : AV) (r : Env)

def Env.get : Env → List Bool → AV
  | .e, _ => .tuple []
  | .n _ v _, [] => v
  | .n l _ r, b :: p => cond b (l.get p) (r.get p)

def Env.set : Env → List Bool → AV → Env
  | .e, [], v => .n .e v .e
  | .n l _ r, [], v => .n l v r
  | .e, b :: p, v => cond b (.n (Env.set .e p v) (.tuple []) .e) (.n .e (.tuple []) (Env.set .e p v))
  | .n l u r, b :: p, v => cond b (.n (l.set p v) u r) (.n l u (r.set p v))

def pathOf : Nat → Nat → List Bool
  | 0, _ => []
  | f + 1, n => if n = 0 then [] else (n % 2 == 1) :: pathOf f ((n - 1) / 2)

/- an operand: a slot or a value -/
inductive Opd where
  | t (p : List Bool)
  | c (v : AV)

def Opd.ev (env : Env) : Opd → AV
  | .t p => env.get p
  | .c v => v

/- a row of values: how many of each -/
abbrev RL := List (Nat × AV)
def rep : Nat → AV → List AV → List AV
  | 0, _, acc => acc
  | n + 1, v, acc => v :: rep n v acc
def RL.out : RL → List AV
  | [] => []
  | (n, v) :: r => rep n v (RL.out r)
def timesL : Nat → List AV → List AV
  | 0, _ => []
  | n + 1, l => l ++ timesL n l

inductive EqMode where
  | int | bool | str | ptr | slice | map | func | iface | cells (ks : List Nat)
  deriving DecidableEq

inductive AOp where
  | mv (x : Opd)
  | pick (c a b : Opd)
  | alloc (z : RL)
  | box (x : Opd)
  | build (z : RL) (parts : List (Nat × Nat × Opd))
  | buildSlice (es len : Nat) (z : RL) (parts : List (Nat × Nat × Opd))
  | load (agg : Bool) (n : Nat) (x : Opd)
  | store (n : Nat) (x v : Opd)
  | nilCheck (x : Opd)
  | arith (op : BinOp) (x y : Opd)
  | eqs (neg : Bool) (m : EqMode) (x y : Opd)
  | un (op : UnOp) (x : Opd)
  | toInt (k : IntKind) (x : Opd)
  | strId (x : Opd)
  | strToBytes (x : Opd)
  | markStr (x : Opd)
  | bytesToStr (x : Opd)
  | fieldAddr (off : Nat) (x : Opd)
  | field (agg : Bool) (off n : Nat) (x : Opd)
  | indexAddrA (len es : Nat) (x i : Opd)
  | indexAddrS (es : Nat) (x i : Opd)
  | indexA (len es : Nat) (agg : Bool) (x i : Opd)
  | indexStr (x i : Opd)
  | makeSlice (es bytes : Nat) (z : RL) (l c : Opd)
  | slice (es : Nat) (x : Opd) (lo hi mx : Option Opd)
  | sliceStr (x : Opd) (lo hi : Option Opd)
  | sliceArr (chk : Bool) (n es : Nat) (x : Opd) (lo hi mx : Option Opd)
  | extract (x : Opd) (i : Nat)
  | makeFunc (f : Nat) (cap : List Opd)
  | call (f : Nat) (args : List Opd)
  | callv (f : Opd) (args : List Opd)
  | append (es bytes : Nat) (s x : Opd)
  | len (x : Opd)
  | lenStr (x : Opd)
  | max (xs : List Opd)
  | min (xs : List Opd)
  | copy (es : Nat) (d s : Opd)
  | clear (es : Nat) (z : RL) (x : Opd)
  | bad

structure AOper where
  dst : Option (List Bool)
  guard : Option (List Bool × Bool)
  op : AOp
  /- what was read ahead and must read the same behind this one: guard, slot, operation -/
  again : List (Option (List Bool × Bool) × List Bool × AOp) := []

inductive ACode where
  | skip
  | ops (l : List AOper)
  | seq (a b : ACode)
  | cond (c : Opd) (x y : ACode)
  | block (id : Nat) (b : ACode)
  | loop (b : ACode)
  | exit (id : Nat)
  | ret
  | bad

inductive AObj where
  | cells (cs : List AV)
  | map (es : List (AV × AV))
  | dead

abbrev AHeap := List AObj

structure AFunc where
  body : ACode
  /- results: a slot, or a variable in memory whose address lies in the slot -/
  res : List (List Bool × Option (Bool × Nat))
  /- or what is known of it from elsewhere -/
  ext : Option (List AV → AHeap → Option (AV × AHeap)) := none


/- the cells of blocks that were there before -/
abbrev Base := Nat → Nat → Option AV

def baseCells (B : Base) (b o : Nat) : Nat → Option (List AV)
  | 0 => some []
  | n + 1 => match B b o with
    | some v => match baseCells B b (o + 1) n with
      | some l => some (v :: l)
      | none => none
    | none => none

def hcells (h : AHeap) (i : Nat) : Option (List AV) :=
  match h[i]? with
  | some (.cells cs) => some cs
  | _ => none

def takeN : Nat → List AV → Option (List AV)
  | 0, _ => some []
  | _ + 1, [] => none
  | n + 1, v :: l => match takeN n l with
    | some r => some (v :: r)
    | none => none

def loadN (B : Base) (h : AHeap) (b : ABlk) (o n : Nat) : Option (List AV) :=
  match b with
  | .own i => match hcells h i with
    | some cs => takeN n (cs.drop o)
    | none => none
  | .base b => baseCells B b o n

def splice : List AV → Nat → List AV → Option (List AV)
  | cs, 0, [] => some cs
  | c :: cs, o + 1, vs => match splice cs o vs with
    | some r => some (c :: r)
    | none => none
  | _ :: cs, 0, v :: vs => match splice cs 0 vs with
    | some r => some (v :: r)
    | none => none
  | [], _, _ => none

def storeN (h : AHeap) (b : ABlk) (o : Nat) (vs : List AV) : Option AHeap :=
  match b with
  | .own i => match hcells h i with
    | some cs => match splice cs o vs with
      | some r => some (h.set i (.cells r))
      | none => none
    | none => none
  | .base _ => match vs with
    | [] => some h
    | _ => none

def allOne : List AV → Bool
  | [] => true
  | v :: l => v.oneCell && allOne l

inductive ARes where
  | val (v : AV) (h : AHeap)
  | enter (f : Nat) (args : List AV)

def evs (env : Env) : List Opd → List AV
  | [] => []
  | x :: l => x.ev env :: evs env l

/- parts laid over cells -/
def fillL (env : Env) : List AV → List (Nat × Nat × Opd) → Option (List AV)
  | cs, [] => some cs
  | cs, (off, n, x) :: r =>
    match (x.ev env).cellsOk with
    | some l => match Nat.beq l.length n with
      | true => match splice cs off l with
        | some cs => fillL env cs r
        | none => none
      | false => none
    | none => none

def asIdx : AV → Option Int
  | .int _ n => some n
  | _ => none

def inRange (n : Int) (len : Nat) : Option Nat :=
  match n with
  | .ofNat i => cond (Nat.blt i len) (some i) none
  | _ => none
def upTo (n : Int) (len : Nat) : Option Nat :=
  match n with
  | .ofNat i => cond (Nat.ble i len) (some i) none
  | _ => none

def boundV (y : Nat) : AV → Option Nat
  | .int _ n => upTo n y
  | _ => none
def bound (env : Env) (x : Option Opd) (y : Nat) (dflt : Option Nat) : Option Nat :=
  match x with
  | none => dflt
  | some x => boundV y (x.ev env)

def hiD (len : Nat) : Option Opd → Option Nat
  | none => some len
  | some _ => none

/- low, high, max of a slice expression -/
def bounds (env : Env) (len cap : Nat) (lo hi mx : Option Opd) : Option (Nat × Nat × Nat) :=
  match bound env mx cap (some cap) with
  | none => none
  | some m => match bound env hi m (hiD len mx) with
    | none => none
    | some h => match bound env lo h (some 0) with
      | none => none
      | some l => some (l, h, m)

def partOf (agg : Bool) (off n : Nat) (cs : List AV) : Option AV :=
  match agg with
  | true => match takeN n (cs.drop off) with
    | some l => some (.agg l)
    | none => none
  | false => cs[off]?

def arithOp (op : BinOp) (x y : AV) : Option AV :=
  match x, y with
  | .int k a, .int k' b =>
    match op with
    | .shl => match b with
      | .ofNat n => some (.int k (awrap k (a * 2 ^ (Nat.min n k.bits))))
      | _ => none
    | .shr => match b with
      | .ofNat n => some (.int k (a.fdiv (2 ^ (Nat.min n k.bits))))
      | _ => none
    | _ =>
    match decide (k = k') with
    | false => none
    | true =>
      match op with
      | .add => some (.int k (awrap k (iAdd a b)))
      | .sub => some (.int k (awrap k (a - b)))
      | .mul => some (.int k (awrap k (a * b)))
      | .quo => match iEq b 0 with
        | true => none
        | false => some (.int k (awrap k (a.tdiv b)))
      | .rem => match iEq b 0 with
        | true => none
        | false => some (.int k (a.tmod b))
      | .and => some (.int k (k.wrap (BitVec.ofInt k.bits a &&& BitVec.ofInt k.bits b).toNat))
      | .or => some (.int k (k.wrap (BitVec.ofInt k.bits a ||| BitVec.ofInt k.bits b).toNat))
      | .xor => some (.int k (k.wrap (BitVec.ofInt k.bits a ^^^ BitVec.ofInt k.bits b).toNat))
      | .andNot => some (.int k (k.wrap (BitVec.ofInt k.bits a &&& ~~~BitVec.ofInt k.bits b).toNat))
      | .lss => some (.bool (iLt a b))
      | .leq => some (.bool (iLe a b))
      | .gtr => some (.bool (iLt b a))
      | .geq => some (.bool (iLe b a))
      | _ => none
  | .str a, .str b =>
    match op with
    | .add => cond (Nat.blt (a.length + b.length) 1000000000000000000) (some (.str (a ++ b))) none
    | _ => none
  | _, _ => none

def isNilV : EqMode → AV → Option Bool
  | .ptr, .nilptr => some true
  | .ptr, .ptr _ _ => some false
  | .slice, .nilslice => some true
  | .slice, .slice .. => some false
  | .map, .nilmap => some true
  | .map, .map _ => some false
  | .func, .nilfunc => some true
  | .func, .func .. => some false
  | .iface, .niliface => some true
  | .iface, .iface .. => some false
  | _, _ => none

def scalarK : Nat → AV → AV → Option Bool
  | 0, .int j a, .int k b => match decide (j = k) with
    | true => some (iEq a b)
    | false => none
  | 1, .bool a, .bool b => some (a == b)
  | 2, .str a, .str b => some (decide (a = b))
  | _, _, _ => none
def cellsEq : List Nat → List AV → List AV → Option Bool
  | [], [], [] => some true
  | k :: ks, a :: l, b :: m => match scalarK k a b, cellsEq ks l m with
    | some x, some y => some (x && y)
    | _, _ => none
  | _, _, _ => none

def eqOp (m : EqMode) (x y : AV) : Option Bool :=
  match m with
  | .int => scalarK 0 x y
  | .bool => scalarK 1 x y
  | .str => scalarK 2 x y
  | .cells ks => match x, y with
    | .agg a, .agg b => cellsEq ks a b
    | _, _ => none
  | m => match isNilV m x, isNilV m y with
    | some true, some b => some b
    | some b, some true => some b
    | _, _ => none

def unOpA (op : UnOp) (x : AV) : Option AV :=
  match op, x with
  | .neg, .int k n => some (.int k (awrap k (0 - n)))
  | .not, .bool b => some (.bool (!b))
  | .xor, .int k n => some (.int k (k.wrap (BitVec.ofInt k.bits (if k.signed then -1 else k.max) ^^^ BitVec.ofInt k.bits n).toNat))
  | _, _ => none

def imax (a b : Int) : Int := cond (iLt a b) b a
def imin (a b : Int) : Int := cond (iLt b a) b a
def foldMM (f : Int → Int → Int) : AV → List AV → Option AV
  | v, [] => some v
  | .int k a, .int k' b :: r => match decide (k = k') with
    | true => foldMM f (.int k (f a b)) r
    | false => none
  | _, _ => none

/- bytes as cells, and back -/
def byteCells : List Nat → List AV
  | [] => []
  | b :: r => .int .u8 (.ofNat b) :: byteCells r
def ofByteCells : List AV → Option (List Nat)
  | [] => some []
  | .int .u8 (.ofNat n) :: r => match Nat.blt n 256, ofByteCells r with
    | true, some l => some (n :: l)
    | _, _ => none
  | _ => none

/- what is appended or copied: its cells and their number in elements -/
def srcCells (B : Base) (h : AHeap) (es : Nat) : AV → Option (Nat × List AV)
  | .slice b o len _ _ => match loadN B h b o (len * es) with
    | some l => some (len, l)
    | none => none
  | .nilslice => some (0, [])
  | .str s => match es with
    | 1 => some (s.length, byteCells s)
    | _ => none
  | _ => none

def roomy (n : Nat) : Bool := Nat.ble n 35184372088832

def appendOp (B : Base) (h : AHeap) (es bytes : Nat) (s x : AV) : Option (AV × AHeap) :=
  match srcCells B h es x with
  | none => none
  | some (n, new) =>
    match s with
    | .nilslice =>
      match n with
      | 0 => some (.nilslice, h)
      | _ => cond (roomy (n * bytes)) (some (.slice (.own h.length) 0 n n (some es), h ++ [.cells new])) none
    | .slice b o len cap e =>
      match Nat.ble (len + n) cap with
      | true => match storeN h b (o + len * es) new with
        | some h => some (.slice b o (len + n) cap e, h)
        | none => none
      | false =>
        match roomy ((len + n) * bytes), loadN B h b o (len * es) with
        | true, some old =>
          match e with
          | none => some (.slice (.own h.length) 0 (len + n) (len + n) (some es), h ++ [.cells (old ++ new)])
          | some e' =>
            match b with
            | .own i => match hcells h i with
              | some cs =>
                match Nat.beq (o + len * es) cs.length && Nat.beq e' es with
                | true => some (.slice (.own h.length) 0 (len + n) (len + n) (some es), h.set i .dead ++ [.cells (old ++ new)])
                | false => none
              | none => none
            | .base _ => none
        | _, _ => none
    | _ => none

def isStrV : AV → Bool
  | .str _ => true
  | _ => false

def esOk : Option Nat → Nat → Bool
  | none, _ => true
  | some e, n => Nat.beq e n

def evalOp (B : Base) (env : Env) (h : AHeap) : AOp → Option ARes
  | .mv x => some (.val (x.ev env) h)
  | .pick c a b => match c.ev env with
    | .bool t => some (.val (cond t (a.ev env) (b.ev env)) h)
    | _ => none
  | .alloc z => some (.val (.ptr (.own h.length) 0) (h ++ [.cells z.out]))
  | .box x => match (x.ev env).cellsOk with
    | some l => some (.val (.ptr (.own h.length) 0) (h ++ [.cells l]))
    | none => none
  | .build z parts => match fillL env z.out parts with
    | some cs => some (.val (.agg cs) h)
    | none => none
  | .buildSlice _ len z parts => match fillL env (timesL len z.out) parts with
    | some cs => some (.val (.slice (.own h.length) 0 len len none) (h ++ [.cells cs]))
    | none => none
  | .load agg n x => match x.ev env with
    | .ptr b o => match loadN B h b o n with
      | some l => match agg with
        | true => some (.val (.agg l) h)
        | false => match l with
          | [v] => some (.val v h)
          | _ => none
      | none => none
    | _ => none
  | .store n x v => match x.ev env with
    | .ptr b o => match (v.ev env).cellsOk with
      | some l => match Nat.beq l.length n with
        | true => match storeN h b o l with
          | some h => some (.val (.tuple []) h)
          | none => none
        | false => none
      | none => none
    | _ => none
  | .nilCheck x => match x.ev env with
    | .ptr b o => some (.val (.ptr b o) h)
    | .func f c => some (.val (.func f c) h)
    | _ => none
  | .arith op x y => match arithOp op (x.ev env) (y.ev env) with
    | some v => some (.val v h)
    | none => none
  | .eqs neg m x y => match eqOp m (x.ev env) (y.ev env) with
    | some b => some (.val (.bool (cond neg (!b) b)) h)
    | none => none
  | .un op x => match unOpA op (x.ev env) with
    | some v => some (.val v h)
    | none => none
  | .toInt k x => match x.ev env with
    | .int _ n => some (.val (.int k (awrap k n)) h)
    | _ => none
  | .strId x => match x.ev env with
    | .str s => some (.val (.str s) h)
    | _ => none
  | .strToBytes x => match x.ev env with
    | .str s => some (.val (.slice (.own h.length) 0 s.length s.length (some 1)) (h ++ [.cells (byteCells s)]))
    | _ => none
  | .markStr x => match x.ev env with
    | .slice (.own i) o l c e => match hcells h i, Nat.beq l 0 with
      | some _, false => some (.val (.slice (.own i) o l c e) h)
      | _, _ => none
    | _ => none
  | .bytesToStr x => match isStrV (x.ev env) with
    | true => none
    | false => match srcCells B h 1 (x.ev env) with
      | some (_, cs) => match ofByteCells cs with
        | some l => some (.val (.str l) h)
        | none => none
      | none => none
  | .fieldAddr off x => match x.ev env with
    | .ptr b o => some (.val (.ptr b (o + off)) h)
    | _ => none
  | .field agg off n x => match x.ev env with
    | .agg cs => match partOf agg off n cs with
      | some v => some (.val v h)
      | none => none
    | _ => none
  | .indexAddrA len es x i => match x.ev env, i.ev env with
    | .ptr b o, .int _ n => match inRange n len with
      | some j => some (.val (.ptr b (o + j * es)) h)
      | none => none
    | _, _ => none
  | .indexAddrS es x i => match x.ev env, i.ev env with
    | .slice b o len _ _, .int _ n => match inRange n len with
      | some j => some (.val (.ptr b (o + j * es)) h)
      | none => none
    | _, _ => none
  | .indexA len es agg x i => match x.ev env, i.ev env with
    | .agg cs, .int _ n => match inRange n len with
      | some j => match partOf agg (j * es) es cs with
        | some v => some (.val v h)
        | none => none
      | none => none
    | _, _ => none
  | .indexStr x i => match x.ev env, i.ev env with
    | .str s, .int _ n => match n with
      | .ofNat j => match s[j]? with
        | some c => some (.val (.int .u8 (.ofNat c)) h)
        | none => none
      | _ => none
    | _, _ => none
  | .makeSlice _ bytes z l c => match l.ev env, c.ev env with
    | .int _ (.ofNat l), .int _ (.ofNat c) =>
      match Nat.ble l c && roomy (c * bytes) && roomy c with
      | true => some (.val (.slice (.own h.length) 0 l c none) (h ++ [.cells (timesL c z.out)]))
      | false => none
    | _, _ => none
  | .slice es x lo hi mx => match x.ev env with
    | .slice b o len cap e => match esOk e es, bounds env len cap lo hi mx with
      | true, some (l, hh, m) => some (.val (.slice b (o + l * es) (hh - l) (m - l) (match mx with | none => e | some _ => none)) h)
      | _, _ => none
    | .nilslice => match bounds env 0 0 lo hi mx with
      | some _ => some (.val .nilslice h)
      | none => none
    | _ => none
  | .sliceStr x lo hi => match x.ev env with
    | .str s => match bounds env s.length s.length lo hi none with
      | some (l, hh, _) => some (.val (.str ((s.drop l).take (hh - l))) h)
      | none => none
    | _ => none
  | .sliceArr _ n es x lo hi mx => match x.ev env with
    | .ptr b o => match bounds env n n lo hi mx with
      | some (l, hh, m) => some (.val (.slice b (o + l * es) (hh - l) (m - l) none) h)
      | none => none
    | _ => none
  | .extract x i => match x.ev env with
    | .tuple vs => match vs[i]? with
      | some v => some (.val v h)
      | none => none
    | _ => none
  | .makeFunc f cap => some (.val (.func f (evs env cap)) h)
  | .call f args => some (.enter f (evs env args))
  | .callv f args => match f.ev env with
    | .func g cap => some (.enter g (evs env args ++ cap))
    | _ => none
  | .append es bytes s x => match appendOp B h es bytes (s.ev env) (x.ev env) with
    | some (v, h) => some (.val v h)
    | none => none
  | .lenStr x => match x.ev env with
    | .str s => some (.val (.int .i64 (.ofNat s.length)) h)
    | _ => none
  | .len x => match x.ev env with
    | .slice _ _ n _ _ => some (.val (.int .i64 (.ofNat n)) h)
    | .nilslice => some (.val (.int .i64 0) h)
    | _ => none
  | .max xs => match evs env xs with
    | v :: r => match foldMM imax v r with
      | some v => some (.val v h)
      | none => none
    | [] => none
  | .min xs => match evs env xs with
    | v :: r => match foldMM imin v r with
      | some v => some (.val v h)
      | none => none
    | [] => none
  | .copy es d s => match d.ev env, srcCells B h es (s.ev env) with
    | .slice b o len _ _, some (n, cs) => match storeN h b o (cs.take (Nat.min n len * es)) with
      | some h => some (.val (.int .i64 (.ofNat (Nat.min n len))) h)
      | none => none
    | .nilslice, some _ => some (.val (.int .i64 0) h)
    | _, _ => none
  | .clear _ z x => match x.ev env with
    | .slice b o len _ _ => match storeN h b o (timesL len z.out) with
      | some h => some (.val (.tuple []) h)
      | none => none
    | .nilslice => some (.val (.tuple []) h)
    | _ => none
  | .bad => none

inductive AExit where
  | normal | exit (id : Nat) | ret

structure AOut where
  e : AExit
  env : Env
  h : AHeap

abbrev Exec := ACode → Env → AHeap → Option AOut

def envArgs : Nat → List AV → Env → Env
  | _, [], env => env
  | i, v :: r, env => envArgs (i + 1) r (env.set (pathOf 64 i) v)

def oneOf : Bool → List AV → Option AV
  | true, l => some (.agg l)
  | false, [v] => some v
  | _, _ => none

def getRes (B : Base) (env : Env) (h : AHeap) : List Bool × Option (Bool × Nat) → Option AV
  | (p, none) => some (env.get p)
  | (p, some (agg, n)) => match env.get p with
    | .ptr b o => match loadN B h b o n with
      | some l => oneOf agg l
      | none => none
    | _ => none

def getAll (B : Base) (env : Env) (h : AHeap) : List (List Bool × Option (Bool × Nat)) → Option (List AV)
  | [] => some []
  | p :: r => match getRes B env h p, getAll B env h r with
    | some v, some l => some (v :: l)
    | _, _ => none

def packed : List AV → AV
  | [v] => v
  | l => .tuple l

def callF (B : Base) (G : Nat → Option AFunc) (rec : Exec) (f : Nat) (args : List AV) (h : AHeap) : Option (AV × AHeap) :=
  match G f with
  | some af => match af.ext with
    | some F => F args h
    | none => match Nat.ble args.length 1000 with
      | true => match rec af.body (envArgs 0 args .e) h with
        | some ⟨.exit _, _, _⟩ => none
        | some ⟨_, env, h⟩ => match getAll B env h af.res with
          | some l => some (packed l, h)
          | none => none
        | none => none
      | false => none
  | none => none

def putE (env : Env) (d : Option (List Bool)) (v : AV) : Env :=
  match d with
  | some p => env.set p v
  | none => env

def wantedA (env : Env) : Option (List Bool × Bool) → Bool
  | none => true
  | some (p, want) => match env.get p with
    | .bool b => b == want
    | _ => false

def againOk (B : Base) (env : Env) (h : AHeap) : List (Option (List Bool × Bool) × List Bool × AOp) → Bool
  | [] => true
  | (g, p, op) :: r => match wantedA env g with
    | false => againOk B env h r
    | true => match evalOp B env h op with
      | some (.val v _) => AV.same (env.get p) v && againOk B env h r
      | _ => false

def opStep (B : Base) (G : Nat → Option AFunc) (rec : Exec) (o : AOper) (env : Env) (h : AHeap) : Option (Env × AHeap) :=
  match wantedA env o.guard with
  | false => some (putE env o.dst (.tuple []), h)
  | true => match evalOp B env h o.op with
    | some (.val v h) => some (putE env o.dst v, h)
    | some (.enter f args) => match callF B G rec f args h with
      | some (v, h) => some (putE env o.dst v, h)
      | none => none
    | none => none

def runOps (B : Base) (G : Nat → Option AFunc) (rec : Exec) : List AOper → Env → AHeap → Option (Env × AHeap)
  | [], env, h => some (env, h)
  | o :: r, env, h => match opStep B G rec o env h with
    | some (env, h) => match againOk B env h o.again with
      | true => runOps B G rec r env h
      | false => none
    | none => none

def step (B : Base) (G : Nat → Option AFunc) (rec : Exec) : Exec
  | .skip, env, h => some ⟨.normal, env, h⟩
  | .ops l, env, h => match runOps B G rec l env h with
    | some (env, h) => some ⟨.normal, env, h⟩
    | none => none
  | .seq a b, env, h => match rec a env h with
    | some ⟨.normal, env, h⟩ => rec b env h
    | r => r
  | .cond c x y, env, h => match c.ev env with
    | .bool true => rec x env h
    | .bool false => rec y env h
    | _ => none
  | .block id b, env, h => match rec b env h with
    | some ⟨.exit i, env, h⟩ => cond (Nat.beq i id) (some ⟨.normal, env, h⟩) (some ⟨.exit i, env, h⟩)
    | r => r
  | .loop b, env, h => match rec b env h with
    | some ⟨.normal, env, h⟩ => rec (.loop b) env h
    | r => r
  | .exit id, env, h => some ⟨.exit id, env, h⟩
  | .ret, env, h => some ⟨.ret, env, h⟩
  | .bad, _, _ => none

/- the run, with so many levels -/
def exec (B : Base) (G : Nat → Option AFunc) (n : Nat) : Exec :=
  Nat.rec (fun _ _ _ => none) (fun _ rec => step B G rec) n

def callN (B : Base) (G : Nat → Option AFunc) (n : Nat) : Nat → List AV → AHeap → Option (AV × AHeap) := callF B G (exec B G n)

theorem exec_succ (B : Base) (G : Nat → Option AFunc) (n : Nat) : exec B G (n + 1) = step B G (exec B G n) := rfl

end Go.Proofs.Ytohjmflbgohkhaa.E
