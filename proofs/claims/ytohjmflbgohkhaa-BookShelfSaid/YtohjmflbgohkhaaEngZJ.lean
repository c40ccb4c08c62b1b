/- Pieces of code that are unfolded only where they are run; and what each operation does, by functions of values alone. -/
import Derived.Test.YtohjmflbgohkhaaEngZI
namespace Go.Proofs.Ytohjmflbgohkhaa.E
set_option linter.all false
open Go

abbrev Unf (a b : ACode) : Prop := ∀ (B : Base) (G : Nat → Option AFunc) (st : List Fr) (env : Env) (h : AHeap) (Q : Post), WS B G a st env h Q = WS B G b st env h Q
theorem Unf.of {a b : ACode} (h : a = b) : Unf a b := fun _ _ _ _ _ _ => by rw [h]

def valR (x : Option AV) (h : AHeap) : Option ARes := match x with
  | some v => some (.val v h)
  | none => none
def vhR (x : Option (AV × AHeap)) : Option ARes := match x with
  | some (v, h) => some (.val v h)
  | none => none
def hpR (v : AV) (x : Option AHeap) : Option ARes := match x with
  | some h => some (.val v h)
  | none => none
def pickR (c a b : AV) (h : AHeap) : Option ARes := match c with
  | .bool t => some (.val (cond t a b) h)
  | _ => none
def boxR (x : Option (List AV)) (h : AHeap) : Option ARes := match x with
  | some l => some (.val (.ptr (.own h.length) 0) (h ++ [.cells l]))
  | none => none
def bldR (x : Option (List AV)) (h : AHeap) : Option ARes := match x with
  | some cs => some (.val (.agg cs) h)
  | none => none
def bslR (len : Nat) (x : Option (List AV)) (h : AHeap) : Option ARes := match x with
  | some cs => some (.val (.slice (.own h.length) 0 len len none) (h ++ [.cells cs]))
  | none => none
def ldR (agg : Bool) (x : Option (List AV)) (h : AHeap) : Option ARes := match x with
  | some l => match agg with
    | true => some (.val (.agg l) h)
    | false => match l with
      | [v] => some (.val v h)
      | _ => none
  | none => none
def loadR (B : Base) (h : AHeap) (agg : Bool) (n : Nat) (v : AV) : Option ARes := match v with
  | .ptr b o => ldR agg (loadN B h b o n) h
  | _ => none
def stR (h : AHeap) (b : ABlk) (o n : Nat) (x : Option (List AV)) : Option ARes := match x with
  | some l => match Nat.beq l.length n with
    | true => hpR (.tuple []) (storeN h b o l)
    | false => none
  | none => none
def storeR (h : AHeap) (n : Nat) (p v : AV) : Option ARes := match p with
  | .ptr b o => stR h b o n v.cellsOk
  | _ => none
def nilR (v : AV) (h : AHeap) : Option ARes := match v with
  | .ptr b o => some (.val (.ptr b o) h)
  | .func f c => some (.val (.func f c) h)
  | _ => none
def eqR (neg : Bool) (x : Option Bool) (h : AHeap) : Option ARes := match x with
  | some b => some (.val (.bool (cond neg (!b) b)) h)
  | none => none
def toIntR (k : IntKind) (v : AV) (h : AHeap) : Option ARes := match v with
  | .int _ n => some (.val (.int k (awrap k n)) h)
  | _ => none
def strIdR (v : AV) (h : AHeap) : Option ARes := match v with
  | .str s => some (.val (.str s) h)
  | _ => none
def s2bR (v : AV) (h : AHeap) : Option ARes := match v with
  | .str s => some (.val (.slice (.own h.length) 0 s.length s.length (some 1)) (h ++ [.cells (byteCells s)]))
  | _ => none
def mkStrR (v : AV) (h : AHeap) : Option ARes := match v with
  | .slice (.own i) o l c e => match hcells h i, Nat.beq l 0 with
    | some _, false => some (.val (.slice (.own i) o l c e) h)
    | _, _ => none
  | _ => none
def ofbR (x : Option (List Nat)) (h : AHeap) : Option ARes := match x with
  | some l => some (.val (.str l) h)
  | none => none
def b2sR (x : Option (Nat × List AV)) (h : AHeap) : Option ARes := match x with
  | some (_, cs) => ofbR (ofByteCells cs) h
  | none => none
def fldAR (off : Nat) (v : AV) (h : AHeap) : Option ARes := match v with
  | .ptr b o => some (.val (.ptr b (o + off)) h)
  | _ => none
def fldR (agg : Bool) (off n : Nat) (v : AV) (h : AHeap) : Option ARes := match v with
  | .agg cs => valR (partOf agg off n cs) h
  | _ => none
def ptrR (b : ABlk) (o es : Nat) (x : Option Nat) (h : AHeap) : Option ARes := match x with
  | some j => some (.val (.ptr b (o + j * es)) h)
  | none => none
def idxAR (len es : Nat) (v i : AV) (h : AHeap) : Option ARes := match v, i with
  | .ptr b o, .int _ n => ptrR b o es (inRange n len) h
  | _, _ => none
def idxSR (es : Nat) (v i : AV) (h : AHeap) : Option ARes := match v, i with
  | .slice b o len _ _, .int _ n => ptrR b o es (inRange n len) h
  | _, _ => none
def partR (agg : Bool) (es : Nat) (cs : List AV) (x : Option Nat) (h : AHeap) : Option ARes := match x with
  | some j => valR (partOf agg (j * es) es cs) h
  | none => none
def idxVR (len es : Nat) (agg : Bool) (v i : AV) (h : AHeap) : Option ARes := match v, i with
  | .agg cs, .int _ n => partR agg es cs (inRange n len) h
  | _, _ => none
def chR (x : Option Nat) (h : AHeap) : Option ARes := match x with
  | some c => some (.val (.int .u8 (.ofNat c)) h)
  | none => none
def idxStrR (v i : AV) (h : AHeap) : Option ARes := match v, i with
  | .str s, .int _ (.ofNat j) => chR s[j]? h
  | _, _ => none
def mkSlR (bytes : Nat) (z : List AV) (l c : AV) (h : AHeap) : Option ARes := match l, c with
  | .int _ (.ofNat l), .int _ (.ofNat c) => match Nat.ble l c && roomy (c * bytes) && roomy c with
    | true => some (.val (.slice (.own h.length) 0 l c none) (h ++ [.cells (timesL c z)]))
    | false => none
  | _, _ => none
def sbR (b : ABlk) (o es : Nat) (e : Option Nat) (ok : Bool) (x : Option (Nat × Nat × Nat)) (h : AHeap) : Option ARes := match ok, x with
  | true, some (l, hh, m) => some (.val (.slice b (o + l * es) (hh - l) (m - l) e) h)
  | _, _ => none
def someR (v : AV) (x : Option (Nat × Nat × Nat)) (h : AHeap) : Option ARes := match x with
  | some _ => some (.val v h)
  | none => none
def noMx (mx : Option Opd) (e : Option Nat) : Option Nat := match mx with
  | none => e
  | some _ => none
def sliceR (env : Env) (es : Nat) (v : AV) (lo hi mx : Option Opd) (h : AHeap) : Option ARes := match v with
  | .slice b o len cap e => sbR b o es (noMx mx e) (esOk e es) (bounds env len cap lo hi mx) h
  | .nilslice => someR .nilslice (bounds env 0 0 lo hi mx) h
  | _ => none
def subR (s : List Nat) (x : Option (Nat × Nat × Nat)) (h : AHeap) : Option ARes := match x with
  | some (l, hh, _) => some (.val (.str ((s.drop l).take (hh - l))) h)
  | none => none
def sliceStrR (env : Env) (v : AV) (lo hi : Option Opd) (h : AHeap) : Option ARes := match v with
  | .str s => subR s (bounds env s.length s.length lo hi none) h
  | _ => none
def sliceArrR (env : Env) (n es : Nat) (v : AV) (lo hi mx : Option Opd) (h : AHeap) : Option ARes := match v with
  | .ptr b o => sbR b o es none true (bounds env n n lo hi mx) h
  | _ => none
def exR (i : Nat) (v : AV) (h : AHeap) : Option ARes := match v with
  | .tuple vs => valR vs[i]? h
  | _ => none
def callvR (v : AV) (args : List AV) : Option ARes := match v with
  | .func g cap => some (.enter g (args ++ cap))
  | _ => none
def lenR (v : AV) (h : AHeap) : Option ARes := match v with
  | .slice _ _ n _ _ => some (.val (.int .i64 (.ofNat n)) h)
  | .nilslice => some (.val (.int .i64 (.ofNat 0)) h)
  | _ => none
def lenStrR (v : AV) (h : AHeap) : Option ARes := match v with
  | .str s => some (.val (.int .i64 (.ofNat s.length)) h)
  | _ => none
def mmR (f : Int → Int → Int) (vs : List AV) (h : AHeap) : Option ARes := match vs with
  | v :: r => valR (foldMM f v r) h
  | [] => none
def copyR (h : AHeap) (es : Nat) (d : AV) (x : Option (Nat × List AV)) : Option ARes := match d, x with
  | .slice b o len _ _, some (n, cs) => hpR (.int .i64 (.ofNat (Nat.min n len))) (storeN h b o (cs.take (Nat.min n len * es)))
  | .nilslice, some _ => some (.val (.int .i64 (.ofNat 0)) h)
  | _, _ => none
def clearR (h : AHeap) (z : List AV) (v : AV) : Option ARes := match v with
  | .slice b o len _ _ => hpR (.tuple []) (storeN h b o (timesL len z))
  | .nilslice => some (.val (.tuple []) h)
  | _ => none

/- the operations, one by one -/
section
variable (B : Base) (env : Env) (h : AHeap)
theorem ev_mv (x) : evalOp B env h (.mv x) = some (.val (x.ev env) h) := rfl
theorem ev_pick (c a b) : evalOp B env h (.pick c a b) = pickR (c.ev env) (a.ev env) (b.ev env) h := rfl
theorem ev_alloc (z : RL) : evalOp B env h (.alloc z) = some (.val (.ptr (.own h.length) 0) (h ++ [.cells z.out])) := rfl
theorem ev_box (x) : evalOp B env h (.box x) = boxR (x.ev env).cellsOk h := rfl
theorem ev_build (z : RL) (p) : evalOp B env h (.build z p) = bldR (fillL env z.out p) h := rfl
theorem ev_buildSlice (es len) (z : RL) (p) : evalOp B env h (.buildSlice es len z p) = bslR len (fillL env (timesL len z.out) p) h := rfl
theorem ev_load (agg n x) : evalOp B env h (.load agg n x) = loadR B h agg n (x.ev env) := rfl
theorem ev_store (n x v) : evalOp B env h (.store n x v) = storeR h n (x.ev env) (v.ev env) := by
  simp only [evalOp, storeR]
  cases Opd.ev env x <;> (try simp only)
  unfold stR
  cases (Opd.ev env v).cellsOk <;> (try simp only)
  rename_i b o l
  cases Nat.beq l.length n <;> (try simp only)
  unfold hpR
  cases storeN h b o l <;> rfl
theorem ev_nilCheck (x) : evalOp B env h (.nilCheck x) = nilR (x.ev env) h := rfl
theorem ev_arith (op x y) : evalOp B env h (.arith op x y) = valR (arithOp op (x.ev env) (y.ev env)) h := rfl
theorem ev_eqs (neg m x y) : evalOp B env h (.eqs neg m x y) = eqR neg (eqOp m (x.ev env) (y.ev env)) h := rfl
theorem ev_un (op x) : evalOp B env h (.un op x) = valR (unOpA op (x.ev env)) h := rfl
theorem ev_toInt (k x) : evalOp B env h (.toInt k x) = toIntR k (x.ev env) h := rfl
theorem ev_strId (x) : evalOp B env h (.strId x) = strIdR (x.ev env) h := rfl
theorem ev_strToBytes (x) : evalOp B env h (.strToBytes x) = s2bR (x.ev env) h := rfl
theorem ev_markStr (x) : evalOp B env h (.markStr x) = mkStrR (x.ev env) h := rfl
theorem ev_bytesToStr (x) : evalOp B env h (.bytesToStr x) = match isStrV (x.ev env) with | true => none | false => b2sR (srcCells B h 1 (x.ev env)) h := by
  simp only [evalOp]
  cases isStrV (x.ev env) <;> (try simp only)
  unfold b2sR
  cases srcCells B h 1 (x.ev env) <;> rfl
theorem ev_fieldAddr (off x) : evalOp B env h (.fieldAddr off x) = fldAR off (x.ev env) h := rfl
theorem ev_field (agg off n x) : evalOp B env h (.field agg off n x) = fldR agg off n (x.ev env) h := rfl
theorem ev_indexAddrA (len es x i) : evalOp B env h (.indexAddrA len es x i) = idxAR len es (x.ev env) (i.ev env) h := rfl
theorem ev_indexAddrS (es x i) : evalOp B env h (.indexAddrS es x i) = idxSR es (x.ev env) (i.ev env) h := rfl
theorem ev_indexA (len es agg x i) : evalOp B env h (.indexA len es agg x i) = idxVR len es agg (x.ev env) (i.ev env) h := rfl
theorem ev_indexStr (x i) : evalOp B env h (.indexStr x i) = idxStrR (x.ev env) (i.ev env) h := by
  simp only [evalOp, idxStrR, chR]
  cases Opd.ev env x <;> (try simp only)
  cases Opd.ev env i <;> (try simp only)
  rename_i s k n
  cases n with
  | ofNat j => cases (s[j]? : Option Nat) <;> rfl
  | negSucc j => rfl
theorem ev_makeSlice (es bytes) (z : RL) (l c) : evalOp B env h (.makeSlice es bytes z l c) = mkSlR bytes z.out (l.ev env) (c.ev env) h := rfl
theorem ev_slice (es x lo hi mx) : evalOp B env h (.slice es x lo hi mx) = sliceR env es (x.ev env) lo hi mx h := by
  simp only [evalOp, sliceR, someR]
  cases Opd.ev env x <;> (try simp only)
  · rename_i b o l c e
    unfold sbR noMx
    cases esOk e es <;> (try simp only)
    cases mx <;> rfl
  · cases bounds env 0 0 lo hi mx <;> rfl
theorem ev_sliceStr (x lo hi) : evalOp B env h (.sliceStr x lo hi) = sliceStrR env (x.ev env) lo hi h := by
  simp only [evalOp, sliceStrR, subR]
  cases Opd.ev env x <;> (try simp only)
  cases bounds env _ _ lo hi none <;> rfl
theorem ev_sliceArr (chk n es x lo hi mx) : evalOp B env h (.sliceArr chk n es x lo hi mx) = sliceArrR env n es (x.ev env) lo hi mx h := by
  simp only [evalOp, sliceArrR, sbR]
  cases Opd.ev env x <;> (try simp only)
  cases bounds env n n lo hi mx <;> rfl
theorem ev_extract (x i) : evalOp B env h (.extract x i) = exR i (x.ev env) h := rfl
theorem ev_makeFunc (f cap) : evalOp B env h (.makeFunc f cap) = some (.val (.func f (evs env cap)) h) := rfl
theorem ev_call (f args) : evalOp B env h (.call f args) = some (.enter f (evs env args)) := rfl
theorem ev_callv (f args) : evalOp B env h (.callv f args) = callvR (f.ev env) (evs env args) := rfl
theorem ev_append (es bytes s x) : evalOp B env h (.append es bytes s x) = vhR (appendOp B h es bytes (s.ev env) (x.ev env)) := by
  simp only [evalOp, vhR]
  cases appendOp B h es bytes (s.ev env) (x.ev env) <;> rfl
theorem ev_len (x) : evalOp B env h (.len x) = lenR (x.ev env) h := rfl
theorem ev_lenStr (x) : evalOp B env h (.lenStr x) = lenStrR (x.ev env) h := rfl
theorem ev_max (xs) : evalOp B env h (.max xs) = mmR imax (evs env xs) h := rfl
theorem ev_min (xs) : evalOp B env h (.min xs) = mmR imin (evs env xs) h := rfl
theorem ev_copy (es d s) : evalOp B env h (.copy es d s) = copyR h es (d.ev env) (srcCells B h es (s.ev env)) := by
  simp only [evalOp, copyR]
  cases Opd.ev env d with
  | slice b o l c e => cases srcCells B h es (s.ev env) with
    | none => rfl
    | some p =>
      obtain ⟨n, cs⟩ := p
      simp only [hpR]
      cases storeN h b o _ <;> rfl
  | nilslice => cases srcCells B h es (s.ev env) <;> rfl
  | _ => rfl
theorem ev_clear (es) (z : RL) (x) : evalOp B env h (.clear es z x) = clearR h z.out (x.ev env) := by
  simp only [evalOp, clearR, hpR]
  cases Opd.ev env x <;> (try simp only)
  cases storeN h _ _ _ <;> rfl
end

theorem EV : type_of% ev_mv ∧ type_of% ev_pick ∧ type_of% ev_alloc ∧ type_of% ev_box ∧ type_of% ev_build ∧ type_of% ev_buildSlice ∧ type_of% ev_load ∧ type_of% ev_store ∧ type_of% ev_nilCheck ∧ type_of% ev_arith ∧ type_of% ev_eqs ∧ type_of% ev_un ∧ type_of% ev_toInt ∧ type_of% ev_strId ∧ type_of% ev_strToBytes ∧ type_of% ev_markStr ∧ type_of% ev_bytesToStr ∧ type_of% ev_fieldAddr ∧ type_of% ev_field ∧ type_of% ev_indexAddrA ∧ type_of% ev_indexAddrS ∧ type_of% ev_indexA ∧ type_of% ev_indexStr ∧ type_of% ev_makeSlice ∧ type_of% ev_slice ∧ type_of% ev_sliceStr ∧ type_of% ev_sliceArr ∧ type_of% ev_extract ∧ type_of% ev_makeFunc ∧ type_of% ev_call ∧ type_of% ev_callv ∧ type_of% ev_append ∧ type_of% ev_len ∧ type_of% ev_lenStr ∧ type_of% ev_max ∧ type_of% ev_min ∧ type_of% ev_copy ∧ type_of% ev_clear :=
  ⟨ev_mv, ev_pick, ev_alloc, ev_box, ev_build, ev_buildSlice, ev_load, ev_store, ev_nilCheck, ev_arith, ev_eqs, ev_un, ev_toInt, ev_strId, ev_strToBytes, ev_markStr, ev_bytesToStr, ev_fieldAddr, ev_field, ev_indexAddrA, ev_indexAddrS, ev_indexA, ev_indexStr, ev_makeSlice, ev_slice, ev_sliceStr, ev_sliceArr, ev_extract, ev_makeFunc, ev_call, ev_callv, ev_append, ev_len, ev_lenStr, ev_max, ev_min, ev_copy, ev_clear⟩

/- what the functions of values say where their arguments are known -/
section
variable (h : AHeap)
theorem r_val (v) : valR (some v) h = some (.val v h) := rfl
theorem r_vh (v) : vhR (some (v, h)) = some (.val v h) := rfl
theorem r_hp (v) : hpR v (some h) = some (.val v h) := rfl
theorem r_pickT (a b) : pickR (.bool true) a b h = some (.val a h) := rfl
theorem r_pickF (a b) : pickR (.bool false) a b h = some (.val b h) := rfl
theorem r_box (l) : boxR (some l) h = some (.val (.ptr (.own h.length) 0) (h ++ [.cells l])) := rfl
theorem r_bld (l) : bldR (some l) h = some (.val (.agg l) h) := rfl
theorem r_bsl (n l) : bslR n (some l) h = some (.val (.slice (.own h.length) 0 n n none) (h ++ [.cells l])) := rfl
theorem r_ldT (l) : ldR true (some l) h = some (.val (.agg l) h) := rfl
theorem r_ldF (v) : ldR false (some [v]) h = some (.val v h) := rfl
theorem r_load (B agg n b o) : loadR B h agg n (.ptr b o) = ldR agg (loadN B h b o n) h := rfl
theorem r_store (n b o v) : storeR h n (.ptr b o) v = stR h b o n v.cellsOk := rfl
theorem r_st (b o n l) : stR h b o n (some l) = cond (decide (l.length = n)) (hpR (.tuple []) (storeN h b o l)) none := by
  rw [← nbeq]; simp only [stR]; cases Nat.beq l.length n <;> rfl
theorem r_nil (b o) : nilR (.ptr b o) h = some (.val (.ptr b o) h) := rfl
theorem r_nilF (f c) : nilR (.func f c) h = some (.val (.func f c) h) := rfl
theorem r_eqF (b) : eqR false (some b) h = some (.val (.bool b) h) := rfl
theorem r_eqT (b) : eqR true (some b) h = some (.val (.bool !b) h) := rfl
theorem r_toInt (k j n) : toIntR k (.int j n) h = some (.val (.int k (awrap k n)) h) := rfl
theorem r_strId (s) : strIdR (.str s) h = some (.val (.str s) h) := rfl
theorem r_s2b (s) : s2bR (.str s) h = some (.val (.slice (.own h.length) 0 s.length s.length (some 1)) (h ++ [.cells (byteCells s)])) := rfl
theorem r_ofb (l) : ofbR (some l) h = some (.val (.str l) h) := rfl
theorem r_b2s (n cs) : b2sR (some (n, cs)) h = ofbR (ofByteCells cs) h := rfl
theorem r_fldA (off b o) : fldAR off (.ptr b o) h = some (.val (.ptr b (o + off)) h) := rfl
theorem r_fld (agg off n cs) : fldR agg off n (.agg cs) h = valR (partOf agg off n cs) h := rfl
theorem r_ptr (b o es j) : ptrR b o es (some j) h = some (.val (.ptr b (o + j * es)) h) := rfl
theorem r_idxA (len es b o k n) : idxAR len es (.ptr b o) (.int k n) h = ptrR b o es (inRange n len) h := rfl
theorem r_idxS (es b o len c e k n) : idxSR es (.slice b o len c e) (.int k n) h = ptrR b o es (inRange n len) h := rfl
theorem r_part (agg es cs j) : partR agg es cs (some j) h = valR (partOf agg (j * es) es cs) h := rfl
theorem r_idxV (len es agg cs k n) : idxVR len es agg (.agg cs) (.int k n) h = partR agg es cs (inRange n len) h := rfl
theorem r_ch (c) : chR (some c) h = some (.val (.int .u8 (.ofNat c)) h) := rfl
theorem r_idxStr (s k) (j : Nat) : idxStrR (.str s) (.int k (.ofNat j)) h = chR s[j]? h := rfl
theorem r_mkSl (bytes z j k) (l c : Nat) : mkSlR bytes z (.int j (.ofNat l)) (.int k (.ofNat c)) h = cond (Nat.ble l c && roomy (c * bytes) && roomy c) (some (.val (.slice (.own h.length) 0 l c none) (h ++ [.cells (timesL c z)]))) none := by
  simp only [mkSlR]; cases Nat.ble l c && roomy (c * bytes) && roomy c <;> rfl
theorem r_sb (b o es e l hh m) : sbR b o es e true (some (l, hh, m)) h = some (.val (.slice b (o + l * es) (hh - l) (m - l) e) h) := rfl
theorem r_some (v p) : someR v (some p) h = some (.val v h) := rfl
theorem r_noMx (e) : noMx none e = e := rfl
theorem r_noMxS (x e) : noMx (some x) e = none := rfl
theorem r_slice (env es b o len cap e lo hi mx) : sliceR env es (.slice b o len cap e) lo hi mx h = sbR b o es (noMx mx e) (esOk e es) (bounds env len cap lo hi mx) h := rfl
theorem r_sliceN (env es lo hi mx) : sliceR env es .nilslice lo hi mx h = someR .nilslice (bounds env 0 0 lo hi mx) h := rfl
theorem r_esN (n) : esOk none n = true := rfl
theorem r_esS (e n) : esOk (some e) n = decide (e = n) := by simp only [esOk, nbeq]
theorem r_sub (s l hh m) : subR s (some (l, hh, m)) h = some (.val (.str ((s.drop l).take (hh - l))) h) := rfl
theorem r_sliceStr (env s lo hi) : sliceStrR env (.str s) lo hi h = subR s (bounds env s.length s.length lo hi none) h := rfl
theorem r_sliceArr (env n es b o lo hi mx) : sliceArrR env n es (.ptr b o) lo hi mx h = sbR b o es none true (bounds env n n lo hi mx) h := rfl
theorem r_ex (i vs) : exR i (.tuple vs) h = valR vs[i]? h := rfl
theorem r_callv (g cap args) : callvR (.func g cap) args = some (.enter g (args ++ cap)) := rfl
theorem r_len (b o n c e) : lenR (.slice b o n c e) h = some (.val (.int .i64 (.ofNat n)) h) := rfl
theorem r_lenN : lenR .nilslice h = some (.val (.int .i64 (.ofNat 0)) h) := rfl
theorem r_lenStr (s) : lenStrR (.str s) h = some (.val (.int .i64 (.ofNat s.length)) h) := rfl
theorem r_mm (f v r) : mmR f (v :: r) h = valR (foldMM f v r) h := rfl
theorem r_copy (es b o len c e n cs) : copyR h es (.slice b o len c e) (some (n, cs)) = hpR (.int .i64 (.ofNat (Nat.min n len))) (storeN h b o (cs.take (Nat.min n len * es))) := rfl
theorem r_clear (z b o len c e) : clearR h z (.slice b o len c e) = hpR (.tuple []) (storeN h b o (timesL len z)) := rfl
theorem r_clearN (z) : clearR h z .nilslice = some (.val (.tuple []) h) := rfl
end

theorem ER : type_of% r_val ∧ type_of% r_vh ∧ type_of% r_hp ∧ type_of% r_pickT ∧ type_of% r_pickF ∧ type_of% r_box ∧ type_of% r_bld ∧ type_of% r_bsl ∧ type_of% r_ldT ∧ type_of% r_ldF ∧ type_of% r_load ∧ type_of% r_store ∧ type_of% r_st ∧ type_of% r_nil ∧ type_of% r_nilF ∧ type_of% r_eqF ∧ type_of% r_eqT ∧ type_of% r_toInt ∧ type_of% r_strId ∧ type_of% r_s2b ∧ type_of% r_ofb ∧ type_of% r_b2s ∧ type_of% r_fldA ∧ type_of% r_fld ∧ type_of% r_ptr ∧ type_of% r_idxA ∧ type_of% r_idxS ∧ type_of% r_part ∧ type_of% r_idxV ∧ type_of% r_ch ∧ type_of% r_idxStr ∧ type_of% r_mkSl ∧ type_of% r_sb ∧ type_of% r_some ∧ type_of% r_noMx ∧ type_of% r_noMxS ∧ type_of% r_slice ∧ type_of% r_sliceN ∧ type_of% r_esN ∧ type_of% r_esS ∧ type_of% r_sub ∧ type_of% r_sliceStr ∧ type_of% r_sliceArr ∧ type_of% r_ex ∧ type_of% r_callv ∧ type_of% r_len ∧ type_of% r_lenN ∧ type_of% r_lenStr ∧ type_of% r_mm ∧ type_of% r_copy ∧ type_of% r_clear ∧ type_of% r_clearN :=
  ⟨r_val, r_vh, r_hp, r_pickT, r_pickF, r_box, r_bld, r_bsl, r_ldT, r_ldF, r_load, r_store, r_st, r_nil, r_nilF, r_eqF, r_eqT, r_toInt, r_strId, r_s2b, r_ofb, r_b2s, r_fldA, r_fld, r_ptr, r_idxA, r_idxS, r_part, r_idxV, r_ch, r_idxStr, r_mkSl, r_sb, r_some, r_noMx, r_noMxS, r_slice, r_sliceN, r_esN, r_esS, r_sub, r_sliceStr, r_sliceArr, r_ex, r_callv, r_len, r_lenN, r_lenStr, r_mm, r_copy, r_clear, r_clearN⟩

theorem fill_nil (env : Env) (cs) : fillL env cs [] = some cs := rfl
def fillK (env : Env) (cs : List AV) (off n : Nat) (r : List (Nat × Nat × Opd)) (x : Option (List AV)) : Option (List AV) := match x with
  | some l => match Nat.beq l.length n with
    | true => match splice cs off l with
      | some cs => fillL env cs r
      | none => none
    | false => none
  | none => none
theorem fill_cons (env : Env) (cs off n x r) : fillL env cs ((off, n, x) :: r) = fillK env cs off n r (x.ev env).cellsOk := rfl
def fillJ (env : Env) (r : List (Nat × Nat × Opd)) (x : Option (List AV)) : Option (List AV) := match x with
  | some cs => fillL env cs r
  | none => none
theorem fillK_some (env : Env) (cs off n r l) : fillK env cs off n r (some l) = cond (decide (l.length = n)) (fillJ env r (splice cs off l)) none := by
  rw [← nbeq]; simp only [fillK]; cases Nat.beq l.length n <;> rfl
theorem fillJ_some (env : Env) (r cs) : fillJ env r (some cs) = fillL env cs r := rfl

mutual
theorem AV.same_refl : ∀ v : AV, AV.same v v = true
  | .bool b => by simp [AV.same]
  | .int k n => by simp [AV.same]
  | .str s => by simp [AV.same]
  | .ptr b o => by simp [AV.same]
  | .nilptr => rfl
  | .slice b o l c e => by simp [AV.same]
  | .nilslice => rfl
  | .map i => by simp [AV.same]
  | .nilmap => rfl
  | .func f c => by simp [AV.same, AV.sameAll_refl c]
  | .nilfunc => rfl
  | .iface t a => by simp [AV.same, AV.same_refl a]
  | .niliface => rfl
  | .agg a => by simp [AV.same, AV.sameAll_refl a]
  | .tuple a => by simp [AV.same, AV.sameAll_refl a]
theorem AV.sameAll_refl : ∀ l : List AV, AV.sameAll l l = true
  | [] => rfl
  | a :: r => by simp [AV.sameAll, AV.same_refl a, AV.sameAll_refl r]
end

def againR (x : Option ARes) (w : AV) (b : Bool) : Bool := match x with
  | some (.val v _) => AV.same w v && b
  | _ => false
theorem again_nil (B : Base) (env : Env) (h : AHeap) : againOk B env h [] = true := rfl
theorem again_cons (B : Base) (env : Env) (h : AHeap) (p op r) : againOk B env h ((none, p, op) :: r) = againR (evalOp B env h op) (env.get p) (againOk B env h r) := by
  simp only [againOk, wantedA, againR]
  cases evalOp B env h op with
  | none => rfl
  | some x => cases x <;> rfl
def againW (g : Bool) (a b : Bool) : Bool := cond g a b
theorem again_guard (B : Base) (env : Env) (h : AHeap) (g p op r) : againOk B env h ((some g, p, op) :: r) = againW (wantedA env (some g)) (againR (evalOp B env h op) (env.get p) (againOk B env h r)) (againOk B env h r) := by
  simp only [againOk, againR, againW]
  cases wantedA env (some g) with
  | false => rfl
  | true =>
    simp only [cond]
    cases evalOp B env h op with
    | none => rfl
    | some x => cases x <;> rfl
theorem againW_T (a b) : againW true a b = a := rfl
theorem againW_F (a b) : againW false a b = b := rfl
theorem againR_val (v h w b) : againR (some (.val v h)) w b = (AV.same w v && b) := rfl

theorem CK : (∀ b, (AV.bool b).cellsOk = some [.bool b]) ∧ (∀ k n, (AV.int k n).cellsOk = some [.int k n]) ∧ (∀ s, (AV.str s).cellsOk = some [.str s]) ∧ (∀ b o, (AV.ptr b o).cellsOk = some [.ptr b o]) ∧
    (AV.nilptr.cellsOk = some [.nilptr]) ∧ (∀ b o l c e, (AV.slice b o l c e).cellsOk = some [.slice b o l c e]) ∧ (AV.nilslice.cellsOk = some [.nilslice]) ∧ (∀ i, (AV.map i).cellsOk = some [.map i]) ∧ (AV.nilmap.cellsOk = some [.nilmap]) ∧
    (∀ f c, (AV.func f c).cellsOk = some [.func f c]) ∧ (AV.nilfunc.cellsOk = some [.nilfunc]) ∧ (∀ t v, (AV.iface t v).cellsOk = some [.iface t v]) ∧ (AV.niliface.cellsOk = some [.niliface]) ∧ (∀ cs, (AV.agg cs).cellsOk = some cs) :=
  ⟨fun _ => rfl, fun _ _ => rfl, fun _ => rfl, fun _ _ => rfl, rfl, fun _ _ _ _ _ => rfl, rfl, fun _ => rfl, rfl, fun _ _ => rfl, rfl, fun _ _ => rfl, rfl, fun _ => rfl⟩

end Go.Proofs.Ytohjmflbgohkhaa.E
