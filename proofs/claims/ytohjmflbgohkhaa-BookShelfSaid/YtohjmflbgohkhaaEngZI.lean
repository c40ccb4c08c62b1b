/- The calculus in first order: what is still to be done lies in a stack. -/
import Derived.Test.YtohjmflbgohkhaaEngZH
namespace Go.Proofs.Ytohjmflbgohkhaa.E
set_option linter.all false
open Go

inductive Fr where
  | seq (b : ACode)
  | blk (id : Nat)

abbrev Post := AExit → Env → AHeap → Prop

def Kst (B : Base) (G : Nat → Option AFunc) : List Fr → Post → Post
  | [], Q, e, env, h => Q e env h
  | .seq b :: st, Q, e, env, h => match e with
    | .normal => WA B G b env h (Kst B G st Q)
    | .exit i => Kst B G st Q (.exit i) env h
    | .ret => Kst B G st Q .ret env h
  | .blk id :: st, Q, e, env, h => match e with
    | .normal => Kst B G st Q .normal env h
    | .exit i => cond (Nat.beq i id) (Kst B G st Q .normal env h) (Kst B G st Q (.exit i) env h)
    | .ret => Kst B G st Q .ret env h

def WS (B : Base) (G : Nat → Option AFunc) (c : ACode) (st : List Fr) (env : Env) (h : AHeap) (Q : Post) : Prop := WA B G c env h (Kst B G st Q)
def WP (B : Base) (G : Nat → Option AFunc) (l : List AOper) (st : List Fr) (env : Env) (h : AHeap) (Q : Post) : Prop := WO B G l env h (Kst B G st Q .normal)
def RS (B : Base) (G : Nat → Option AFunc) (e : AExit) (st : List Fr) (env : Env) (h : AHeap) (Q : Post) : Prop := Kst B G st Q e env h
def WB (B : Base) (G : Nat → Option AFunc) (v : AV) (x y : ACode) (st : List Fr) (env : Env) (h : AHeap) (Q : Post) : Prop := match v with
  | .bool b => (b = true → WS B G x st env h Q) ∧ (b = false → WS B G y st env h Q)
  | _ => False
def KC (B : Base) (G : Nat → Option AFunc) (d : Option (List Bool)) (ag : List (Option (List Bool × Bool) × List Bool × AOp)) (r : List AOper) (st : List Fr) (env : Env) (Q : Post) (v : AV) (h : AHeap) : Prop :=
  againOk B (putE env d v) h ag = true ∧ WP B G r st (putE env d v) h Q
def WX (B : Base) (G : Nat → Option AFunc) (x : Option ARes) (d : Option (List Bool)) (ag : List (Option (List Bool × Bool) × List Bool × AOp)) (r : List AOper) (st : List Fr) (env : Env) (h : AHeap) (Q : Post) : Prop := match x with
  | some (.val v h') => KC B G d ag r st env Q v h'
  | some (.enter f args) => WC B G f args h (KC B G d ag r st env Q)
  | none => False
def WG (B : Base) (G : Nat → Option AFunc) (g : Bool) (o : AOper) (r : List AOper) (st : List Fr) (env : Env) (h : AHeap) (Q : Post) : Prop := match g with
  | false => KC B G o.dst o.again r st env Q (.tuple []) h
  | true => WX B G (evalOp B env h o.op) o.dst o.again r st env h Q

section
variable {B : Base} {G : Nat → Option AFunc} {st : List Fr} {env : Env} {h : AHeap} {Q : Post}

theorem WS_skip : WS B G .skip st env h Q = RS B G .normal st env h Q := rfl
theorem WS_ops (l) : WS B G (.ops l) st env h Q = WP B G l st env h Q := rfl
theorem WS_seq (a b) : WS B G (.seq a b) st env h Q = WS B G a (.seq b :: st) env h Q := rfl
theorem WS_block (i b) : WS B G (.block i b) st env h Q = WS B G b (.blk i :: st) env h Q := rfl
theorem WS_cond (c x y) : WS B G (.cond c x y) st env h Q = WB B G (c.ev env) x y st env h Q := rfl
theorem WS_exit (i) : WS B G (.exit i) st env h Q = RS B G (.exit i) st env h Q := rfl
theorem WS_ret : WS B G .ret st env h Q = RS B G .ret st env h Q := rfl
theorem WB_true (x y) : WB B G (.bool true) x y st env h Q = WS B G x st env h Q := by simp [WB]
theorem WB_false (x y) : WB B G (.bool false) x y st env h Q = WS B G y st env h Q := by simp [WB]
theorem RS_nil (e) : RS B G e [] env h Q = Q e env h := rfl
theorem RS_seq (b) : RS B G .normal (.seq b :: st) env h Q = WS B G b st env h Q := rfl
theorem RS_seqE (i b) : RS B G (.exit i) (.seq b :: st) env h Q = RS B G (.exit i) st env h Q := rfl
theorem RS_seqR (b) : RS B G .ret (.seq b :: st) env h Q = RS B G .ret st env h Q := rfl
theorem RS_blk (i) : RS B G .normal (.blk i :: st) env h Q = RS B G .normal st env h Q := rfl
theorem RS_blkE (i j) : RS B G (.exit i) (.blk j :: st) env h Q = cond (Nat.beq i j) (RS B G .normal st env h Q) (RS B G (.exit i) st env h Q) := rfl
theorem RS_blkR (i) : RS B G .ret (.blk i :: st) env h Q = RS B G .ret st env h Q := rfl
theorem WP_nil : WP B G [] st env h Q = RS B G .normal st env h Q := rfl
theorem WP_cons (d op ag r) : WP B G (⟨d, none, op, ag⟩ :: r) st env h Q = WX B G (evalOp B env h op) d ag r st env h Q := rfl
theorem WP_guard (d g op ag r) : WP B G (⟨d, some g, op, ag⟩ :: r) st env h Q = WG B G (wantedA env (some g)) ⟨d, some g, op, ag⟩ r st env h Q := by
  unfold WP WG KC
  simp only [WO]
  cases wantedA env (some g) <;> rfl
theorem WG_true (d g op ag r) : WG B G true ⟨d, g, op, ag⟩ r st env h Q = WX B G (evalOp B env h op) d ag r st env h Q := rfl
theorem WG_false (d g op ag r) : WG B G false ⟨d, g, op, ag⟩ r st env h Q = KC B G d ag r st env Q (.tuple []) h := rfl
theorem WX_val (v h' d ag r) : WX B G (some (.val v h')) d ag r st env h Q = KC B G d ag r st env Q v h' := rfl
theorem WX_enter (f args d ag r) : WX B G (some (.enter f args)) d ag r st env h Q = WC B G f args h (KC B G d ag r st env Q) := rfl
theorem KC_nil (d r v) : KC B G d [] r st env Q v h = WP B G r st (putE env d v) h Q := by simp [KC, againOk]
theorem KC_cons (d a ag r v) : KC B G d (a :: ag) r st env Q v h = (againOk B (putE env d v) h (a :: ag) = true ∧ WP B G r st (putE env d v) h Q) := rfl

def QC (B : Base) (af : AFunc) (K : AV → AHeap → Prop) : Post := fun e env h => match e with
  | .exit _ => False
  | _ => match getAll B env h af.res with
    | some l => K (packed l) h
    | none => False
def getK (x : Option (List AV)) (h : AHeap) (K : AV → AHeap → Prop) : Prop := match x with
  | some l => K (packed l) h
  | none => False
theorem getK_some (l h K) : getK (some l) h K = K (packed l) h := rfl
theorem QC_normal (af K) : QC B af K .normal env h = getK (getAll B env h af.res) h K := rfl
theorem QC_ret (af K) : QC B af K .ret env h = getK (getAll B env h af.res) h K := rfl

theorem WC_fun {f : Nat} {af : AFunc} {args : List AV} {h : AHeap} {K : AV → AHeap → Prop} (hf : G f = some af) (hx : af.ext = none) (hl : Nat.ble args.length 1000 = true)
    (hw : WS B G af.body [] (envArgs 0 args .e) h (QC B af K)) : WC B G f args h K :=
  WC_of hf hx hl (by
    refine WA_mono hw fun e env h hq => ?_
    cases e <;> exact hq)

/- a loop -/
def QL (B : Base) (G : Nat → Option AFunc) (I : Nat → Env → AHeap → Prop) (k : Nat) (st : List Fr) (Q : Post) : Post := fun e env h => match e with
  | .normal => ∃ k', k' < k ∧ I k' env h
  | .exit i => RS B G (.exit i) st env h Q
  | .ret => RS B G .ret st env h Q
theorem QL_normal (I k) : QL B G I k st Q .normal env h = ∃ k', k' < k ∧ I k' env h := rfl
theorem QL_exit (I k i) : QL B G I k st Q (.exit i) env h = RS B G (.exit i) st env h Q := rfl
theorem QL_ret (I k) : QL B G I k st Q .ret env h = RS B G .ret st env h Q := rfl

theorem WS_loop {b : ACode} (I : Nat → Env → AHeap → Prop) {k : Nat} (hi : I k env h) (hs : ∀ k env h, I k env h → WS B G b [] env h (QL B G I k st Q)) : WS B G (.loop b) st env h Q := by
  refine WA_loop I ?_ k env h hi
  intro k env h hi
  refine WA_mono (hs k env h hi) fun e env h hq => ?_
  cases e <;> exact hq

theorem nbeq (i j : Nat) : Nat.beq i j = decide (i = j) := by
  cases h : Nat.beq i j
  · have : i ≠ j := by rintro rfl; simp at h
    simp [this]
  · have := Nat.eq_of_beq_eq_true h; simp [this]
theorem Env.get_set (e : Env) (p q : List Bool) (v : AV) : (e.set p v).get q = if p = q then v else e.get q := by
  by_cases h : p = q
  · subst h; rw [Env.get_set_same, if_pos rfl]
  · rw [Env.get_set_other _ _ _ _ h, if_neg h]

end
end Go.Proofs.Ytohjmflbgohkhaa.E
