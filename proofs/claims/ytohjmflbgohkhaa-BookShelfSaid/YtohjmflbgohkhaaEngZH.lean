/- The abstract machine, looked at forwards: a calculus of what a run ends with. -/
import Derived.Test.YtohjmflbgohkhaaEngZG
namespace Go.Proofs.Ytohjmflbgohkhaa.E
set_option linter.all false
open Go

section
variable {P : Program} {W : World} {B : Base} {G : Nat → Option AFunc}

/- more levels say the same -/
def RecLe (r r' : Exec) : Prop := ∀ c e h out, r c e h = some out → r' c e h = some out

theorem callF_mono {r r' : Exec} (hr : RecLe r r') {f args h x} (hc : callF B G r f args h = some x) : callF B G r' f args h = some x := by
  unfold callF at *
  cases haf : G f with
  | none => rw [haf] at hc; cases hc
  | some af =>
    rw [haf] at hc
    simp only at hc ⊢
    cases hF : af.ext with
    | some F => rw [hF] at hc; exact hc
    | none =>
      rw [hF] at hc
      simp only at hc ⊢
      cases hl : Nat.ble args.length 1000 with
      | false => rw [hl] at hc; cases hc
      | true =>
        rw [hl] at hc
        simp only at hc ⊢
        cases hq : r af.body (envArgs 0 args .e) h with
        | none => rw [hq] at hc; cases hc
        | some out => rw [hq] at hc; rw [hr _ _ _ _ hq]; exact hc

theorem opStep_mono {r r' : Exec} (hr : RecLe r r') {o env h x} (hc : opStep B G r o env h = some x) : opStep B G r' o env h = some x := by
  unfold opStep at *
  cases hw : wantedA env o.guard with
  | false => rw [hw] at hc; exact hc
  | true =>
    rw [hw] at hc
    simp only at hc ⊢
    cases he : evalOp B env h o.op with
    | none => rw [he] at hc; cases hc
    | some y =>
      rw [he] at hc
      cases y with
      | val v h1 => exact hc
      | enter f args =>
        simp only at hc ⊢
        cases hcall : callF B G r f args h with
        | none => rw [hcall] at hc; cases hc
        | some z => rw [hcall] at hc; rw [callF_mono hr hcall]; exact hc

theorem runOps_mono {r r' : Exec} (hr : RecLe r r') : ∀ (l : List AOper) {env h x}, runOps B G r l env h = some x → runOps B G r' l env h = some x
  | [], _, _, _, hc => hc
  | o :: l, env, h, x, hc => by
    simp only [runOps] at hc ⊢
    split at hc
    · rename_i env1 h1 hst
      rw [opStep_mono hr hst]; simp only
      split at hc
      · exact runOps_mono hr l hc
      · cases hc
    · cases hc

theorem step_mono {r r' : Exec} (hr : RecLe r r') : RecLe (step B G r) (step B G r') := by
  intro c e h out hc
  cases c with
  | skip => exact hc
  | exit i => exact hc
  | ret => exact hc
  | bad => exact hc
  | ops l =>
    simp only [step] at hc ⊢
    split at hc
    · rename_i hq; rw [runOps_mono hr l hq]; exact hc
    · cases hc
  | seq a b =>
    simp only [step] at hc ⊢
    cases hq : r a e h with
    | none => rw [hq] at hc; cases hc
    | some o =>
      rw [hq] at hc; rw [hr _ _ _ _ hq]
      obtain ⟨ex, env, hh⟩ := o
      cases ex with
      | normal => exact hr _ _ _ _ hc
      | exit i => exact hc
      | ret => exact hc
  | cond c x y =>
    simp only [step] at hc ⊢
    split at hc
    · exact hr _ _ _ _ hc
    · exact hr _ _ _ _ hc
    · cases hc
  | block i b =>
    simp only [step] at hc ⊢
    cases hq : r b e h with
    | none => rw [hq] at hc; cases hc
    | some o => rw [hq] at hc; rw [hr _ _ _ _ hq]; exact hc
  | loop b =>
    simp only [step] at hc ⊢
    cases hq : r b e h with
    | none => rw [hq] at hc; cases hc
    | some o =>
      rw [hq] at hc; rw [hr _ _ _ _ hq]
      obtain ⟨ex, env, hh⟩ := o
      cases ex with
      | normal => exact hr _ _ _ _ hc
      | exit i => exact hc
      | ret => exact hc

theorem exec_mono1 : ∀ n, RecLe (exec B G n) (exec B G (n + 1))
  | 0 => fun c e h out hc => by simp [exec] at hc
  | n + 1 => by rw [exec_succ, exec_succ]; exact step_mono (exec_mono1 n)

theorem exec_mono {n m : Nat} (h : n ≤ m) : RecLe (exec B G n) (exec B G m) := by
  induction m with
  | zero => rw [show n = 0 by omega]; exact fun _ _ _ _ h => h
  | succ m ih =>
    by_cases he : n = m + 1
    · rw [he]; exact fun _ _ _ _ h => h
    · exact fun c e h out hc => exec_mono1 m _ _ _ _ (ih (by omega) _ _ _ _ hc)

/- the calculus -/
def WC (B : Base) (G : Nat → Option AFunc) (f : Nat) (args : List AV) (h : AHeap) (K : AV → AHeap → Prop) : Prop := ∃ n v h', callN B G n f args h = some (v, h') ∧ K v h'

def WV (B : Base) (G : Nat → Option AFunc) (op : AOp) (env : Env) (h : AHeap) (K : AV → AHeap → Prop) : Prop :=
  match evalOp B env h op with
  | some (.val v h') => K v h'
  | some (.enter f args) => WC B G f args h K
  | none => False

def WO (B : Base) (G : Nat → Option AFunc) : List AOper → Env → AHeap → (Env → AHeap → Prop) → Prop
  | [], env, h, K => K env h
  | o :: r, env, h, K => match wantedA env o.guard with
    | false => againOk B (putE env o.dst (.tuple [])) h o.again = true ∧ WO B G r (putE env o.dst (.tuple [])) h K
    | true => WV B G o.op env h fun v h' => againOk B (putE env o.dst v) h' o.again = true ∧ WO B G r (putE env o.dst v) h' K

def loopN (b : Env → AHeap → (AExit → Env → AHeap → Prop) → Prop) : Nat → Env → AHeap → (AExit → Env → AHeap → Prop) → Prop
  | 0, _, _, _ => False
  | n + 1, env, h, Q => b env h fun e env h => match e with
    | .normal => loopN b n env h Q
    | .exit i => Q (.exit i) env h
    | .ret => Q .ret env h

def WA (B : Base) (G : Nat → Option AFunc) : ACode → Env → AHeap → (AExit → Env → AHeap → Prop) → Prop
  | .skip, env, h, Q => Q .normal env h
  | .ops l, env, h, Q => WO B G l env h (Q .normal)
  | .seq a b, env, h, Q => WA B G a env h fun e env h => match e with
    | .normal => WA B G b env h Q
    | .exit i => Q (.exit i) env h
    | .ret => Q .ret env h
  | .cond c x y, env, h, Q => match c.ev env with
    | .bool b => (b = true → WA B G x env h Q) ∧ (b = false → WA B G y env h Q)
    | _ => False
  | .block id b, env, h, Q => WA B G b env h fun e env h => match e with
    | .normal => Q .normal env h
    | .exit i => cond (Nat.beq i id) (Q .normal env h) (Q (.exit i) env h)
    | .ret => Q .ret env h
  | .loop b, env, h, Q => ∃ n, loopN (WA B G b) n env h Q
  | .exit id, env, h, Q => Q (.exit id) env h
  | .ret, env, h, Q => Q .ret env h
  | .bad, _, _, _ => False

/- what it says: one end -/
def Ends (B : Base) (G : Nat → Option AFunc) (c : ACode) (env : Env) (h : AHeap) (out : AOut) : Prop := ∃ n, exec B G n c env h = some out

theorem Ends.up {c env h out} {n : Nat} (hc : exec B G n c env h = some out) {m} (hm : n ≤ m) : exec B G m c env h = some out := exec_mono hm _ _ _ _ hc

theorem WO_sound : ∀ (l : List AOper) (env : Env) (h : AHeap) (K : Env → AHeap → Prop), WO B G l env h K → ∃ n env' h', runOps B G (exec B G n) l env h = some (env', h') ∧ K env' h'
  | [], env, h, K, hw => ⟨0, env, h, rfl, hw⟩
  | o :: r, env, h, K, hw => by
    simp only [WO] at hw
    split at hw
    · rename_i hg
      obtain ⟨n, env', h', h1, h2⟩ := WO_sound r _ _ K hw.2
      refine ⟨n, env', h', ?_, h2⟩
      simp only [runOps, opStep, hg, hw.1]; exact h1
    · rename_i hg
      unfold WV at hw
      split at hw
      · rename_i v h1 he
        obtain ⟨n, env', h', h2, h3⟩ := WO_sound r _ _ K hw.2
        refine ⟨n, env', h', ?_, h3⟩
        simp only [runOps, opStep, hg, he, hw.1]; exact h2
      · rename_i f args he
        obtain ⟨n1, v, h1, hc, ha, hw⟩ := hw
        obtain ⟨n2, env', h', h2, h3⟩ := WO_sound r _ _ K hw
        refine ⟨max n1 n2, env', h', ?_, h3⟩
        have := callF_mono (exec_mono (Nat.le_max_left n1 n2)) hc
        simp only [runOps, opStep, hg, he, this, ha]
        exact runOps_mono (exec_mono (Nat.le_max_right n1 n2)) r h2
      · exact hw.elim

theorem WA_sound : ∀ (c : ACode) (env : Env) (h : AHeap) (Q : AExit → Env → AHeap → Prop), WA B G c env h Q → ∃ out, Ends B G c env h out ∧ Q out.e out.env out.h
  | .skip, env, h, Q, hw => ⟨⟨.normal, env, h⟩, ⟨1, rfl⟩, hw⟩
  | .exit id, env, h, Q, hw => ⟨⟨.exit id, env, h⟩, ⟨1, rfl⟩, hw⟩
  | .ret, env, h, Q, hw => ⟨⟨.ret, env, h⟩, ⟨1, rfl⟩, hw⟩
  | .bad, env, h, Q, hw => hw.elim
  | .ops l, env, h, Q, hw => by
    obtain ⟨n, env', h', h1, h2⟩ := WO_sound l env h _ hw
    exact ⟨⟨.normal, env', h'⟩, ⟨n + 1, by rw [exec_succ]; simp only [step, h1]⟩, h2⟩
  | .seq a b, env, h, Q, hw => by
    obtain ⟨⟨e, env1, h1⟩, ⟨n, hn⟩, hq⟩ := WA_sound a env h _ hw
    cases e with
    | normal =>
      obtain ⟨out, ⟨m, hm⟩, hq2⟩ := WA_sound b env1 h1 Q hq
      refine ⟨out, ⟨max n m + 1, ?_⟩, hq2⟩
      rw [exec_succ]; simp only [step, Ends.up hn (Nat.le_max_left n m)]
      exact Ends.up hm (Nat.le_max_right n m)
    | exit i => exact ⟨⟨.exit i, env1, h1⟩, ⟨n + 1, by rw [exec_succ]; simp only [step, hn]⟩, hq⟩
    | ret => exact ⟨⟨.ret, env1, h1⟩, ⟨n + 1, by rw [exec_succ]; simp only [step, hn]⟩, hq⟩
  | .cond c x y, env, h, Q, hw => by
    simp only [WA] at hw
    split at hw
    · rename_i b hb
      cases b with
      | true =>
        obtain ⟨out, ⟨m, hm⟩, hq2⟩ := WA_sound x env h Q (hw.1 rfl)
        exact ⟨out, ⟨m + 1, by rw [exec_succ]; simp only [step, hb]; exact hm⟩, hq2⟩
      | false =>
        obtain ⟨out, ⟨m, hm⟩, hq2⟩ := WA_sound y env h Q (hw.2 rfl)
        exact ⟨out, ⟨m + 1, by rw [exec_succ]; simp only [step, hb]; exact hm⟩, hq2⟩
    · exact hw.elim
  | .block id b, env, h, Q, hw => by
    obtain ⟨⟨e, env1, h1⟩, ⟨n, hn⟩, hq⟩ := WA_sound b env h _ hw
    cases e with
    | normal => exact ⟨⟨.normal, env1, h1⟩, ⟨n + 1, by rw [exec_succ]; simp only [step, hn]⟩, hq⟩
    | ret => exact ⟨⟨.ret, env1, h1⟩, ⟨n + 1, by rw [exec_succ]; simp only [step, hn]⟩, hq⟩
    | exit i =>
      simp only at hq
      cases hi : Nat.beq i id with
      | true => rw [hi] at hq; exact ⟨⟨.normal, env1, h1⟩, ⟨n + 1, by rw [exec_succ]; simp only [step, hn, hi, cond]⟩, hq⟩
      | false => rw [hi] at hq; exact ⟨⟨.exit i, env1, h1⟩, ⟨n + 1, by rw [exec_succ]; simp only [step, hn, hi, cond]⟩, hq⟩
  | .loop b, env, h, Q, hw => by
    obtain ⟨n, hn⟩ := hw
    have key : ∀ n env h, loopN (WA B G b) n env h Q → ∃ out, Ends B G (.loop b) env h out ∧ Q out.e out.env out.h := by
      intro n
      induction n with
      | zero => intro env h hw; exact hw.elim
      | succ n ih =>
        intro env h hw
        obtain ⟨⟨e, env1, h1⟩, ⟨m, hm⟩, hq⟩ := WA_sound b env h _ hw
        cases e with
        | normal =>
          obtain ⟨out, ⟨k, hk⟩, hq2⟩ := ih env1 h1 hq
          refine ⟨out, ⟨max m k + 1, ?_⟩, hq2⟩
          rw [exec_succ]; simp only [step, Ends.up hm (Nat.le_max_left m k)]
          exact Ends.up hk (Nat.le_max_right m k)
        | exit i => exact ⟨⟨.exit i, env1, h1⟩, ⟨m + 1, by rw [exec_succ]; simp only [step, hm]⟩, hq⟩
        | ret => exact ⟨⟨.ret, env1, h1⟩, ⟨m + 1, by rw [exec_succ]; simp only [step, hm]⟩, hq⟩
    exact key n env h hn

/- the other way round: what a run ends with may be asked of it -/
theorem WO_of : ∀ (l : List AOper) {n : Nat} {env : Env} {h : AHeap} {env' h'} {K : Env → AHeap → Prop}, runOps B G (exec B G n) l env h = some (env', h') → K env' h' → WO B G l env h K
  | [], n, env, h, env', h', K, hr, hk => by cases hr; exact hk
  | o :: r, n, env, h, env', h', K, hr, hk => by
    simp only [runOps] at hr
    split at hr
    · rename_i env1 h1 hst
      split at hr
      · rename_i ha
        have ih := WO_of r hr hk
        unfold opStep at hst
        simp only [WO]
        split at hst
        · rename_i hg; cases hst; rw [hg]; exact ⟨ha, ih⟩
        · rename_i hg
          rw [hg]; simp only [WV]
          split at hst
          · rename_i v h2 he; cases hst; rw [he]; exact ⟨ha, ih⟩
          · rename_i f args he
            rw [he]
            split at hst
            · rename_i v h2 hc; cases hst; exact ⟨n, v, _, hc, ha, ih⟩
            · cases hst
          · cases hst
      · cases hr
    · cases hr

theorem WA_of : ∀ (n : Nat) (c : ACode) {env : Env} {h : AHeap} {out : AOut} {Q : AExit → Env → AHeap → Prop}, exec B G n c env h = some out → Q out.e out.env out.h → WA B G c env h Q
  | 0, c, env, h, out, Q, hr, hq => by simp [exec] at hr
  | n + 1, c, env, h, out, Q, hr, hq => by
    rw [exec_succ] at hr
    cases c with
    | skip => cases hr; exact hq
    | exit i => cases hr; exact hq
    | ret => cases hr; exact hq
    | bad => cases hr
    | ops l =>
      simp only [step] at hr
      split at hr
      · rename_i hro; cases hr; exact WO_of l hro hq
      · cases hr
    | seq a b =>
      simp only [step] at hr
      split at hr
      · rename_i env1 h1 ha
        exact WA_of n a ha (WA_of n b hr hq)
      · rename_i hne
        refine WA_of n a hr ?_
        obtain ⟨e, env1, h1⟩ := out
        cases e with
        | normal => exact absurd hr (hne env1 h1)
        | exit i => exact hq
        | ret => exact hq
    | cond c x y =>
      simp only [step] at hr
      simp only [WA]
      split at hr
      · rename_i hb; rw [hb]; exact ⟨fun _ => WA_of n x hr hq, (fun h => by cases h)⟩
      · rename_i hb; rw [hb]; exact ⟨fun h => (by cases h), fun _ => WA_of n y hr hq⟩
      · cases hr
    | block id b =>
      simp only [step] at hr
      split at hr
      · rename_i i env1 h1 hb
        refine WA_of n b hb ?_
        simp only
        cases hi : Nat.beq i id with
        | true => rw [hi] at hr; cases hr; exact hq
        | false => rw [hi] at hr; cases hr; exact hq
      · rename_i hne
        refine WA_of n b hr ?_
        obtain ⟨e, env1, h1⟩ := out
        cases e with
        | normal => exact hq
        | exit i => exact absurd hr (hne i env1 h1)
        | ret => exact hq
    | loop b =>
      simp only [step] at hr
      split at hr
      · rename_i env1 h1 hb
        obtain ⟨k, hk⟩ := WA_of n (.loop b) hr hq
        exact ⟨k + 1, WA_of n b hb hk⟩
      · rename_i hne
        refine ⟨1, WA_of n b hr ?_⟩
        obtain ⟨e, env1, h1⟩ := out
        cases e with
        | normal => exact absurd hr (hne env1 h1)
        | exit i => exact hq
        | ret => exact hq

theorem WA_mono {c : ACode} {env : Env} {h : AHeap} {Q Q' : AExit → Env → AHeap → Prop} (hw : WA B G c env h Q) (hq : ∀ e env h, Q e env h → Q' e env h) : WA B G c env h Q' := by
  obtain ⟨out, ⟨n, hn⟩, ho⟩ := WA_sound c env h Q hw
  exact WA_of n c hn (hq _ _ _ ho)

theorem WC_mono {f args h} {K K' : AV → AHeap → Prop} (hw : WC B G f args h K) (hk : ∀ v h, K v h → K' v h) : WC B G f args h K' := by
  obtain ⟨n, v, h', h1, h2⟩ := hw
  exact ⟨n, v, h', h1, hk _ _ h2⟩

/- a loop, by what holds at its head -/
theorem WA_loop {b : ACode} {Q : AExit → Env → AHeap → Prop} (I : Nat → Env → AHeap → Prop)
    (hs : ∀ k env h, I k env h → WA B G b env h fun e env h => match e with | .normal => ∃ k', k' < k ∧ I k' env h | .exit i => Q (.exit i) env h | .ret => Q .ret env h) :
    ∀ (k : Nat) (env : Env) (h : AHeap), I k env h → WA B G (.loop b) env h Q := by
  intro k
  induction k using Nat.strongRecOn with
  | ind k ih =>
    intro env h hi
    obtain ⟨⟨e, env1, h1⟩, ⟨n, hn⟩, ho⟩ := WA_sound b env h _ (hs k env h hi)
    cases e with
    | normal =>
      obtain ⟨k', hk', hi'⟩ := ho
      obtain ⟨m, hm⟩ := ih k' hk' env1 h1 hi'
      exact ⟨m + 1, WA_of n b hn hm⟩
    | exit i => exact ⟨1, WA_of n b hn ho⟩
    | ret => exact ⟨1, WA_of n b hn ho⟩

/- a call -/
theorem WC_of {f : Nat} {af : AFunc} {args : List AV} {h : AHeap} {K : AV → AHeap → Prop} (hf : G f = some af) (hx : af.ext = none) (hl : Nat.ble args.length 1000 = true)
    (hw : WA B G af.body (envArgs 0 args .e) h fun e env h => match e with
      | .exit _ => False
      | _ => match getAll B env h af.res with
        | some l => K (packed l) h
        | none => False) : WC B G f args h K := by
  obtain ⟨⟨e, env1, h1⟩, ⟨n, hn⟩, ho⟩ := WA_sound _ _ _ _ hw
  cases e with
  | exit i => exact ho.elim
  | normal =>
    simp only at ho
    split at ho
    · rename_i l hl'
      refine ⟨n, packed l, h1, ?_, ho⟩
      unfold callN callF
      simp only [hf, hx, hl, hn, hl']
    · exact ho.elim
  | ret =>
    simp only at ho
    split at ho
    · rename_i l hl'
      refine ⟨n, packed l, h1, ?_, ho⟩
      unfold callN callF
      simp only [hf, hx, hl, hn, hl']
    · exact ho.elim

theorem WC_ext {f : Nat} {af : AFunc} {F} {args : List AV} {h h' : AHeap} {v} {K : AV → AHeap → Prop} (hf : G f = some af) (hx : af.ext = some F) (hr : F args h = some (v, h')) (hk : K v h') : WC B G f args h K :=
  ⟨0, v, h', by unfold callN callF; simp only [hf, hx]; exact hr, hk⟩

/- a function without arguments that says yes: known in every world -/
def constF (v : AV) : List AV → AHeap → Option (AV × AHeap)
  | [], h => some (v, h)
  | _ :: _, _ => none

theorem closed_ok (hm : P.follows .mixedOrders = true) (hG : GOk P G) {n f : Nat} {b : Bool} {h' : AHeap} (hn : NameOk P f) (hc : callN (fun _ _ => none) G n f [] [] = some (.bool b, h')) : ExtOk P f (constF (.bool b)) := by
  refine ⟨hn, ?_⟩
  intro W μ h w args v h1 us hF s hv
  cases args with
  | cons x r => cases hF
  | nil =>
    cases hF
    have s0 : Sim w (fun _ => none) [] w := ⟨fun _ _ => rfl, Nat.le_refl _, rfl, rfl, rfl, (fun i p h => by cases h), (fun i o h => by simp at h), (fun i j p q _ _ h => by cases h)⟩
    have hB : BaseOk w (fun _ _ => none) := fun b o v h => by cases h
    refine (callN_sound hm hB hG hc s0 (us := us) hv).mono ?_
    rintro e w' ⟨u, μ', rfl, hvr, st⟩
    refine ⟨u, μ, rfl, hvr, μ.le_refl, ⟨?_, ?_, ?_, ?_, ?_, ?_, ?_, s.sep⟩, Nat.le_refl _, st.size, ?_, fun _ _ h => .inl h, fun _ _ a => a⟩
    · intro b hb; rw [st.sim.base b (Nat.lt_of_lt_of_le hb s.size)]; exact s.base b hb
    · exact Nat.le_trans s.size st.size
    · rw [st.sim.os]; exact s.os
    · rw [st.sim.tape]; exact s.tape
    · rw [st.sim.output]; exact s.output
    · intro i p hi; have := s.place i p hi; exact ⟨this.1, this.2.1, Nat.lt_of_lt_of_le this.2.2 st.size⟩
    · intro i o ho; exact (s.obj i o ho).mono μ.le_refl fun p hp => st.sim.base _ (s.place i p hp).2.2
    · intro b hb _; exact st.sim.base b hb

end
end Go.Proofs.Ytohjmflbgohkhaa.E
