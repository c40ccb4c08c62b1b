/- Regions in the order of the text, and all code. -/
import Derived.Test.YtohjmflbgohkhaaEngT
import Derived.LoopN
namespace Go.Proofs.Ytohjmflbgohkhaa.E
set_option linter.all false
open Go

section
variable {P : Program} {W : World} {μ : Mu} {h : AHeap} {w : World} {nt : Nat} {env : Env} {a : Act} {B : Base} {G : Nat → Option AFunc} {rec : Exec}

theorem VR.bool_of {x : AV} {b : Bool} (hx : VR μ x (.bool b)) : x = .bool b := by
  cases x
  case bool c => have hx : Value.bool b = .bool c := hx; cases hx; rfl
  case int => have hx : Value.bool b = .int _ _ := hx; cases hx
  case str => obtain ⟨_, hx, _⟩ := hx; cases hx
  case ptr => obtain ⟨_, _, hx⟩ := hx; cases hx
  case nilptr => have hx : Value.bool b = .pointer none := hx; cases hx
  case slice => obtain ⟨_, _, hx, _⟩ := hx.slice_inv; cases hx
  case nilslice => have hx : Value.bool b = .slice none 0 0 := hx; cases hx
  case map => obtain ⟨_, _, hx⟩ := hx; cases hx
  case nilmap => have hx : Value.bool b = .map none := hx; cases hx
  case func => obtain ⟨_, hx, _⟩ := hx; cases hx
  case nilfunc => have hx : Value.bool b = .nilFunc := hx; cases hx
  case iface => obtain ⟨_, hx, _⟩ := hx; cases hx
  case niliface => have hx : Value.bool b = .nilIface := hx; cases hx
  case agg => obtain ⟨_, hx, _⟩ := hx; cases hx
  case tuple => obtain ⟨_, hx, _⟩ := hx; cases hx

theorem wanted_ok (he : EnvR μ nt env a.tmps) {ops : Array Oper} {o : Oper} {g} (hg : guardOf nt ops.toList o.guard = some g) : Region.wanted o (yielded ops a.tmps) = wantedA env g := by
  unfold guardOf at hg
  unfold Region.wanted
  split at hg
  · rename_i hgu; cases hg; rw [hgu]; rfl
  · rename_i j want hgu
    rw [hgu]
    split at hg
    · rename_i d hd
      split at hg
      · rename_i hlt
        cases hg
        have hlt : d < nt := by simpa using hlt
        have hv := he.2 d hlt
        have hsz : d < a.tmps.size := Nat.lt_of_lt_of_le hlt he.1
        have hd' : (ops[j]?).bind (·.dst) = some d := by simpa using hd
        have hgd : a.tmps.getD d undef = a.tmps[d] := by simp [Array.getD, hsz]
        have hy : yielded ops a.tmps j = (match a.tmps[d] with | .bool b => some b | _ => none) := by
          unfold yielded
          rw [hd']
          simp only [Option.bind_some, Array.getElem?_eq_getElem hsz]
          cases a.tmps[d] <;> rfl
        rw [hgd] at hv
        simp only [wantedA]
        rw [hy]
        cases henv : env.get (pathOf 64 d) with
        | bool b =>
          rw [henv] at hv
          have hv : a.tmps[d] = .bool b := hv
          rw [hv]
          cases b <;> cases want <;> rfl
        | _ =>
          cases hu : a.tmps[d] with
          | bool b' => rw [hu] at hv; rw [hv.bool_of] at henv; cases henv
          | _ => rfl
      · cases hg
    · cases hg

theorem put_ok (he : EnvR μ nt env a.tmps) (hnt : nt < 100000) {dst : Option Tmp} {d} (hd : dstOf nt dst = some d) {v u} (hv : VR μ v u) : EnvR μ nt (putE env d v) (a.put dst u).tmps := by
  unfold dstOf at hd
  split at hd
  · cases hd; exact he
  · split at hd
    · rename_i t hlt
      cases hd
      exact he.put hnt (by simpa using hlt) hv
    · cases hd

theorem put_defers {dst : Option Tmp} {u : Value} : (a.put dst u).defers = a.defers := by cases dst <;> rfl

theorem cOper_inv {ops : List Oper} {o : Oper} {G rec env h r} (hr : opStep B G rec (cOper P nt ops o) env h = some r) :
    ∃ ao g d, cOp P nt o = some ao ∧ guardOf nt ops o.guard = some g ∧ dstOf nt o.dst = some d ∧ cOper P nt ops o = ⟨d, g, ao, []⟩ := by
  unfold cOper at hr ⊢
  split at hr
  · rename_i ao g d h1 h2 h3
    exact ⟨ao, g, d, h1, h2, h3, by simp [h1, h2, h3]⟩
  · simp [opStep, wantedA, evalOp] at hr

theorem opStep_sound (hB : BaseOk W B) (hG : GOk P G) (hrec : RecOk P W rec) (hnt : nt < 100000) (s : Sim W μ h w) (he : EnvR μ nt env a.tmps) {ops : Array Oper} {o : Oper} {ag env' h'}
    (hr : opStep B G rec { cOper P nt ops.toList o with again := ag } env h = some (env', h')) {K : Act → World → Prop} {Q : Exit → Act → World → Prop}
    (hK : ∀ μ' a' w', Stp W μ h w μ' h' w' → EnvR μ' nt env' a'.tmps → a'.defers = a.defers → (∃ u, a' = a.put o.dst u) → K a' w') :
    if Region.wanted o (yielded ops a.tmps) then o.wp P a w K Q ∨ (o.asks P a w ∧ LetsOut Q) else K (a.put o.dst undef) w := by
  have hr0 : opStep B G rec (cOper P nt ops.toList o) env h = some (env', h') := hr
  obtain ⟨ao, g, d, h1, h2, h3, h4⟩ := cOper_inv hr0
  rw [h4] at hr0
  rw [wanted_ok he h2]
  unfold opStep at hr0
  simp only at hr0
  split at hr0
  · rename_i hw
    cases hr0
    rw [hw, if_neg (by simp)]
    exact hK μ _ w (.refl s) (put_ok he hnt h3 ⟨#[], rfl, rfl⟩) put_defers ⟨_, rfl⟩
  · rename_i hw
    rw [hw, if_pos rfl]
    left
    unfold Oper.wp
    split at hr0
    · rename_i v hv' he'
      cases hr0
      obtain ⟨μ', u, w', hrun, hvr, st, _⟩ := op_ok hB s he h1 he'
      have fin := hK μ' _ w' st (put_ok (he.mono st.le) hnt h3 hvr) put_defers ⟨u, rfl⟩
      rcases hrun with hrun | ⟨hrun, rfl⟩
      · rw [hrun]; exact fin
      · rw [hrun]; exact fin
    · rename_i f args he'
      split at hr0
      · rename_i v h2' hcall
        cases hr0
        have hfo : ∃ fn c, P.funcs[f]? = some fn ∧ (fn.name == "runtime.NumGoroutine") = false ∧ fn.body = some c := by
          unfold callF at hcall
          split at hcall
          · rename_i af haf
            exact hG.name haf
          · cases hcall
        obtain ⟨us, hus, hrun⟩ := op_enter (w := w) he h1 he' hfo
        rw [hrun]
        refine (call_sound hB hG hrec hcall s hus).mono ?_
        rintro e w' ⟨u, μ', rfl, hvr, st⟩
        exact hK μ' _ w' st (put_ok (he.mono st.le) hnt h3 hvr) put_defers ⟨u, rfl⟩
      · cases hr0
    · cases hr0

theorem runOps_sound (hB : BaseOk W B) (hG : GOk P G) (hrec : RecOk P W rec) (hnt : nt < 100000) {ops : Array Oper} : ∀ (l : List Oper) (k : Nat) (μ : Mu) (env : Env) (h : AHeap) (w : World) (a : Act) (env' : Env) (h' : AHeap),
    ops.toList.drop k = l → runOps B G rec (cOpers P nt ops.toList l) env h = some (env', h') → Sim W μ h w → EnvR μ nt env a.tmps → ∀ Q : Exit → Act → World → Prop,
    (∀ μ' a' w', Stp W μ h w μ' h' w' → EnvR μ' nt env' a'.tmps → a'.defers = a.defers → Q .normal a' w') → wpOps P ops Q (List.range' k l.length) a w
  | [], k, μ, env, h, w, a, env', h', hl, hr, s, he, Q, hQ => by
    simp only [cOpers, runOps, Option.some.injEq, Prod.mk.injEq] at hr
    obtain ⟨rfl, rfl⟩ := hr
    exact hQ μ a w (.refl s) he rfl
  | o :: l, k, μ, env, h, w, a, env', h', hl, hr, s, he, Q, hQ => by
    simp only [cOpers, runOps] at hr
    split at hr
    · rename_i env1 h1 hst
      split at hr
      · have ho : ops[k]? = some o := by
          have := congrArg (fun l : List Oper => l[0]?) hl
          simpa using this
        have hl' : ops.toList.drop (k + 1) = l := by
          have := congrArg List.tail hl
          simpa using this
        simp only [List.length_cons, List.range'_succ, wpOps, ho]
        refine opStep_sound (ag := (cOper P nt ops.toList o).again) hB hG hrec hnt s he hst ?_
        intro μ1 a1 w1 st1 he1 hd1 _
        refine runOps_sound hB hG hrec hnt l (k + 1) μ1 env1 h1 w1 a1 env' h' hl' hr st1.sim he1 Q ?_
        intro μ2 a2 w2 st2 he2 hd2
        exact hQ μ2 a2 w2 (st1.trans s st2) he2 (hd2.trans hd1)
      · cases hr
    · cases hr

theorem exec_zero (B : Base) (G : Nat → Option AFunc) (c : ACode) (env : Env) (h : AHeap) : exec B G 0 c env h = none := rfl

/- a loop, by its rounds -/
def LoopOk (P : Program) (W : World) (B : Base) (G : Nat → Option AFunc) (n : Nat) : Prop :=
  ∀ (nt : Nat) (c : Code) (env : Env) (h : AHeap) (out : AOut), nt < 100000 → exec B G n (.loop (cCode P nt c)) env h = some out → ∀ (μ : Mu) (w : World) (a : Act), Sim W μ h w → EnvR μ nt env a.tmps →
    ∀ Q : Exit → Act → World → Prop, (∀ μ' a' w', Stp W μ h w μ' out.h w' → EnvR μ' nt out.env a'.tmps → a'.defers = a.defers → Q (exitOf out.e) a' w') → Code.rounds P c Q n a w

theorem loop_sound {n : Nat} (hrec : RecOk P W (exec B G n)) (hloop : LoopOk P W B G n) : LoopOk P W B G (n + 1) := by
  intro nt c env h out hnt hr μ w a s he Q hQ
  rw [exec_succ] at hr
  simp only [step] at hr
  show c.wp P (Exit.then (Code.rounds P c Q n) Q) a w
  split at hr
  · rename_i env1 h1 hr1
    refine hrec nt c env h _ hnt hr1 μ w a s he _ ?_
    intro μ1 a1 w1 st1 he1 hd1
    refine hloop nt c env1 h1 out hnt hr μ1 w1 a1 st1.sim he1 Q ?_
    intro μ2 a2 w2 st2 he2 hd2
    exact hQ μ2 a2 w2 (st1.trans s st2) he2 (hd2.trans hd1)
  · rename_i hne
    refine hrec nt c env h out hnt hr μ w a s he _ ?_
    intro μ1 a1 w1 st1 he1 hd1
    have := hQ μ1 a1 w1 st1 he1 hd1
    obtain ⟨e, env1, h1⟩ := out
    cases e with
    | normal => exact absurd hr (hne env1 h1)
    | exit i => exact this
    | ret => exact this

/- a region that draws its order -/
def DrawOk (P : Program) (W : World) (B : Base) (G : Nat → Option AFunc) : Prop :=
  ∀ (rec : Exec), RecOk P W rec → ∀ (nt id : Nat) (ops : Array Oper) (l : List AOper) (env : Env) (h : AHeap) (env' : Env) (h' : AHeap), nt < 100000 → cDraw P nt ops.toList = some l → runOps B G rec l env h = some (env', h') →
    ∀ (μ : Mu) (w : World) (a : Act), Sim W μ h w → EnvR μ nt env a.tmps → ∀ Q : Exit → Act → World → Prop,
    (∀ μ' a' w', Stp W μ h w μ' h' w' → EnvR μ' nt env' a'.tmps → a'.defers = a.defers → Q .normal a' w') → (Code.region id ops true).wp P Q a w

theorem exec_sound (hB : BaseOk W B) (hG : GOk P G) (hD : DrawOk P W B G) : ∀ n, RecOk P W (exec B G n) ∧ LoopOk P W B G n
  | 0 => ⟨fun nt c env h out _ hr => by simp [exec_zero] at hr, fun nt c env h out _ hr => by simp [exec_zero] at hr⟩
  | n + 1 => by
    obtain ⟨hrec, hloop⟩ := exec_sound hB hG hD n
    have hl := loop_sound hrec hloop
    refine ⟨?_, hl⟩
    intro nt c env h out hnt hr μ w a s he Q hQ
    have hr0 := hr
    rw [exec_succ] at hr
    cases c with
    | skip =>
      simp only [cCode, step, Option.some.injEq] at hr; subst hr
      exact wp_skip (hQ μ a w (.refl s) he rfl)
    | label l =>
      simp only [cCode, step, Option.some.injEq] at hr; subst hr
      exact wp_label (hQ μ a w (.refl s) he rfl)
    | exit id =>
      simp only [cCode, step, Option.some.injEq] at hr; subst hr
      exact wp_exit (hQ μ a w (.refl s) he rfl)
    | ret =>
      simp only [cCode, step, Option.some.injEq] at hr; subst hr
      exact wp_ret (hQ μ a w (.refl s) he rfl)
    | seq x y =>
      simp only [cCode, step] at hr
      refine wp_seq ?_
      split at hr
      · rename_i env1 h1 hr1
        refine hrec nt x env h _ hnt hr1 μ w a s he _ ?_
        intro μ1 a1 w1 st1 he1 hd1
        refine hrec nt y env1 h1 out hnt hr μ1 w1 a1 st1.sim he1 Q ?_
        intro μ2 a2 w2 st2 he2 hd2
        exact hQ μ2 a2 w2 (st1.trans s st2) he2 (hd2.trans hd1)
      · rename_i hne
        refine hrec nt x env h out hnt hr μ w a s he _ ?_
        intro μ1 a1 w1 st1 he1 hd1
        have := hQ μ1 a1 w1 st1 he1 hd1
        obtain ⟨e, env1, h1⟩ := out
        cases e with
        | normal => exact absurd hr (hne env1 h1)
        | exit i => exact this
        | ret => exact this
    | cond c x y =>
      simp only [cCode] at hr
      split at hr
      · rename_i c' hc'
        simp only [step] at hr
        have e1 := opd_ok (a := a) hc' he
        split at hr
        · rename_i hb
          rw [hb] at e1
          have e1 : a.eval c = .bool true := e1
          exact wp_cond_true e1 (hrec nt x env h out hnt hr μ w a s he Q hQ)
        · rename_i hb
          rw [hb] at e1
          have e1 : a.eval c = .bool false := e1
          exact wp_cond_false e1 (hrec nt y env h out hnt hr μ w a s he Q hQ)
        · cases hr
      · simp [step] at hr
    | block id b =>
      simp only [cCode, step] at hr
      refine wp_block ?_
      split at hr
      · rename_i i env1 h1 hr1
        refine hrec nt b env h _ hnt hr1 μ w a s he _ ?_
        intro μ1 a1 w1 st1 he1 hd1
        show Exit.inBlock id Q (.exit i) a1 w1
        unfold Exit.inBlock
        by_cases hi : i = id
        · subst hi
          simp at hr; subst hr
          simp only [if_true]
          exact hQ μ1 a1 w1 st1 he1 hd1
        · have : Nat.beq i id = false := by
            cases hb : Nat.beq i id
            · rfl
            · exact absurd (Nat.eq_of_beq_eq_true hb) hi
          rw [this] at hr
          simp at hr; subst hr
          simp only [hi, if_false]
          exact hQ μ1 a1 w1 st1 he1 hd1
      · rename_i hne
        refine hrec nt b env h out hnt hr μ w a s he _ ?_
        intro μ1 a1 w1 st1 he1 hd1
        have := hQ μ1 a1 w1 st1 he1 hd1
        obtain ⟨e, env1, h1⟩ := out
        cases e with
        | normal => exact this
        | exit i => exact absurd hr (hne i env1 h1)
        | ret => exact this
    | loop b => exact wp_loop_rounds (n + 1) (hl nt b env h out hnt hr0 μ w a s he Q hQ)
    | region id ops draw =>
      simp only [cCode] at hr
      cases draw with
      | false =>
        simp only [step] at hr
        split at hr
        · rename_i env1 h1 hr1
          simp only [Option.some.injEq] at hr; subst hr
          refine wp_region ?_
          rw [List.range_eq_range']
          have := runOps_sound hB hG hrec hnt (ops := ops) ops.toList 0 μ env h w a env1 h1 rfl hr1 s he Q hQ
          simpa using this
        · cases hr
      | true =>
        simp only at hr
        split at hr
        · rename_i l hl'
          simp only [step] at hr
          split at hr
          · rename_i env1 h1 hr1
            simp only [Option.some.injEq] at hr; subst hr
            exact hD _ hrec nt id ops l env h env1 h1 hnt hl' hr1 μ w a s he Q hQ
          · cases hr
        · simp [step] at hr
    | _ => simp [cCode, step] at hr

end
end Go.Proofs.Ytohjmflbgohkhaa.E
