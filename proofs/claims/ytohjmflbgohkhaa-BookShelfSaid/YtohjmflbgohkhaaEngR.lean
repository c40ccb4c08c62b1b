/- All operations together; calls; a region in the order of its text. -/
import Derived.Test.YtohjmflbgohkhaaEngQ
namespace Go.Proofs.Ytohjmflbgohkhaa.E
set_option linter.all false
open Go

section
variable {P : Program} {W : World} {μ : Mu} {h : AHeap} {w : World} {nt : Nat} {env : Env} {a : Act} {B : Base} {o : Oper} {ao : AOp} {v : AV} {h' : AHeap}

theorem op_ok (hB : BaseOk W B) (s : Sim W μ h w) (he : EnvR μ nt env a.tmps) (hc : cOp P nt o = some ao) (hv : evalOp B env h ao = some (.val v h')) :
    OpOk P W μ h w (execOp a.eval o) v h' ao := by
  cases hop : o.op with
  | move x => exact om_mv s he (.inl hop) hc hv
  | assign x => exact om_mv s he (.inr hop) hc hv
  | pick c x y => exact om_pick s he hop hc hv
  | alloc e => exact om_alloc s hop hc hv
  | box e x => exact om_box s he hop hc hv
  | build t ps => exact om_build s he hop hc hv
  | buildSlice t n ps => exact om_buildSlice s he hop hc hv
  | load t x => exact om_load hB s he hop hc hv
  | store t x y => exact om_store s he hop hc hv
  | nilCheck x => exact om_nilCheck s he hop hc hv
  | binOp op t x y ty => exact om_binOp s he hop hc hv
  | unOp op t x => exact om_unOp s he hop hc hv
  | convert t d x => exact om_convert hB s he hop hc hv
  | makeFunc f x y => exact om_makeFunc s he hop hc hv
  | makeSlice t x y => exact om_makeSlice s he hop hc hv
  | slice t x l hh m => exact om_slice s he hop hc hv
  | fieldAddr t x i => exact om_fieldAddr s he hop hc hv
  | field t x i => exact om_field s he hop hc hv
  | indexAddr t x i => exact om_indexAddr s he hop hc hv
  | index t x i => exact om_index s he hop hc hv
  | extract x i => exact om_extract s he hop hc hv
  | call c =>
    cases hcal : c.callee with
    | builtin b => exact om_builtin hB s he hop hcal hc hv
    | value f =>
      exfalso
      simp only [cOp, hop, cCall, hcal] at hc
      split at hc
      · split at hc
        · cases hc; simp [evalOp] at hv
        · split at hc
          · cases hc; simp only [evalOp] at hv; split at hv <;> simp at hv
          · cases hc
      · cases hc
    | invoke r n => simp [cOp, hop, cCall, hcal] at hc
  | _ => simp [cOp, hop] at hc

def isCallA : AOp → Bool
  | .call _ _ | .callv _ _ => true
  | _ => false

theorem enter_is {f args} (hv : evalOp B env h ao = some (.enter f args)) : isCallA ao = true := by
  cases ao <;> first | rfl | (exfalso; simp only [evalOp] at hv; (repeat' split at hv) <;> simp at hv)

theorem cBin_not {op t x y p q r} (h : cBin P op t x y p q = some r) : isCallA r = false := by
  unfold cBin at h
  (repeat' split at h) <;> first | (cases h; rfl) | (cases h; done)

theorem call_op (hc : cOp P nt o = some ao) (hi : isCallA ao = true) : ∃ c f, o.op = .call c ∧ c.callee = .value f := by
  cases hop : o.op with
  | call c =>
    cases hcal : c.callee with
    | value f => exact ⟨c, f, rfl, hcal⟩
    | builtin b =>
      exfalso
      simp only [cOp, hop, cCall, hcal] at hc
      (repeat' split at hc) <;> first | (cases hc; done) | (cases hc; simp [isCallA] at hi; done)
    | invoke r n => simp [cOp, hop, cCall, hcal] at hc
  | binOp op t x y ty =>
    exfalso
    simp only [cOp, hop] at hc
    split at hc
    · have := cBin_not hc; rw [this] at hi; cases hi
    · cases hc
  | makeFunc fn x y =>
    exfalso
    cases fn <;> simp only [cOp, hop, reduceCtorEq] at hc
    split at hc
    · cases hc; simp [isCallA] at hi
    · cases hc
  | _ =>
    exfalso
    simp only [cOp, hop] at hc
    try ((repeat' split at hc) <;> first | (cases hc; done) | (cases hc; simp [isCallA] at hi; done))

theorem op_enter (he : EnvR μ nt env a.tmps) {f : Nat} {args : List AV} (hc : cOp P nt o = some ao) (hv : evalOp B env h ao = some (.enter f args))
    (hf : ∃ fn c, P.funcs[f]? = some fn ∧ (fn.name == "runtime.NumGoroutine") = false ∧ fn.body = some c) :
    ∃ us : Array Value, VRs μ args us.toList ∧ (execOp a.eval o).run P w = .ok (.enter f us) w := by
  obtain ⟨fn, cb, hfn, hname, hbody⟩ := hf
  have CF : ∀ us, (callFunc f us).run P w = .ok (.enter f us) w := by
    intro us
    have hname' : ¬ fn.name = "runtime.NumGoroutine" := by simpa using hname
    simp [callFunc, hfn, hname', hbody]
  obtain ⟨c, g, hop, hcal⟩ := call_op hc (enter_is hv)
  simp only [cOp, hop, cCall, hcal] at hc
  split at hc
  · rename_i l hl
    have hl2 := opds_ok (a := a) he hl
    split at hc
    · rename_i g'
      cases hc
      simp only [evalOp, Option.some.injEq, ARes.enter.injEq] at hv
      obtain ⟨rfl, rfl⟩ := hv
      refine ⟨c.args.map a.eval, by simpa using hl2, ?_⟩
      simp [execOp, hop, resolve, hcal, Act.eval, Deferred.ofValue, invoke, CF]
    · split at hc
      · rename_i x hx
        cases hc
        simp only [evalOp] at hv
        split at hv
        · rename_i g2 cap hg
          simp only [Option.some.injEq, ARes.enter.injEq] at hv
          obtain ⟨rfl, rfl⟩ := hv
          have e1 := opd_ok (a := a) hx he
          rw [hg] at e1
          obtain ⟨cc, hu, hcs⟩ := e1
          refine ⟨c.args.map a.eval ++ cc, by simpa using hl2.append hcs, ?_⟩
          simp [execOp, hop, resolve, hcal, hu, Deferred.ofValue, invoke, CF]
        · cases hv
      · cases hc
  · cases hc

end
end Go.Proofs.Ytohjmflbgohkhaa.E
