/- One operation with what it looks at alone. -/
import Derived.Test.YtohjmflbgohkhaaEngY
import Derived.Orders
namespace Go.Proofs.Ytohjmflbgohkhaa.E
set_option linter.all false
open Go

section
variable {P : Program} {W : World} {μ : Mu} {h : AHeap} {w : World} {nt : Nat} {env : Env} {a : Act} {B : Base} {G : Nat → Option AFunc} {rec : Exec}

def buildEnv (e : Env) : List Nat → Env
  | [] => .e
  | t :: r => (buildEnv e r).set (pathOf 64 t) (e.get (pathOf 64 t))

theorem buildEnv_get (e : Env) {t : Nat} (ht : t < 100000) : ∀ (l : List Nat), (∀ x ∈ l, x < 100000) → (buildEnv e l).get (pathOf 64 t) = if t ∈ l then e.get (pathOf 64 t) else .tuple []
  | [], _ => by simp [buildEnv, Env.get_e]
  | x :: r, hl => by
    simp only [buildEnv]
    by_cases hx : x = t
    · subst hx; rw [Env.get_set_same]; simp
    · rw [Env.get_set_other _ _ _ _ (fun q => hx (pathOf_inj (hl x (by simp)) ht q)), buildEnv_get e ht r fun y hy => hl y (by simp [hy])]
      simp [show ¬ t = x from fun q => hx q.symm]

theorem focus {opsA : Array Oper} {o : Oper} (hnt : nt < 100000) (hsz : nt ≤ a.tmps.size) (hsel : ∀ cs b, o.op ≠ .select cs b)
    (hv : ∀ t ∈ looksOf opsA.toList o, t < nt → VR μ (env.get (pathOf 64 t)) (a.tmps.getD t undef)) :
    ∃ (e' : Env) (a' : Act), EnvR μ nt e' a'.tmps ∧ (∀ t ∈ looksOf opsA.toList o, t < nt → e'.get (pathOf 64 t) = env.get (pathOf 64 t)) ∧ execOp a'.eval o = execOp a.eval o ∧
      Region.wanted o (yielded opsA a'.tmps) = Region.wanted o (yielded opsA a.tmps) ∧ a'.tmps.size = a.tmps.size ∧ a'.defers = a.defers := by
  have hgd : ∀ t, ((Array.range a.tmps.size).map fun t => if t ∈ looksOf opsA.toList o then a.tmps.getD t undef else undef).getD t undef = if t ∈ looksOf opsA.toList o then a.tmps.getD t undef else undef := by
    intro t
    by_cases h : t < a.tmps.size
    · simp [Array.getD, h]
    · simp [Array.getD, h]
  refine ⟨buildEnv env ((looksOf opsA.toList o).filter (· < nt)), ⟨(Array.range a.tmps.size).map fun t => if t ∈ looksOf opsA.toList o then a.tmps.getD t undef else undef, a.defers⟩, ⟨by simpa using hsz, ?_⟩, ?_, ?_, ?_, by simp, rfl⟩
  · intro t ht
    rw [buildEnv_get env (t := t) (Nat.lt_trans ht hnt) _ (fun x hx => by simp at hx; omega), hgd]
    by_cases hm : t ∈ looksOf opsA.toList o
    · rw [if_pos (by simp [hm, ht]), if_pos hm]; exact hv t hm ht
    · rw [if_neg (by simp [hm]), if_neg hm]; exact ⟨#[], rfl, rfl⟩
  · intro t hm ht
    rw [buildEnv_get env (t := t) (Nat.lt_trans ht hnt) _ (fun x hx => by simp at hx; omega), if_pos (by simp [hm, ht])]
  · refine execOp_congr o hsel fun x hx => ?_
    cases x with
    | tmp t =>
      simp only [Act.eval]
      rw [hgd, if_pos]
      unfold looksOf
      refine List.mem_append.2 (.inl ?_)
      exact List.mem_filterMap.2 ⟨.tmp t, by simpa using hx, rfl⟩
    | _ => rfl
  · unfold Region.wanted
    split
    · rfl
    · rename_i j want hg
      congr 1
      unfold yielded
      cases hd : (opsA[j]?).bind (·.dst) with
      | none => rfl
      | some d =>
        have hm : d ∈ looksOf opsA.toList o := by
          unfold looksOf
          refine List.mem_append.2 (.inr ?_)
          rw [hg]
          have : (opsA.toList[j]?).bind (·.dst) = some d := by simpa using hd
          simp [hd]
        simp only [Option.bind_some]
        have : ((Array.range a.tmps.size).map fun t => if t ∈ looksOf opsA.toList o then a.tmps.getD t undef else undef)[d]? = a.tmps[d]? := by
          by_cases h : d < a.tmps.size
          · simp [h, hm]
          · simp [h]
        rw [this]

theorem transfer {o : Oper} {a' : Act} {K : Act → World → Prop} {Q : Exit → Act → World → Prop} (hex : execOp a'.eval o = execOp a.eval o) (hsz : a'.tmps.size = a.tmps.size)
    (hw : o.wp P a' w (fun b w' => ∃ u, b = a'.put o.dst u ∧ K (a.put o.dst u) w') (fun _ _ _ => False)) : o.wp P a w K Q := by
  have PUT : ∀ u v, a'.put o.dst u = a'.put o.dst v → a.put o.dst u = a.put o.dst v := by
    intro u v he
    cases hd : o.dst with
    | none => rfl
    | some d =>
      rw [hd] at he
      simp only [Act.put] at he ⊢
      by_cases hlt : d < a'.tmps.size
      · have := congrArg (fun (b : Act) => b.tmps[d]?) he
        simp [hlt] at this
        rw [this]
      · have hge : a.tmps.size ≤ d := hsz ▸ Nat.le_of_not_lt hlt
        have h1 : ∀ x : Value, a.tmps.setIfInBounds d x = a.tmps := fun x => Array.setIfInBounds_eq_of_size_le hge
        rw [h1, h1]
  unfold Oper.wp at *
  rw [hex] at hw
  generalize (execOp a.eval o).run P w = r at *
  cases r with
  | ok n w' =>
    cases n <;> simp only [Oper.upon] at hw ⊢
    case value v => obtain ⟨u, hu, hk⟩ := hw; rw [PUT _ _ hu]; exact hk
    case skip => obtain ⟨u, hu, hk⟩ := hw; rw [PUT _ _ hu]; exact hk
    case defer d =>
      obtain ⟨u, hu, hk⟩ := hw
      exfalso
      have := congrArg (fun (b : Act) => b.defers.length) hu
      cases hd : o.dst <;> simp [Act.put, hd] at this
    case enter f args =>
      refine hw.mono fun e w'' he => ?_
      cases e with
      | returned v => obtain ⟨u, hu, hk⟩ := he; show K (a.put o.dst v) w''; rw [PUT _ _ hu]; exact hk
      | panicked c => exact he.elim
      | outgrown => obtain ⟨_, _, hq⟩ := he; exact hq.elim
    case row rw args =>
      refine hw.mono fun v w'' he => ?_
      obtain ⟨u, hu, hk⟩ := he; rw [PUT _ _ hu]; exact hk
  | halt x w' => cases x <;> simp only [Oper.upon] at hw ⊢

theorem cOp_select {o : Oper} {ao} (hc : cOp P nt o = some ao) : ∀ cs b, o.op ≠ .select cs b := by
  intro cs b he
  simp [cOp, he] at hc

end
end Go.Proofs.Ytohjmflbgohkhaa.E
