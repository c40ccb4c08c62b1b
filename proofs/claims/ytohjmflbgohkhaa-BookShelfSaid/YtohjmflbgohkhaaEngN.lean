/- More operations, compiled. -/
import Derived.Test.YtohjmflbgohkhaaEngM
namespace Go.Proofs.Ytohjmflbgohkhaa.E
set_option linter.all false
open Go

section
variable {P : Program} {W : World} {μ : Mu} {h : AHeap} {w : World} {nt : Nat} {env : Env} {a : Act} {B : Base} {o : Oper} {ao : AOp} {v : AV} {h' : AHeap}

theorem VR.ptr_inv {b : ABlk} {off : Nat} {u : Value} (hv : VR μ (.ptr b off) u) : ∃ x, plOf μ b off = some x ∧ u = .pointer (some x) := hv

theorem om_load (hB : BaseOk W B) (s : Sim W μ h w) (he : EnvR μ nt env a.tmps) {t : TypeId} {x : Operand} (hop : o.op = .load t x) (hc : cOp P nt o = some ao) (hv : evalOp B env h ao = some (.val v h')) :
    OpOk P W μ h w (execOp a.eval o) v h' ao := by
  simp only [cOp, hop] at hc
  split at hc
  · rename_i g n y hg hn hy
    split at hc
    · rename_i hgn
      cases hc
      simp only [evalOp] at hv
      split at hv
      · rename_i b off hx
        have e1 := opd_ok (a := a) hy he
        rw [hx] at e1
        obtain ⟨ad, hpl, hu⟩ := e1.ptr_inv
        split at hv
        · rename_i l hl
          obtain ⟨c, hr, hvs, hone⟩ := load_any (P := P) hB s hl hpl
          cases g with
          | true =>
            simp only [Option.some.injEq, ARes.val.injEq] at hv
            obtain ⟨rfl, rfl⟩ := hv
            exact .val s (u := .agg c) (by simp [execOp, hop, Instr.loadAt, Instr.sureAddr, hu, loadVar, isAggB_run hg, sizeB_run hn, hr]) ⟨c, rfl, hvs, hone⟩
          | false =>
            simp only at hv
            split at hv
            · rename_i v0
              simp only [Option.some.injEq, ARes.val.injEq] at hv
              obtain ⟨rfl, rfl⟩ := hv
              obtain ⟨u0, m, e2, hr0, hm⟩ := hvs
              have hm : m = [] := hm
              subst hm
              have h1 : n = 1 := by simpa using hgn
              subst h1
              have hl1 : (load ad).run P w = .ok u0 w := by
                have : (loadCells ad 1).run P w = ((load ad).run P w).andThen fun v w' => .ok #[v] w' := by
                  simp [loadCells, loadCellsFrom, Addr.add]
                rw [this] at hr
                cases hld : (load ad).run P w with
                | ok q w' =>
                  rw [hld] at hr; simp at hr
                  obtain ⟨rfl, rfl⟩ := hr
                  simp at e2; rw [e2]
                | halt q w' => rw [hld] at hr; simp at hr
              exact .val s (u := u0) (by simp only [execOp, hop, Instr.loadAt, Instr.sureAddr, hu, loadVar, Sem.run_bind, isAggB_run hg, Result.andThen_ok, Bool.false_eq_true, if_false, hl1, Sem.run_pure]) hr0
            · cases hv
        · cases hv
      · cases hv
    · cases hc
  · cases hc

theorem om_store (s : Sim W μ h w) (he : EnvR μ nt env a.tmps) {t : TypeId} {x y : Operand} (hop : o.op = .store t x y) (hc : cOp P nt o = some ao) (hv : evalOp B env h ao = some (.val v h')) :
    OpOk P W μ h w (execOp a.eval o) v h' ao := by
  simp only [cOp, hop] at hc
  split at hc
  · rename_i n x' y' hn hx hy
    cases hc
    simp only [evalOp] at hv
    split at hv
    · rename_i b off hxx
      have e1 := opd_ok (a := a) hx he
      rw [hxx] at e1
      obtain ⟨ad, hpl, hu⟩ := e1.ptr_inv
      split at hv
      · rename_i l hl
        obtain ⟨hvs, hone⟩ := cells_ok (opd_ok (a := a) hy he) hl
        split at hv
        · rename_i hln
          split at hv
          · rename_i h2 hst
            simp only [Option.some.injEq, ARes.val.injEq] at hv
            obtain ⟨rfl, rfl⟩ := hv
            obtain ⟨w', hr, st⟩ := store_any (P := P) s hst (.inl hpl) hvs hone
            have hlen := VRs.length hvs
            simp at hlen hln
            refine ⟨μ, undef, w', .inr ⟨?_, rfl⟩, ⟨#[], rfl, rfl⟩, st, by simp [kindOf]⟩
            have hsz : (a.eval y).cells.size = n := by omega
            simp [execOp, hop, Instr.storeAt, Instr.sureAddr, hu, storeVar, sizeB_run hn, hsz, hr]
          · cases hv
        · cases hv
      · cases hv
    · cases hv
  · cases hc

theorem om_nilCheck (s : Sim W μ h w) (he : EnvR μ nt env a.tmps) {x : Operand} (hop : o.op = .nilCheck x) (hc : cOp P nt o = some ao) (hv : evalOp B env h ao = some (.val v h')) :
    OpOk P W μ h w (execOp a.eval o) v h' ao := by
  simp only [cOp, hop] at hc
  split at hc
  · rename_i y hy
    cases hc
    simp only [evalOp] at hv
    have e1 := opd_ok (a := a) hy he
    split at hv
    · rename_i b off hx
      rw [hx] at e1
      simp only [Option.some.injEq, ARes.val.injEq] at hv
      obtain ⟨rfl, rfl⟩ := hv
      obtain ⟨ad, hpl, hu⟩ := e1.ptr_inv
      exact .val s (u := a.eval x) (by simp [execOp, hop, hu]) e1
    · rename_i f c hx
      rw [hx] at e1
      simp only [Option.some.injEq, ARes.val.injEq] at hv
      obtain ⟨rfl, rfl⟩ := hv
      obtain ⟨cc, hu, hcs⟩ := e1
      exact .val s (u := a.eval x) (by simp [execOp, hop, hu]) ⟨cc, hu, hcs⟩
    · cases hv
  · cases hc

theorem eqGuard_other {op : BinOp} {t : TypeId} {x y : Operand} {u v : Value} (h : op ≠ .eql ∧ op ≠ .neq) : (eqGuard op t x y u v).run P w = .ok () w := by
  unfold eqGuard
  cases op <;> first | rfl | exact absurd rfl h.1 | exact absurd rfl h.2

theorem isNilV_not {m : EqMode} {x : AV} {u : Value} {b} (hm : m ≠ .iface) (hx : VR μ x u) (hr : isNilV m x = some b) : u ≠ .nilIface := by
  cases m <;> cases x <;> simp only [isNilV, reduceCtorEq] at hr <;> first
    | (exact absurd rfl hm)
    | (have hx : u = _ := hx; subst hx; simp; done)
    | (obtain ⟨_, _, hx⟩ := hx; subst hx; simp; done)
    | (obtain ⟨_, hx, _⟩ := hx; subst hx; simp; done)
    | (obtain ⟨_, _, hx, _⟩ := hx.slice_inv; subst hx; simp; done)

theorem not_both {m : EqMode} {x y : AV} {u v : Value} {b} (hm : m ≠ .iface) (hx : VR μ x u) (hy : VR μ y v)
    (hr : (match isNilV m x, isNilV m y with | some true, some b => some b | some b, some true => some b | _, _ => none) = some b) : ¬ (u = .nilIface ∧ v = .nilIface) := by
  rintro ⟨rfl, _⟩
  cases h1 : isNilV m x with
  | none => rw [h1] at hr; simp at hr
  | some c => exact isNilV_not hm hx h1 rfl

theorem om_eq (s : Sim W μ h w) (he : EnvR μ nt env a.tmps) {neg : Bool} {t ty : TypeId} {x y : Operand} {x' y' : Opd} {m : EqMode} (hop : o.op = .binOp (eqBin neg) t x y ty)
    (hx : opd nt x = some x') (hy : opd nt y = some y')
    (hm : match m with
      | .int => ∃ k, P.underlying t = some (.int k)
      | .bool => P.underlying t = some .bool
      | .str => P.underlying t = some .string
      | .ptr => ∃ e, P.underlying t = some (.pointer e)
      | .slice => ∃ e, P.underlying t = some (.slice e)
      | .map => ∃ k e, P.underlying t = some (.map k e)
      | .func => ∃ p r q, P.underlying t = some (.func p r q)
      | .iface => (∃ m, P.underlying t = some (.interface m)) ∧ (isConstB x = true ∨ isConstB y = true)
      | .cells ks => structEqB P t = some ks)
    (hv : evalOp B env h (.eqs neg m x' y') = some (.val v h')) :
    OpOk P W μ h w (execOp a.eval o) v h' (.eqs neg m x' y') := by
  have e1 := opd_ok (a := a) hx he
  have e2 := opd_ok (a := a) hy he
  simp only [evalOp] at hv
  split at hv
  · rename_i b hb
    simp only [Option.some.injEq, ARes.val.injEq] at hv
    obtain ⟨rfl, rfl⟩ := hv
    have KEY : (binOp (eqBin neg) t (a.eval x) (a.eval y)).run P w = .ok (.bool (cond neg (!b) b)) w ∧
        (eqGuard (eqBin neg) t x y (a.eval x) (a.eval y)).run P w = .ok () w := by
      cases m
      case cells ks => have := eq_cells (P := P) (w := w) (neg := neg) e1 e2 hm hb; exact ⟨this.1, this.2 _ _ _⟩
      case int =>
        have := eq_scalar (P := P) (w := w) (neg := neg) (t := t) (m := 0) e1 e2 (by simp) hb
        exact ⟨this.1, eqGuard_plain this.2.1 (.inl this.2.2)⟩
      case bool =>
        have := eq_scalar (P := P) (w := w) (neg := neg) (t := t) (m := 1) e1 e2 (fun _ => hm) hb
        exact ⟨this.1, eqGuard_plain this.2.1 (.inl this.2.2)⟩
      case str =>
        have := eq_scalar (P := P) (w := w) (neg := neg) (t := t) (m := 2) e1 e2 (by simp) hb
        exact ⟨this.1, eqGuard_plain this.2.1 (.inl this.2.2)⟩
      case ptr => have := eq_nil (P := P) (w := w) (neg := neg) (t := t) (m := .ptr) e1 e2 hm hb; exact ⟨this.1, eqGuard_plain this.2 (.inl (not_both (by simp) e1 e2 hb))⟩
      case slice => have := eq_nil (P := P) (w := w) (neg := neg) (t := t) (m := .slice) e1 e2 hm hb; exact ⟨this.1, eqGuard_plain this.2 (.inl (not_both (by simp) e1 e2 hb))⟩
      case map => have := eq_nil (P := P) (w := w) (neg := neg) (t := t) (m := .map) e1 e2 hm hb; exact ⟨this.1, eqGuard_plain this.2 (.inl (not_both (by simp) e1 e2 hb))⟩
      case func => have := eq_nil (P := P) (w := w) (neg := neg) (t := t) (m := .func) e1 e2 hm hb; exact ⟨this.1, eqGuard_plain this.2 (.inl (not_both (by simp) e1 e2 hb))⟩
      case iface => have := eq_nil (P := P) (w := w) (neg := neg) (t := t) (m := .iface) e1 e2 hm.1 hb; exact ⟨this.1, eqGuard_plain this.2 (.inr hm.2)⟩
    refine .val s (u := .bool (cond neg (!b) b)) ?_ rfl
    simp only [execOp, hop, Sem.run_bind, KEY.2, Result.andThen_ok, KEY.1, Sem.run_pure]
  · cases hv

end
end Go.Proofs.Ytohjmflbgohkhaa.E
