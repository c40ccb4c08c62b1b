/- The last operations, compiled. -/
import Derived.Test.YtohjmflbgohkhaaEngN
namespace Go.Proofs.Ytohjmflbgohkhaa.E
set_option linter.all false
open Go

section
variable {P : Program} {W : World} {μ : Mu} {h : AHeap} {w : World} {nt : Nat} {env : Env} {a : Act} {B : Base} {o : Oper} {ao : AOp} {v : AV} {h' : AHeap}

theorem om_binOp (s : Sim W μ h w) (he : EnvR μ nt env a.tmps) {op : BinOp} {t ty : TypeId} {x y : Operand} (hop : o.op = .binOp op t x y ty) (hc : cOp P nt o = some ao) (hv : evalOp B env h ao = some (.val v h')) :
    OpOk P W μ h w (execOp a.eval o) v h' ao := by
  simp only [cOp, hop] at hc
  split at hc
  · rename_i x' y' hx hy
    by_cases hq : op = .eql ∨ op = .neq
    · have EQ : ∀ neg, op = eqBin neg → OpOk P W μ h w (execOp a.eval o) v h' ao := by
        intro neg hneg
        subst hneg
        have hneg2 : (match (eqBin neg) with | .neq => true | _ => false) = neg := by cases neg <;> rfl
        have hc2 : (match P.underlying t with
            | some (.int _) => some (AOp.eqs neg .int x' y')
            | some .bool => some (.eqs neg .bool x' y')
            | some .string => some (.eqs neg .str x' y')
            | some (.pointer _) => some (.eqs neg .ptr x' y')
            | some (.slice _) => some (.eqs neg .slice x' y')
            | some (.map _ _) => some (.eqs neg .map x' y')
            | some (.func _ _ _) => some (.eqs neg .func x' y')
            | some (.interface _) => match isConstB x || isConstB y with
              | true => some (.eqs neg .iface x' y')
              | false => none
            | some (.struct _) => match structEqB P t with
              | some ks => some (.eqs neg (.cells ks) x' y')
              | none => none
            | _ => none) = some ao := by
          cases neg <;> exact hc
        split at hc2
        · rename_i hu; cases hc2; exact om_eq (m := .int) s he hop hx hy ⟨_, hu⟩ hv
        · rename_i hu; cases hc2; exact om_eq (m := .bool) s he hop hx hy hu hv
        · rename_i hu; cases hc2; exact om_eq (m := .str) s he hop hx hy hu hv
        · rename_i hu; cases hc2; exact om_eq (m := .ptr) s he hop hx hy ⟨_, hu⟩ hv
        · rename_i hu; cases hc2; exact om_eq (m := .slice) s he hop hx hy ⟨_, hu⟩ hv
        · rename_i hu; cases hc2; exact om_eq (m := .map) s he hop hx hy ⟨_, _, hu⟩ hv
        · rename_i hu; cases hc2; exact om_eq (m := .func) s he hop hx hy ⟨_, _, _, hu⟩ hv
        · rename_i hu
          split at hc2
          · rename_i hcc; cases hc2; exact om_eq (m := .iface) s he hop hx hy ⟨⟨_, hu⟩, by simpa using hcc⟩ hv
          · cases hc2
        · split at hc2
          · rename_i hs; cases hc2; exact om_eq (m := (.cells _)) s he hop hx hy hs hv
          · cases hc2
        · cases hc2
      rcases hq with rfl | rfl
      · exact EQ false rfl
      · exact EQ true rfl
    · have hn : op ≠ .eql ∧ op ≠ .neq := ⟨fun e => hq (.inl e), fun e => hq (.inr e)⟩
      have hc2 : ao = .arith op x' y' := by
        cases op <;> first | exact absurd rfl hn.1 | exact absurd rfl hn.2 | (simp only [cBin, Option.some.injEq] at hc; exact hc.symm)
      subst hc2
      simp only [evalOp] at hv
      split at hv
      · rename_i r hr
        simp only [Option.some.injEq, ARes.val.injEq] at hv
        obtain ⟨rfl, rfl⟩ := hv
        obtain ⟨z, hz, hzr⟩ := arith_ok (P := P) (w := w) (t := t) hn (opd_ok (a := a) hx he) (opd_ok (a := a) hy he) hr
        exact .val s (u := z) (by simp only [execOp, hop, Sem.run_bind, eqGuard_other hn, Result.andThen_ok, hz, Sem.run_pure]) hzr
      · cases hv
  · cases hc

theorem om_unOp (s : Sim W μ h w) (he : EnvR μ nt env a.tmps) {op : UnOp} {t : TypeId} {x : Operand} (hop : o.op = .unOp op t x) (hc : cOp P nt o = some ao) (hv : evalOp B env h ao = some (.val v h')) :
    OpOk P W μ h w (execOp a.eval o) v h' ao := by
  simp only [cOp, hop] at hc
  split at hc
  · rename_i y hy
    cases hc
    simp only [evalOp] at hv
    split at hv
    · rename_i r hr
      simp only [Option.some.injEq, ARes.val.injEq] at hv
      obtain ⟨rfl, rfl⟩ := hv
      obtain ⟨z, hz, hzr⟩ := unop_ok (P := P) (w := w) (opd_ok (a := a) hy he) hr
      exact .val s (u := z) (by simp only [execOp, hop, Sem.run_bind, hz, Result.andThen_ok, Sem.run_pure]) hzr
    · cases hv
  · cases hc

theorem om_extract (s : Sim W μ h w) (he : EnvR μ nt env a.tmps) {i : Nat} {x : Operand} (hop : o.op = .extract x i) (hc : cOp P nt o = some ao) (hv : evalOp B env h ao = some (.val v h')) :
    OpOk P W μ h w (execOp a.eval o) v h' ao := by
  simp only [cOp, hop] at hc
  split at hc
  · rename_i y hy
    cases hc
    simp only [evalOp] at hv
    split at hv
    · rename_i vs hx
      split at hv
      · rename_i r hr
        simp only [Option.some.injEq, ARes.val.injEq] at hv
        obtain ⟨rfl, rfl⟩ := hv
        have e1 := opd_ok (a := a) hy he
        rw [hx] at e1
        obtain ⟨c, hu, hcs⟩ := e1
        obtain ⟨u, hu2, hr2⟩ := VRs.toArray_get hcs hr
        exact .val s (u := u) (by simp [execOp, hop, Instr.extract, hu, hu2]) hr2
      · cases hv
    · cases hv
  · cases hc

theorem om_makeFunc (s : Sim W μ h w) (he : EnvR μ nt env a.tmps) {fn first cap} (hop : o.op = .makeFunc fn first cap) (hc : cOp P nt o = some ao) (hv : evalOp B env h ao = some (.val v h')) :
    OpOk P W μ h w (execOp a.eval o) v h' ao := by
  simp only [cOp, hop] at hc
  cases fn <;> simp only [reduceCtorEq] at hc
  split at hc
  · rename_i f l hf hl
    cases hc
    simp only [evalOp, Option.some.injEq, ARes.val.injEq] at hv
    obtain ⟨rfl, rfl⟩ := hv
    have e1 := opds_ok (a := a) he hl
    have hf : first = #[] := by simpa using hf
    subst hf
    refine .val s (u := .func (.func _) #[] (cap.map a.eval)) (by simp [execOp, hop, Instr.makeFunc]) ⟨_, rfl, ?_⟩
    simpa using e1
  · cases hc

theorem om_fieldAddr (s : Sim W μ h w) (he : EnvR μ nt env a.tmps) {t : TypeId} {x : Operand} {i} (hop : o.op = .fieldAddr t x i) (hc : cOp P nt o = some ao) (hv : evalOp B env h ao = some (.val v h')) :
    OpOk P W μ h w (execOp a.eval o) v h' ao := by
  simp only [cOp, hop] at hc
  split at hc
  · rename_i fs y hu hy
    split at hc
    · rename_i f hf
      split at hc
      · rename_i n hn
        split at hc
        · rename_i h0
          cases hc
          simp only [evalOp] at hv
          split at hv
          · rename_i b off hx
            simp only [Option.some.injEq, ARes.val.injEq] at hv
            obtain ⟨rfl, rfl⟩ := hv
            have e1 := opd_ok (a := a) hy he
            rw [hx] at e1
            obtain ⟨ad, hpl, hu2⟩ := e1.ptr_inv
            have h0 : n ≠ 0 := by intro e; rw [e] at h0; cases h0
            refine .val s (u := .pointer (some (ad.add f.offset))) ?_ ⟨_, plOf_add hpl, rfl⟩
            simp [execOp, hop, Instr.fieldAt, run_underlying hu, hf, Instr.sureAddr, hu2, fieldPlace, sizeB_run hn, h0]
          · cases hv
        · cases hc
      · cases hc
    · cases hc
  · cases hc

theorem om_field (s : Sim W μ h w) (he : EnvR μ nt env a.tmps) {t : TypeId} {x : Operand} {i} (hop : o.op = .field t x i) (hc : cOp P nt o = some ao) (hv : evalOp B env h ao = some (.val v h')) :
    OpOk P W μ h w (execOp a.eval o) v h' ao := by
  simp only [cOp, hop] at hc
  split at hc
  · rename_i fs y hu hy
    split at hc
    · rename_i f hf
      split at hc
      · rename_i g n hg hn
        cases hc
        simp only [evalOp] at hv
        split at hv
        · rename_i cs hx
          split at hv
          · rename_i r hr
            simp only [Option.some.injEq, ARes.val.injEq] at hv
            obtain ⟨rfl, rfl⟩ := hv
            have e1 := opd_ok (a := a) hy he
            rw [hx] at e1
            obtain ⟨c, hu2, hcs, hone⟩ := e1
            obtain ⟨u, hr1, hr2⟩ := part_ok (P := P) (w := w) hg hn hcs hone hr
            exact .val s (u := u) (by simp [execOp, hop, Instr.field, run_underlying hu, hf, hu2, asAgg, hr1]) hr2
          · cases hv
        · cases hv
      · cases hc
    · cases hc
  · cases hc

theorem om_indexAddr (s : Sim W μ h w) (he : EnvR μ nt env a.tmps) {t : TypeId} {x i : Operand} (hop : o.op = .indexAddr t x i) (hc : cOp P nt o = some ao) (hv : evalOp B env h ao = some (.val v h')) :
    OpOk P W μ h w (execOp a.eval o) v h' ao := by
  simp only [cOp, hop] at hc
  split at hc
  · rename_i len e y z hu hy hz
    split at hc
    · rename_i n hn
      cases hc
      simp only [evalOp] at hv
      split at hv
      · rename_i b off k m hx hi
        split at hv
        · rename_i j hj
          simp only [Option.some.injEq, ARes.val.injEq] at hv
          obtain ⟨rfl, rfl⟩ := hv
          have e1 := opd_ok (a := a) hy he
          have e2 := opd_ok (a := a) hz he
          rw [hx] at e1; rw [hi] at e2
          obtain ⟨ad, hpl, hu2⟩ := e1.ptr_inv
          have e2 : a.eval i = .int k m := e2
          obtain ⟨rfl, hlt⟩ := inRange_eq hj
          refine .val s (u := .pointer (some (ad.add (j * n)))) ?_ ⟨_, plOf_add hpl, rfl⟩
          have h1 : (0 : Int) ≤ (j : Int) ∧ (j : Int) < (len : Int) := ⟨by omega, by omega⟩
          simp [execOp, hop, Instr.indexAt, asIntOf, e2, run_underlying hu, hu2, Instr.sureAddr, sizeB_run hn, h1, hlt]
        · cases hv
      · cases hv
    · cases hc
  · rename_i e y z hu hy hz
    split at hc
    · rename_i n hn
      cases hc
      simp only [evalOp] at hv
      split at hv
      · rename_i b off len cap es k m hx hi
        split at hv
        · rename_i j hj
          simp only [Option.some.injEq, ARes.val.injEq] at hv
          obtain ⟨rfl, rfl⟩ := hv
          have e1 := opd_ok (a := a) hy he
          have e2 := opd_ok (a := a) hz he
          rw [hx] at e1; rw [hi] at e2
          obtain ⟨ad, cap', hu2, l1, l2, hpl, _⟩ := e1.slice_inv
          have e2 : a.eval i = .int k m := e2
          obtain ⟨rfl, hlt⟩ := inRange_eq hj
          have hpl : plOf μ b off = some ad := by
            rcases hpl with q | q
            · exact q
            · omega
          refine .val s (u := .pointer (some (ad.add (j * n)))) ?_ ⟨_, plOf_add hpl, rfl⟩
          have h1 : (0 : Int) ≤ (j : Int) ∧ (j : Int) < (len : Int) := ⟨by omega, by omega⟩
          simp [execOp, hop, Instr.indexAt, asIntOf, e2, run_underlying hu, hu2, sizeB_run hn, h1, hlt]
        · cases hv
      · cases hv
    · cases hc
  · cases hc

theorem om_index (s : Sim W μ h w) (he : EnvR μ nt env a.tmps) {t : TypeId} {x i : Operand} (hop : o.op = .index t x i) (hc : cOp P nt o = some ao) (hv : evalOp B env h ao = some (.val v h')) :
    OpOk P W μ h w (execOp a.eval o) v h' ao := by
  simp only [cOp, hop] at hc
  split at hc
  · rename_i len e y z hu hy hz
    split at hc
    · rename_i n g hn hg
      cases hc
      simp only [evalOp] at hv
      split at hv
      · rename_i cs k m hx hi
        split at hv
        · rename_i j hj
          split at hv
          · rename_i r hr
            simp only [Option.some.injEq, ARes.val.injEq] at hv
            obtain ⟨rfl, rfl⟩ := hv
            have e1 := opd_ok (a := a) hy he
            have e2 := opd_ok (a := a) hz he
            rw [hx] at e1; rw [hi] at e2
            obtain ⟨c, hu2, hcs, hone⟩ := e1
            have e2 : a.eval i = .int k m := e2
            obtain ⟨rfl, hlt⟩ := inRange_eq hj
            obtain ⟨u, hr1, hr2⟩ := part_ok (P := P) (w := w) hg hn hcs hone hr
            have h1 : (0 : Int) ≤ (j : Int) ∧ (j : Int) < (len : Int) := ⟨by omega, by omega⟩
            exact .val s (u := u) (by simp [execOp, hop, Instr.index, asIntOf, e2, run_underlying hu, hu2, sizeB_run hn, h1, hlt, hr1]) hr2
          · cases hv
        · cases hv
      · cases hv
    · cases hc
  · rename_i y z hu hy hz
    cases hc
    simp only [evalOp] at hv
    split at hv
    · rename_i sl k m hx hi
      split at hv
      · rename_i j
        split at hv
        · rename_i c hcj
          simp only [Option.some.injEq, ARes.val.injEq] at hv
          obtain ⟨rfl, rfl⟩ := hv
          have e1 := opd_ok (a := a) hy he
          have e2 := opd_ok (a := a) hz he
          rw [hx] at e1; rw [hi] at e2
          obtain ⟨b, hu2, hb⟩ := e1
          have e2 : a.eval i = .int k (Int.ofNat j) := e2
          have hj : ∃ q, b[j]? = some q ∧ q.toNat = c := by
            rw [← hb] at hcj
            unfold bytesN at hcj
            rw [List.getElem?_map] at hcj
            cases hq : b.data.toList[j]? with
            | none => rw [hq] at hcj; simp at hcj
            | some q =>
              rw [hq] at hcj; simp at hcj
              refine ⟨q, ?_, hcj⟩
              obtain ⟨hl, hg⟩ := List.getElem?_eq_some_iff.1 hq
              have hl' : j < b.size := by simpa using hl
              rw [getElem?_pos b j hl']
              congr 1
          obtain ⟨q, hq, rfl⟩ := hj
          exact .val s (u := .int .u8 q.toNat) (by simp [execOp, hop, Instr.index, asIntOf, e2, run_underlying hu, hu2, hq]) rfl
        · cases hv
      · cases hv
    · cases hv
  · cases hc

end
end Go.Proofs.Ytohjmflbgohkhaa.E
