/- What makes a block, told apart from the memory in which it is made. -/
import Derived.Test.YtohjmflbgohkhaaEngV
namespace Go.Proofs.Ytohjmflbgohkhaa.E
set_option linter.all false
open Go

section
variable {P : Program} {W : World} {μ : Mu} {h : AHeap} {w : World} {nt : Nat} {env : Env} {a : Act} {B : Base} {o : Oper} {ao : AOp} {v : AV} {h' : AHeap}

def NewOk (P : Program) (μ : Mu) (env : Env) (B : Base) (ao : AOp) (S : Sem Next) : Prop :=
  ∃ (cs : List AV) (c : Array Value) (t : TypeId) (mk : Nat → AV) (u : Nat → Value), (∀ h2 : AHeap, evalOp B env h2 ao = some (.val (mk h2.length) (h2 ++ [.cells cs]))) ∧
    (∀ w : World, S.run P w = .ok (.value (u w.heap.size)) (w.alloc (.cells c t))) ∧ VRs μ cs (c.toList.take cs.length) ∧ allOneP cs ∧ cs.length ≤ c.size ∧
    ∀ (μ2 : Mu) i n room, μ2 i = some ⟨n, 0, room⟩ → VR μ2 (mk i) (u n)

theorem cBin_kind {op t x y p q r} (h : cBin P op t x y p q = some r) : kindOf r = 0 := by
  unfold cBin at h
  (repeat' split at h) <;> first | (cases h; rfl) | (cases h; done)

theorem new_ok (hc : cOp P nt o = some ao) (hk : kindOf ao = 2) (he : EnvR μ nt env a.tmps) (hv : evalOp B env h ao = some (.val v h')) : NewOk P μ env B ao (execOp a.eval o) := by
  cases hop : o.op with
  | alloc e =>
    simp only [cOp, hop] at hc
    split at hc
    · rename_i z hz
      cases hc
      obtain ⟨zv, hr, hvs, hone⟩ := zeroB_run (P := P) hz default
      have hr' : ∀ w, (zeroValue e).run P w = .ok zv w := by
        intro w
        obtain ⟨zv', hr2, _⟩ := zeroB_run (P := P) hz w
        have : zv' = zv := by
          unfold zeroB at hz
          split at hz
          · rename_i i hi
            split at hz
            · rename_i v0 hv0
              simp [zeroValue, typeInfo, hi, hv0] at hr hr2
              rw [← hr, ← hr2]
            · cases hz
          · cases hz
        rw [← this]; exact hr2
      have hl := VRs.length (hvs μ)
      simp at hl
      refine ⟨z, zv.cells, e, fun i => .ptr (.own i) 0, fun n => .pointer (some ⟨n, 0, none⟩), fun h2 => by simp only [evalOp, rl_out], fun w => ?_, by rw [take_len (by simp [hl])]; exact hvs μ, hone, by omega, ?_⟩
      · simp [execOp, hop, Instr.alloc, hr', newVar, newRow]
      · intro μ2 i n room hi; exact ⟨⟨n, 0, none⟩, by simp [plOf, hi], rfl⟩
    · cases hc
  | box e x =>
    simp only [cOp, hop] at hc
    split at hc
    · rename_i y hy
      cases hc
      simp only [evalOp] at hv
      split at hv
      · rename_i l hl
        obtain ⟨hvs, hone⟩ := cells_ok (opd_ok (a := a) hy he) hl
        have hlen := VRs.length hvs
        simp at hlen
        refine ⟨l, (a.eval x).cells, e, fun i => .ptr (.own i) 0, fun n => .pointer (some ⟨n, 0, none⟩), fun h2 => by simp only [evalOp, hl], fun w => ?_, by rw [take_len (by simp [hlen])]; exact hvs, hone, by omega, ?_⟩
        · simp [execOp, hop, Instr.box, newVar, newRow]
        · intro μ2 i n room hi; exact ⟨⟨n, 0, none⟩, by simp [plOf, hi], rfl⟩
      · cases hv
    · cases hc
  | buildSlice t len parts =>
    simp only [cOp, hop] at hc
    split at hc
    · rename_i e hu
      split at hc
      · rename_i n z hn hz
        split at hc
        · rename_i l hl hzn
          cases hc
          simp only [evalOp] at hv
          split at hv
          · rename_i cs hf
            have hf0 := hf
            rw [rl_out] at hf
            simp at hzn
            obtain ⟨hzn, hbig⟩ := hzn
            have ZR : ∃ zv : Value, (∀ w, (zeroValue e).run P w = .ok zv w) ∧ (∀ μ, VRs μ z zv.cells.toList) ∧ allOneP z := by
              unfold zeroB at hz
              split at hz
              · rename_i i hi
                split at hz
                · rename_i v0 hv0
                  have := flatAll_ok hz
                  exact ⟨v0, fun w => by simp [zeroValue, typeInfo, hi, hv0], this.1, this.2⟩
                · cases hz
              · cases hz
            obtain ⟨zv, hr, hvs, hone⟩ := ZR
            have hzl := VRs.length (hvs μ)
            simp at hzl
            have CELLS : ∃ zc : Array Value, ((len * n = 0 ∧ zc = #[]) ∨ (len * n ≠ 0 ∧ zc = zv.cells)) ∧
                VRs μ (timesL len z) ((Array.range (len * n)).map (zc[· % zc.size]!)).toList := by
              by_cases hz0 : len * n = 0
              · refine ⟨#[], .inl ⟨hz0, rfl⟩, ?_⟩
                have : timesL len z = [] := List.eq_nil_of_length_eq_zero (by rw [timesL_length, hzn, hz0])
                rw [this, hz0]
                have : ((Array.range 0).map ((#[] : Array Value)[· % (#[] : Array Value).size]!)).toList = [] := by simp
                rw [this]; exact rfl
              · refine ⟨zv.cells, .inr ⟨hz0, rfl⟩, ?_⟩
                rw [show n = zv.cells.size by omega, range_mod _ (by rw [← hzl, hzn]; exact Nat.pos_of_ne_zero fun e => hz0 (by rw [e]; simp))]
                exact timesL_ok (hvs μ) len
            obtain ⟨zc, e0, e00⟩ := CELLS
            obtain ⟨c', e1, e2, e3⟩ := fill_ok he parts.toList l (timesL len z) cs _ (partsA_ok hl) hf e00 (timesL_one hone len)
            have hcl := VRs.length e2
            simp at hcl
            refine ⟨cs, c', e, fun i => .slice (.own i) 0 len len none, fun m => .slice (some ⟨m, 0, none⟩) len len, fun h2 => by simp only [evalOp, hf0], fun w => ?_, by rw [take_len (by simp [hcl])]; exact e2, e3, by omega, ?_⟩
            · simp only [execOp, hop, Instr.buildSlice, Sem.run_bind, run_underlying hu, Result.andThen_ok, sizeB_run hn]
              have e5 : (fun (x : Nat × Operand) => match x with | (i, x) => (i, a.eval x)) = fun p => (p.1, a.eval p.2) := rfl
              rcases e0 with ⟨q, rfl⟩ | ⟨q, rfl⟩
              · simp only [show ¬ (len * n > 2 ^ 24) by omega, if_false, if_pos q, Sem.run_bind, Sem.run_pure, Result.andThen_ok, Array.toList_map]
                rw [e5, e1]
                simp [newRow]
              · simp only [show ¬ (len * n > 2 ^ 24) by omega, if_false, if_neg q, Sem.run_bind, Sem.run_pure, hr, Result.andThen_ok, Array.toList_map]
                rw [e5, e1]
                simp [newRow]
            · intro μ2 i m room hi; exact ⟨Nat.le_refl _, ⟨m, 0, none⟩, rfl, .inl (by simp [plOf, hi])⟩
          · cases hv
        · cases hc
      · cases hc
    · cases hc
  | makeSlice t x y =>
    simp only [cOp, hop] at hc
    split at hc
    · rename_i e x' y' hu hx hy
      split at hc
      · rename_i i z hi hz
        split at hc
        · rename_i hzn
          cases hc
          simp only [evalOp] at hv
          split at hv
          · rename_i k1 l k2 c hl hcc
            split at hv
            · rename_i hb
              simp at hzn
              obtain ⟨hzn, hn0⟩ := hzn
              have hn0 : i.size ≠ 0 := by intro e; rw [e] at hn0; cases hn0
              have e1 := opd_ok (a := a) hx he
              have e2 := opd_ok (a := a) hy he
              rw [hl] at e1; rw [hcc] at e2
              have e1' : a.eval x = .int k1 (l : Int) := e1
              have e2' : a.eval y = .int k2 (c : Int) := e2
              have hb0 := hb
              simp only [Bool.and_eq_true] at hb
              obtain ⟨⟨hb1, hb2⟩, hb3⟩ := hb
              have hb1 := Nat.le_of_ble_eq_true hb1
              have hb2 := Nat.le_of_ble_eq_true hb2
              have hb3 := Nat.le_of_ble_eq_true hb3
              have ZR : ∃ zv : Value, i.zero = some zv ∧ (∀ μ, VRs μ z zv.cells.toList) ∧ allOneP z := by
                unfold zeroB at hz
                rw [hi] at hz
                simp only at hz
                split at hz
                · rename_i v0 hv0
                  have := flatAll_ok hz
                  exact ⟨v0, hv0, this.1, this.2⟩
                · cases hz
              obtain ⟨zv, hr, hvs, hone⟩ := ZR
              have hzl := VRs.length (hvs μ)
              simp at hzl
              have wl : IntKind.i64.wrap (l : Int) = l := IntWalk.i64_in _ ⟨by omega, by omega⟩
              have wc : IntKind.i64.wrap (c : Int) = c := IntWalk.i64_in _ ⟨by omega, by omega⟩
              have CELLS : ∃ zc : Array Value, ((c * i.size = 0 ∧ zc = #[]) ∨ (c * i.size ≠ 0 ∧ zc = zv.cells)) ∧ VRs μ (timesL c z) ((Array.range (c * i.size)).map (zc[· % zc.size]!)).toList := by
                by_cases hz0 : c * i.size = 0
                · refine ⟨#[], .inl ⟨hz0, rfl⟩, ?_⟩
                  have : timesL c z = [] := List.eq_nil_of_length_eq_zero (by rw [timesL_length, hzn, hz0])
                  rw [this, hz0]
                  have : ((Array.range 0).map ((#[] : Array Value)[· % (#[] : Array Value).size]!)).toList = [] := by simp
                  rw [this]; exact rfl
                · refine ⟨zv.cells, .inr ⟨hz0, rfl⟩, ?_⟩
                  rw [show i.size = zv.cells.size by omega, range_mod _ (by omega)]
                  exact timesL_ok (hvs μ) c
              obtain ⟨zc, e0, e00⟩ := CELLS
              have hcl := VRs.length e00
              simp at hcl
              refine ⟨timesL c z, (Array.range (c * i.size)).map (zc[· % zc.size]!), e, fun j => .slice (.own j) 0 l c none, fun m => .slice (some ⟨m, 0, none⟩) l c, fun h2 => ?_, fun w => ?_, by rw [take_len (by simp [hcl])]; exact e00, timesL_one hone c, by simp; omega, ?_⟩
              · simp only [evalOp, hl, hcc, hb0, rl_out]
              · have f1 : (decide ((c : Int) < 0) || decide ((i.bytes : Int) * (c : Int) > 2 ^ 48)) = false := by
                  have : (i.bytes : Int) * (c : Int) = ((c * i.bytes : Nat) : Int) := by rw [Nat.mul_comm]; simp
                  rw [this]
                  simp; omega
                have f2 : ¬ ((l : Int) < 0) := by omega
                have f3 : ¬ ((l : Int) > (c : Int)) := by omega
                rcases e0 with ⟨q, rfl⟩ | ⟨q, rfl⟩
                · simp only [execOp, hop, Instr.makeSlice, Sem.run_bind, run_underlying hu, Result.andThen_ok, asInt, e1', e2', asIntOf, Sem.run_pure, typeInfo, hi, run_program, wl, wc, f1, f2, f3]
                  simp [sizeOf, typeInfo, hi, q, newRow]
                · simp only [execOp, hop, Instr.makeSlice, Sem.run_bind, run_underlying hu, Result.andThen_ok, asInt, e1', e2', asIntOf, Sem.run_pure, typeInfo, hi, run_program, wl, wc, f1, f2, f3]
                  have q' : ¬ (c = 0 ∨ i.size = 0) := by
                    rintro (rfl | q2)
                    · exact q (by simp)
                    · exact hn0 q2
                  simp [sizeOf, typeInfo, hi, q', newRow, zeroValue, hr]
                  try (intro q2; exact absurd q2 q)
              · intro μ2 j m room hj; exact ⟨hb1, ⟨m, 0, none⟩, rfl, .inl (by simp [plOf, hj])⟩
            · cases hv
          · cases hv
        · cases hc
      · cases hc
    · cases hc
  | binOp op t x y ty =>
    exfalso
    simp only [cOp, hop] at hc
    split at hc
    · have := cBin_kind hc; rw [this] at hk; cases hk
    · cases hc
  | makeFunc fn x y =>
    exfalso
    cases fn <;> simp only [cOp, hop, reduceCtorEq] at hc
    split at hc <;> cases hc
    cases hk
  | call c =>
    exfalso
    cases hcal : c.callee with
    | builtin b =>
      simp only [cOp, hop, cCall, hcal] at hc
      (repeat' split at hc) <;> first | (cases hc; done) | (cases hc; simp [kindOf] at hk; done)
    | value f =>
      simp only [cOp, hop, cCall, hcal] at hc
      (repeat' split at hc) <;> first | (cases hc; done) | (cases hc; simp [kindOf] at hk; done)
    | invoke r n => simp [cOp, hop, cCall, hcal] at hc
  | _ =>
    exfalso
    simp only [cOp, hop] at hc
    try ((repeat' split at hc) <;> first | (cases hc; done) | (cases hc; simp [kindOf] at hk; done))

end
end Go.Proofs.Ytohjmflbgohkhaa.E
