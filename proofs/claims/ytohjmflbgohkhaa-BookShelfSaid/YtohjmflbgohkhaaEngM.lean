/- Each operation of the code, compiled: what the abstract machine computes, the model does. -/
import Derived.Test.YtohjmflbgohkhaaEngL
namespace Go.Proofs.Ytohjmflbgohkhaa.E
set_option linter.all false
open Go

section
variable {P : Program} {W : World} {μ : Mu} {h : AHeap} {w : World} {nt : Nat} {env : Env} {a : Act} {B : Base} {o : Oper} {ao : AOp} {v : AV} {h' : AHeap}

theorem om_mv (s : Sim W μ h w) (he : EnvR μ nt env a.tmps) {x : Operand} (hop : o.op = .move x ∨ o.op = .assign x) (hc : cOp P nt o = some ao) (hv : evalOp B env h ao = some (.val v h')) :
    OpOk P W μ h w (execOp a.eval o) v h' ao := by
  have hc' : (match opd nt x with | some a => some (AOp.mv a) | none => none) = some ao := by rcases hop with e | e <;> (simp only [cOp, e] at hc; exact hc)
  split at hc'
  · rename_i y hy
    cases hc'
    simp only [evalOp, Option.some.injEq, ARes.val.injEq] at hv
    obtain ⟨rfl, rfl⟩ := hv
    refine .val s ?_ (opd_ok hy he)
    rcases hop with e | e <;> simp [execOp, e]
  · cases hc'

theorem om_pick (s : Sim W μ h w) (he : EnvR μ nt env a.tmps) {c x y : Operand} (hop : o.op = .pick c x y) (hc : cOp P nt o = some ao) (hv : evalOp B env h ao = some (.val v h')) :
    OpOk P W μ h w (execOp a.eval o) v h' ao := by
  simp only [cOp, hop] at hc
  split at hc
  · rename_i c' x' y' h1 h2 h3
    cases hc
    simp only [evalOp] at hv
    split at hv
    · rename_i t ht
      simp only [Option.some.injEq, ARes.val.injEq] at hv
      obtain ⟨rfl, rfl⟩ := hv
      have e1 := opd_ok (a := a) h1 he
      rw [ht] at e1
      have e1 : a.eval c = .bool t := e1
      refine .val s (u := if t then a.eval x else a.eval y) (by simp [execOp, hop, asBool, e1]) ?_
      cases t
      · exact opd_ok h3 he
      · exact opd_ok h2 he
    · cases hv
  · cases hc

theorem om_alloc (s : Sim W μ h w) {e : TypeId} (hop : o.op = .alloc e) (hc : cOp P nt o = some ao) (hv : evalOp B env h ao = some (.val v h')) :
    OpOk P W μ h w (execOp a.eval o) v h' ao := by
  simp only [cOp, hop] at hc
  split at hc
  · rename_i z hz
    cases hc
    simp only [evalOp, Option.some.injEq, ARes.val.injEq] at hv
    obtain ⟨rfl, rfl⟩ := hv
    obtain ⟨zv, hr, hvs, hone⟩ := zeroB_run hz w
    rw [rl_out]
    have hl := VRs.length (hvs μ)
    simp at hl
    have st := Stp.new (t := e) s (cs := z) (c := zv.cells) (by rw [take_len (by simp [hl])]; exact hvs μ) hone (by omega)
    refine ⟨_, .pointer (some ⟨w.heap.size, 0, none⟩), _, .inl ?_, ?_, st, by simp [kindOf]⟩
    · simp [execOp, hop, Instr.alloc, hr, newVar, newRow]
    · exact ⟨_, by simp [plOf, muNew]; rfl, by simp⟩
  · cases hc

theorem om_box (s : Sim W μ h w) (he : EnvR μ nt env a.tmps) {e : TypeId} {x : Operand} (hop : o.op = .box e x) (hc : cOp P nt o = some ao) (hv : evalOp B env h ao = some (.val v h')) :
    OpOk P W μ h w (execOp a.eval o) v h' ao := by
  simp only [cOp, hop] at hc
  split at hc
  · rename_i y hy
    cases hc
    simp only [evalOp] at hv
    split at hv
    · rename_i l hl
      simp only [Option.some.injEq, ARes.val.injEq] at hv
      obtain ⟨rfl, rfl⟩ := hv
      obtain ⟨hvs, hone⟩ := cells_ok (opd_ok (a := a) hy he) hl
      have hlen := VRs.length hvs
      simp at hlen
      have st := Stp.new (t := e) s (cs := l) (c := (a.eval x).cells) (by rw [take_len (by simp [hlen])]; exact hvs) hone (by omega)
      refine ⟨_, .pointer (some ⟨w.heap.size, 0, none⟩), _, .inl ?_, ?_, st, by simp [kindOf]⟩
      · simp [execOp, hop, Instr.box, newVar, newRow]
      · exact ⟨_, by simp [plOf, muNew]; rfl, by simp⟩
    · cases hv
  · cases hc

theorem partsS_ok {fs : Array Field} {place : Nat → Option (Nat × Nat)} (hp : ∀ (i : Nat) (f : Field) (n : Nat), fs[i]? = some f → sizeB P f.type = some n → place i = some (f.offset, n)) :
    ∀ {parts : List (Nat × Operand)} {l}, partsS P nt fs parts = some l → PartsR nt place parts l
  | [], l, h => by simp [partsS] at h; subst h; exact trivial
  | (i, x) :: r, l, h => by
    simp only [partsS] at h
    split at h
    · rename_i f y k h1 h2 h3
      split at h
      · rename_i n hn
        cases h
        exact ⟨hp i f n h1 hn, h2, partsS_ok hp h3⟩
      · cases h
    · cases h

theorem partsA_ok {n : Nat} : ∀ {parts : List (Nat × Operand)} {l}, partsA nt n parts = some l → PartsR nt (fun i => some (i * n, n)) parts l
  | [], l, h => by simp [partsA] at h; subst h; exact trivial
  | (i, x) :: r, l, h => by
    simp only [partsA] at h
    split at h
    · rename_i y k h2 h3
      cases h
      exact ⟨rfl, h2, partsA_ok h3⟩
    · cases h

def placeS (f : Field) : Sem (Nat × Nat) := do pure (f.offset, ← sizeOf f.type)

theorem run_places (w : World) : ∀ (l : List Field), (∀ f ∈ l, (sizeB P f.type).isSome = true) →
    ∃ r : List (Nat × Nat), (l.mapM placeS).run P w = .ok r w ∧ r.length = l.length ∧
      ∀ (i : Nat) (f : Field) (n : Nat), l[i]? = some f → sizeB P f.type = some n → r[i]? = some (f.offset, n)
  | [], _ => ⟨[], by simp, rfl, by simp⟩
  | f :: l, hl => by
    obtain ⟨r, h1, h2, h3⟩ := run_places w l (fun g hg => hl g (by simp [hg]))
    have := hl f (by simp)
    obtain ⟨n, hn⟩ := Option.isSome_iff_exists.1 this
    refine ⟨(f.offset, n) :: r, ?_, by simp [h2], ?_⟩
    · have h0 : (placeS f).run P w = .ok (f.offset, n) w := by simp [placeS, sizeB_run hn]
      simp [List.mapM_cons, h0, h1]
    · intro i g m hg hm
      cases i with
      | zero => simp at hg; subst hg; rw [hn] at hm; cases hm; rfl
      | succ i => simpa using h3 i g m (by simpa using hg) hm

theorem om_build (s : Sim W μ h w) (he : EnvR μ nt env a.tmps) {t : TypeId} {parts} (hop : o.op = .build t parts) (hc : cOp P nt o = some ao) (hv : evalOp B env h ao = some (.val v h')) :
    OpOk P W μ h w (execOp a.eval o) v h' ao := by
  simp only [cOp, hop] at hc
  split at hc
  · rename_i fs z hu hz
    split at hc
    · rename_i l hl hall
      cases hc
      simp only [evalOp] at hv
      split at hv
      · rename_i cs hf
        simp only [Option.some.injEq, ARes.val.injEq] at hv
        obtain ⟨rfl, rfl⟩ := hv
        rw [rl_out] at hf
        obtain ⟨zv, hr, hvs, hone⟩ := zeroB_run hz w
        obtain ⟨r, h1, h2, h3⟩ := run_places (P := P) w fs.toList (fun f hf => List.all_eq_true.1 hall f hf)
        have hm : (fs.mapM placeS).run P w = .ok r.toArray w := by
          rw [Array.mapM_eq_mapM_toList]; simp only [Sem.run_map, h1, Result.andThen_ok]
        unfold placeS at hm
        obtain ⟨c', e1, e2, e3⟩ := fill_ok (place := (r.toArray[·]?)) he parts.toList l z cs zv.cells (partsS_ok (P := P) (fs := fs) (by
          intro i f n hi hn
          have := h3 i f n (by simpa using hi) hn
          simpa using this) hl) hf (hvs μ) hone
        refine .val s (u := .agg c') ?_ ⟨c', rfl, e2, e3⟩
        simp only [execOp, hop, Instr.build, Sem.run_bind, hr, Result.andThen_ok, run_underlying hu, hm, Array.toList_map]
        have e5 : (fun (x : Nat × Operand) => match x with | (i, x) => (i, a.eval x)) = fun p => (p.1, a.eval p.2) := rfl
        rw [e5, e1]
        simp
      · cases hv
    · cases hc
  · rename_i len e z hu hz
    split at hc
    · rename_i n hn
      split at hc
      · rename_i l hl
        cases hc
        simp only [evalOp] at hv
        split at hv
        · rename_i cs hf
          simp only [Option.some.injEq, ARes.val.injEq] at hv
          obtain ⟨rfl, rfl⟩ := hv
          rw [rl_out] at hf
          obtain ⟨zv, hr, hvs, hone⟩ := zeroB_run hz w
          obtain ⟨c', e1, e2, e3⟩ := fill_ok he parts.toList l z cs zv.cells (partsA_ok hl) hf (hvs μ) hone
          refine .val s (u := .agg c') ?_ ⟨c', rfl, e2, e3⟩
          simp only [execOp, hop, Instr.build, Sem.run_bind, hr, Result.andThen_ok, run_underlying hu, sizeB_run hn, Array.toList_map]
          have e5 : (fun (x : Nat × Operand) => match x with | (i, x) => (i, a.eval x)) = fun p => (p.1, a.eval p.2) := rfl
          rw [e5, e1]
          simp
        · cases hv
      · cases hc
    · cases hc
  · cases hc

theorem om_buildSlice (s : Sim W μ h w) (he : EnvR μ nt env a.tmps) {t : TypeId} {len parts} (hop : o.op = .buildSlice t len parts) (hc : cOp P nt o = some ao) (hv : evalOp B env h ao = some (.val v h')) :
    OpOk P W μ h w (execOp a.eval o) v h' ao := by
  simp only [cOp, hop] at hc
  split at hc
  · rename_i e hu
    split at hc
    · rename_i n z hn hz
      split at hc
      · rename_i l hl hzn
        cases hc
        simp only [evalOp] at hv
        split at hv
        · rename_i cs hf
          simp only [Option.some.injEq, ARes.val.injEq] at hv
          obtain ⟨rfl, rfl⟩ := hv
          rw [rl_out] at hf
          simp at hzn
          obtain ⟨hzn, hbig⟩ := hzn
          obtain ⟨zv, hr, hvs, hone⟩ := zeroB_run hz w
          have hzl := VRs.length (hvs μ)
          simp at hzl
          have CELLS : ∃ zc : Array Value, ((len * n = 0 ∧ zc = #[]) ∨ (len * n ≠ 0 ∧ zc = zv.cells)) ∧
              VRs μ (timesL len z) ((Array.range (len * n)).map (zc[· % zc.size]!)).toList := by
            by_cases hz0 : len * n = 0
            · refine ⟨#[], .inl ⟨hz0, rfl⟩, ?_⟩
              have : timesL len z = [] := List.eq_nil_of_length_eq_zero (by rw [timesL_length, hzn, hz0])
              rw [this, hz0]
              have : ((Array.range 0).map ((#[] : Array Value)[· % (#[] : Array Value).size]!)).toList = [] := by simp
              rw [this]; exact rfl
            · refine ⟨zv.cells, .inr ⟨hz0, rfl⟩, ?_⟩
              rw [show n = zv.cells.size by omega, range_mod _ (by rw [← hzl, hzn]; exact Nat.pos_of_ne_zero fun e => hz0 (by rw [e]; simp))]
              exact timesL_ok (hvs μ) len
          obtain ⟨zc, e0, e00⟩ := CELLS
          obtain ⟨c', e1, e2, e3⟩ := fill_ok he parts.toList l (timesL len z) cs _ (partsA_ok hl) hf e00 (timesL_one hone len)
          have hcl := VRs.length e2
          simp at hcl
          have st := Stp.new (t := e) s (cs := cs) (c := c') (by rw [take_len (by simp [hcl])]; exact e2) e3 (by omega)
          refine ⟨_, .slice (some ⟨w.heap.size, 0, none⟩) len len, _, .inl ?_, ?_, st, by simp [kindOf]⟩
          · have hb2 : ¬ (16777216 < len * n) := by omega
            simp only [execOp, hop, Instr.buildSlice, Sem.run_bind, run_underlying hu, Result.andThen_ok, sizeB_run hn]
            have e5 : (fun (x : Nat × Operand) => match x with | (i, x) => (i, a.eval x)) = fun p => (p.1, a.eval p.2) := rfl
            rcases e0 with ⟨q, rfl⟩ | ⟨q, rfl⟩
            · simp only [show ¬ (len * n > 2 ^ 24) by omega, if_false, if_pos q, Sem.run_bind, Sem.run_pure, Result.andThen_ok, Array.toList_map]
              rw [e5, e1]
              simp [newRow]
            · simp only [show ¬ (len * n > 2 ^ 24) by omega, if_false, if_neg q, Sem.run_bind, Sem.run_pure, hr, Result.andThen_ok, Array.toList_map]
              rw [e5, e1]
              simp [newRow]
          · exact ⟨Nat.le_refl _, _, rfl, .inl (by simp [plOf, muNew])⟩
        · cases hv
      · cases hc
    · cases hc
  · cases hc

end
end Go.Proofs.Ytohjmflbgohkhaa.E
