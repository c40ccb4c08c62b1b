/- What an operation of the abstract machine looks at. -/
import Derived.Test.YtohjmflbgohkhaaEngU
namespace Go.Proofs.Ytohjmflbgohkhaa.E
set_option linter.all false
open Go

section
variable {P : Program} {nt : Nat} {e e' : Env} {h : AHeap} {B : Base} {o : Oper} {ao : AOp}

theorem opds_ev : ∀ {l : List Operand} {r}, opds nt l = some r → (∀ x ∈ l, ∀ y, opd nt x = some y → y.ev e = y.ev e') → evs e r = evs e' r
  | [], r, h, _ => by simp [opds] at h; subst h; rfl
  | x :: l, r, h, hag => by
    simp only [opds] at h
    split at h
    · rename_i y k h1 h2
      cases h
      simp only [evs]
      rw [hag x (by simp) y h1, opds_ev h2 fun z hz => hag z (by simp [hz])]
    · cases h

theorem fillL_ev : ∀ {l : List (Nat × Nat × Opd)} {cs : List AV}, (∀ q ∈ l, q.2.2.ev e = q.2.2.ev e') → fillL e cs l = fillL e' cs l
  | [], cs, _ => rfl
  | (off, n, x) :: l, cs, h => by
    simp only [fillL]
    rw [h (off, n, x) (by simp)]
    have ih : ∀ cs, fillL e cs l = fillL e' cs l := fun cs => fillL_ev fun q hq => h q (by simp [hq])
    simp only [ih]

theorem partsS_ev {fs : Array Field} : ∀ {ps : List (Nat × Operand)} {l}, partsS P nt fs ps = some l → (∀ x ∈ ps.map (·.2), ∀ y, opd nt x = some y → y.ev e = y.ev e') → ∀ q ∈ l, q.2.2.ev e = q.2.2.ev e'
  | [], l, h, _ => by simp [partsS] at h; subst h; simp
  | (i, x) :: r, l, h, hag => by
    simp only [partsS] at h
    split at h
    · rename_i f y k h1 h2 h3
      split at h
      · cases h
        intro q hq
        rcases List.mem_cons.1 hq with rfl | hq
        · exact hag x (by simp) _ h2
        · exact partsS_ev h3 (fun z hz => hag z (by simp at hz ⊢; exact .inr hz)) q hq
      · cases h
    · cases h

theorem partsA_ev {n : Nat} : ∀ {ps : List (Nat × Operand)} {l}, partsA nt n ps = some l → (∀ x ∈ ps.map (·.2), ∀ y, opd nt x = some y → y.ev e = y.ev e') → ∀ q ∈ l, q.2.2.ev e = q.2.2.ev e'
  | [], l, h, _ => by simp [partsA] at h; subst h; simp
  | (i, x) :: r, l, h, hag => by
    simp only [partsA] at h
    split at h
    · rename_i y k h2 h3
      cases h
      intro q hq
      rcases List.mem_cons.1 hq with rfl | hq
      · exact hag x (by simp) _ h2
      · exact partsA_ev h3 (fun z hz => hag z (by simp at hz ⊢; exact .inr hz)) q hq
    · cases h

theorem bound_ev {x : Option Operand} {y : Option Opd} (hx : opdO nt x = some y) (hag : ∀ z, x = some z → ∀ y, opd nt z = some y → y.ev e = y.ev e') (n : Nat) (d : Option Nat) : bound e y n d = bound e' y n d := by
  cases x with
  | none => simp [opdO] at hx; subst hx; rfl
  | some x =>
    simp only [opdO] at hx
    split at hx
    · rename_i z hz; cases hx
      simp only [bound]; rw [hag x rfl z hz]
    · cases hx

theorem bounds_ev {lo hi mx : Option Operand} {lo' hi' mx' : Option Opd} (h1 : opdO nt lo = some lo') (h2 : opdO nt hi = some hi') (h3 : opdO nt mx = some mx')
    (hag : ∀ z, (lo = some z ∨ hi = some z ∨ mx = some z) → ∀ y, opd nt z = some y → y.ev e = y.ev e') (len cap : Nat) : bounds e len cap lo' hi' mx' = bounds e' len cap lo' hi' mx' := by
  unfold bounds
  simp only [bound_ev h1 (fun z hz => hag z (.inl hz)), bound_ev h2 (fun z hz => hag z (.inr (.inl hz))), bound_ev h3 (fun z hz => hag z (.inr (.inr hz)))]

theorem evalOp_ev (hc : cOp P nt o = some ao) (hag : ∀ x ∈ o.op.operands, ∀ y, opd nt x = some y → y.ev e = y.ev e') : evalOp B e h ao = evalOp B e' h ao := by
  cases hop : o.op with
  | move x => rw [hop] at hag; simp only [cOp, hop] at hc; split at hc <;> cases hc; rename_i y hy; simp only [evalOp, hag x (by simp [Op.operands]) _ hy]
  | assign x => rw [hop] at hag; simp only [cOp, hop] at hc; split at hc <;> cases hc; rename_i y hy; simp only [evalOp, hag x (by simp [Op.operands]) _ hy]
  | pick c x y =>
    rw [hop] at hag; simp only [cOp, hop] at hc; split at hc <;> cases hc; rename_i h1 h2 h3
    simp only [evalOp, hag c (by simp [Op.operands]) _ h1, hag x (by simp [Op.operands]) _ h2, hag y (by simp [Op.operands]) _ h3]
  | alloc t => simp only [cOp, hop] at hc; split at hc <;> cases hc; rfl
  | box t x => rw [hop] at hag; simp only [cOp, hop] at hc; split at hc <;> cases hc; rename_i y hy; simp only [evalOp, hag x (by simp [Op.operands]) _ hy]
  | build t ps =>
    rw [hop] at hag; simp only [cOp, hop] at hc
    split at hc
    · split at hc <;> cases hc
      rename_i hl _
      simp only [evalOp]
      rw [fillL_ev (partsS_ev hl (by simpa [Op.operands] using hag))]
    · split at hc
      · split at hc <;> cases hc
        rename_i hl
        simp only [evalOp]
        rw [fillL_ev (partsA_ev hl (by simpa [Op.operands] using hag))]
      · cases hc
    · cases hc
  | buildSlice t n ps =>
    rw [hop] at hag; simp only [cOp, hop] at hc
    split at hc
    · split at hc
      · split at hc <;> cases hc
        rename_i hl _
        simp only [evalOp]
        rw [fillL_ev (partsA_ev hl (by simpa [Op.operands] using hag))]
      · cases hc
    · cases hc
  | load t x =>
    rw [hop] at hag; simp only [cOp, hop] at hc; split at hc
    · split at hc <;> cases hc
      rename_i h1 _ _; simp only [evalOp, hag x (by simp [Op.operands]) _ h1]
    · cases hc
  | store t x y =>
    rw [hop] at hag; simp only [cOp, hop] at hc; split at hc <;> cases hc
    rename_i h1 h2; simp only [evalOp, hag x (by simp [Op.operands]) _ h1, hag y (by simp [Op.operands]) _ h2]
  | nilCheck x => rw [hop] at hag; simp only [cOp, hop] at hc; split at hc <;> cases hc; rename_i y hy; simp only [evalOp, hag x (by simp [Op.operands]) _ hy]
  | binOp op t x y ty =>
    rw [hop] at hag; simp only [cOp, hop] at hc; split at hc
    · rename_i x' y' h1 h2
      have e1 := hag x (by simp [Op.operands]) _ h1
      have e2 := hag y (by simp [Op.operands]) _ h2
      unfold cBin at hc
      (repeat' split at hc) <;> first | (cases hc; done) | (cases hc; simp only [evalOp, e1, e2])
    · cases hc
  | unOp op t x => rw [hop] at hag; simp only [cOp, hop] at hc; split at hc <;> cases hc; rename_i y hy; simp only [evalOp, hag x (by simp [Op.operands]) _ hy]
  | convert t d x =>
    rw [hop] at hag
    have ex : ∀ y, opd nt x = some y → y.ev e = y.ev e' := hag x (by simp [Op.operands])
    simp only [cOp, hop] at hc
    split at hc
    · rename_i h1; cases hc; simp only [evalOp, ex _ h1]
    · rename_i h1; cases hc; simp only [evalOp, ex _ h1]
    · rename_i h1; split at hc <;> cases hc; simp only [evalOp, ex _ h1]
    · rename_i h1; split at hc <;> cases hc; simp only [evalOp, ex _ h1]
    · cases hc
  | makeFunc f x y =>
    rw [hop] at hag
    cases f <;> simp only [cOp, hop, reduceCtorEq] at hc
    split at hc <;> cases hc
    rename_i hl
    simp only [evalOp, opds_ev hl (fun z hz => hag z (by simp [Op.operands]; exact .inr (by simpa using hz)))]
  | makeSlice t x y =>
    rw [hop] at hag; simp only [cOp, hop] at hc
    split at hc
    · rename_i h1 h2
      split at hc
      · split at hc <;> cases hc
        simp only [evalOp, hag x (by simp [Op.operands]) _ h1, hag y (by simp [Op.operands]) _ h2]
      · cases hc
    · cases hc
  | slice t x lo hi mx =>
    rw [hop] at hag; simp only [cOp, hop] at hc
    split at hc
    · rename_i x' lo' hi' mx' h0 h1 h2 h3
      have e0 := hag x (by simp [Op.operands]) _ h0
      have eb := fun len cap => bounds_ev (e := e) (e' := e') h1 h2 h3 (fun z hz => hag z (by rcases hz with rfl | rfl | rfl <;> simp [Op.operands])) len cap
      split at hc
      · split at hc <;> cases hc
        simp only [evalOp, e0, eb]
      · split at hc <;> cases hc
        have eb2 : ∀ len cap, bounds e len cap lo' hi' none = bounds e' len cap lo' hi' none := eb
        simp only [evalOp, e0, eb2]
      · split at hc <;> cases hc
        simp only [evalOp, e0, eb]
      · split at hc
        · split at hc <;> cases hc
          simp only [evalOp, e0, eb]
        · cases hc
      · cases hc
    · cases hc
  | fieldAddr t x i =>
    rw [hop] at hag; simp only [cOp, hop] at hc; split at hc
    · rename_i h1
      split at hc
      · split at hc
        · split at hc <;> cases hc
          simp only [evalOp, hag x (by simp [Op.operands]) _ h1]
        · cases hc
      · cases hc
    · cases hc
  | field t x i =>
    rw [hop] at hag; simp only [cOp, hop] at hc; split at hc
    · rename_i h1
      split at hc
      · split at hc <;> cases hc
        simp only [evalOp, hag x (by simp [Op.operands]) _ h1]
      · cases hc
    · cases hc
  | indexAddr t x y =>
    rw [hop] at hag; simp only [cOp, hop] at hc; split at hc
    · rename_i h1 h2; split at hc <;> cases hc; simp only [evalOp, hag x (by simp [Op.operands]) _ h1, hag y (by simp [Op.operands]) _ h2]
    · rename_i h1 h2; split at hc <;> cases hc; simp only [evalOp, hag x (by simp [Op.operands]) _ h1, hag y (by simp [Op.operands]) _ h2]
    · cases hc
  | index t x y =>
    rw [hop] at hag; simp only [cOp, hop] at hc; split at hc
    · rename_i h1 h2; split at hc <;> cases hc; simp only [evalOp, hag x (by simp [Op.operands]) _ h1, hag y (by simp [Op.operands]) _ h2]
    · rename_i h1 h2; cases hc; simp only [evalOp, hag x (by simp [Op.operands]) _ h1, hag y (by simp [Op.operands]) _ h2]
    · cases hc
  | extract x i => rw [hop] at hag; simp only [cOp, hop] at hc; split at hc <;> cases hc; rename_i y hy; simp only [evalOp, hag x (by simp [Op.operands]) _ hy]
  | call c =>
    rw [hop] at hag
    have ea : ∀ r, opds nt c.args.toList = some r → evs e r = evs e' r := fun r hr => opds_ev hr fun z hz => hag z (by simp [Op.operands, Call.operands]; exact .inr (by simpa using hz))
    have e1 : ∀ y, opds nt c.args.toList = some [y] → y.ev e = y.ev e' := fun y hy => by have := ea _ hy; simpa [evs] using this
    have e2 : ∀ y z, opds nt c.args.toList = some [y, z] → y.ev e = y.ev e' ∧ z.ev e = z.ev e' := fun y z hy => by have := ea _ hy; simpa [evs] using this
    cases hcal : c.callee with
    | value f =>
      simp only [cOp, hop, cCall, hcal] at hc
      split at hc
      · rename_i r hr
        split at hc
        · cases hc; simp only [evalOp, ea _ hr]
        · split at hc
          · rename_i y hy
            cases hc
            have := hag f (by simp [Op.operands, Call.operands, hcal]) y hy
            simp only [evalOp, ea _ hr, this]
          · cases hc
      · cases hc
    | builtin b =>
      simp only [cOp, hop, cCall, hcal] at hc
      split at hc
      · rename_i r hr
        cases b <;> simp only [reduceCtorEq] at hc <;> (repeat' split at hc) <;> first
          | (cases hc; done)
          | (cases hc; simp only [evalOp, ea _ hr]; done)
          | (cases hc; simp only [evalOp, (e2 _ _ hr).1, (e2 _ _ hr).2]; done)
          | (cases hc; simp only [evalOp, e1 _ hr]; done)
          | (cases hc; rfl)
      · cases hc
    | invoke r n => simp [cOp, hop, cCall, hcal] at hc
  | _ => simp [cOp, hop] at hc

/- what only computes says the same whatever the memory; what reads, wherever it reads the same -/
theorem evalOp_pure {v h'} (hk : kindOf ao = 0) (hv : evalOp B e h ao = some (.val v h')) : h' = h ∧ ∀ h2, evalOp B e h2 ao = some (.val v h2) := by
  cases ao <;> (first | (exfalso; revert hk; simp [kindOf]; done) | skip) <;> simp only [evalOp] at hv ⊢ <;> (repeat' split at hv) <;> first
    | (cases hv; done)
    | (simp only [Option.some.injEq, ARes.val.injEq] at hv; obtain ⟨rfl, rfl⟩ := hv; exact ⟨rfl, fun h2 => by simp [*]⟩)

theorem loadN_ext {h2 : AHeap} (hh : ∀ i, i < h.length → h2[i]? = h[i]?) {b o n l} (hl : loadN B h b o n = some l) : loadN B h2 b o n = some l := by
  cases b with
  | base b => exact hl
  | own i =>
    simp only [loadN] at hl ⊢
    split at hl
    · rename_i cs hcs
      have hi := hcells_eq hcs
      have : hcells h2 i = some cs := by unfold hcells; rw [hh i (List.getElem?_eq_some_iff.1 hi).1, hi]
      rw [this]; exact hl
    · cases hl

theorem srcCells_ext {h2 : AHeap} (hh : ∀ i, i < h.length → h2[i]? = h[i]?) {x es n l} (hl : srcCells B h es x = some (n, l)) : srcCells B h2 es x = some (n, l) := by
  cases x <;> simp only [srcCells] at hl ⊢ <;> try exact hl
  split at hl
  · rename_i k hk; rw [loadN_ext hh hk]; exact hl
  · cases hl

theorem evalOp_read {v h'} (hk : kindOf ao = 1) (hv : evalOp B e h ao = some (.val v h')) : h' = h ∧ ∀ h2 : AHeap, (∀ i, i < h.length → h2[i]? = h[i]?) → evalOp B e h2 ao = some (.val v h2) := by
  cases ao <;> (first | (exfalso; revert hk; simp [kindOf]; done) | skip)
  case load g n x =>
    simp only [evalOp] at hv ⊢
    split at hv
    · rename_i b off hx
      split at hv
      · rename_i l hl
        have key : ∀ h2 : AHeap, (∀ i, i < h.length → h2[i]? = h[i]?) → loadN B h2 b off n = some l := fun h2 hh => loadN_ext hh hl
        cases g with
        | true =>
          simp only [Option.some.injEq, ARes.val.injEq] at hv
          obtain ⟨rfl, rfl⟩ := hv
          exact ⟨rfl, fun h2 hh => by simp [hx, key h2 hh]⟩
        | false =>
          simp only at hv
          split at hv
          · simp only [Option.some.injEq, ARes.val.injEq] at hv
            obtain ⟨rfl, rfl⟩ := hv
            exact ⟨rfl, fun h2 hh => by simp [hx, key h2 hh]⟩
          · cases hv
      · cases hv
    · cases hv
  case bytesToStr x =>
    simp only [evalOp] at hv ⊢
    split at hv
    · cases hv
    · rename_i hns
      split at hv
      · rename_i n cs hsrc
        split at hv
        · rename_i l hl
          simp only [Option.some.injEq, ARes.val.injEq] at hv
          obtain ⟨rfl, rfl⟩ := hv
          refine ⟨rfl, fun h2 hh => ?_⟩
          rw [srcCells_ext hh hsrc]; simp [hl]
        · cases hv
      · cases hv

end
end Go.Proofs.Ytohjmflbgohkhaa.E
