/- Slicing, appending, copying, clearing. -/
import Derived.Test.YtohjmflbgohkhaaEngI
namespace Go.Proofs.Ytohjmflbgohkhaa.E
set_option linter.all false
open Go

section
variable {P : Program} {W : World} {μ : Mu} {h : AHeap} {w : World} {nt : Nat} {env : Env} {a : Act} {B : Base}

theorem opdO_ok (he : EnvR μ nt env a.tmps) {x : Option Operand} {y : Option Opd} (h : opdO nt x = some y) :
    (x = none ∧ y = none) ∨ (∃ x' y', x = some x' ∧ y = some y' ∧ VR μ (y'.ev env) (a.eval x')) := by
  cases x with
  | none => simp [opdO] at h; exact .inl ⟨rfl, h.symm⟩
  | some x =>
    simp only [opdO] at h
    split at h
    · rename_i z hz; cases h; exact .inr ⟨x, z, rfl, rfl, opd_ok hz he⟩
    · cases h

theorem bound_run {x : Value} {y : AV} {top r : Nat} (hv : VR μ y x) (hb : boundV top y = some r) (top' : Nat) (ht : top ≤ top') (code : BoundsCode) :
    (Instr.sliceBound x top' code).run P w = .ok r w ∧ r ≤ top := by
  cases y <;> simp only [boundV, reduceCtorEq] at hb
  rename_i k n
  obtain ⟨rfl, hl⟩ := upTo_eq hb
  have hx : x = .int k r := hv
  subst hx
  exact ⟨by rw [run_sliceBound (P := P) w k r top' code (by omega) (by omega)]; simp, hl⟩

/- the three bounds; the model's own capacity may be greater than what is known -/
theorem bounds_ok (he : EnvR μ nt env a.tmps) {lo hi mx : Option Operand} {lo' hi' mx' : Option Opd} (h1 : opdO nt lo = some lo') (h2 : opdO nt hi = some hi') (h3 : opdO nt mx = some mx')
    {len cap l hh m : Nat} (hb : bounds env len cap lo' hi' mx' = some (l, hh, m)) (isS : Bool) (len' cap' : Nat) (hlen : len' = len) (hcap : cap ≤ cap') (hlc : len ≤ cap) :
    ∃ m', (Instr.sliceBounds isS len' cap' (lo.map a.eval) (hi.map a.eval) (mx.map a.eval)).run P w = .ok (l, hh, m') w ∧ l ≤ hh ∧ hh ≤ m ∧ m ≤ m' ∧ m ≤ cap ∧ (mx' ≠ none → m' = m) ∧ (mx' = none → m = cap ∧ m' = cap') := by
  subst hlen
  unfold bounds at hb
  cases hm : bound env mx' cap (some cap) with
  | none => rw [hm] at hb; simp at hb
  | some m0 =>
    rw [hm] at hb; simp only at hb
    cases hhi : bound env hi' m0 (hiD len' mx') with
    | none => rw [hhi] at hb; simp at hb
    | some h0 =>
      rw [hhi] at hb; simp only at hb
      cases hlo : bound env lo' h0 (some 0) with
      | none => rw [hlo] at hb; simp at hb
      | some l0 =>
        rw [hlo] at hb; cases hb
        have MX : ∃ m', (match mx.map a.eval with | some v => Instr.sliceBound v cap' (if isS then .slice3Acap else .slice3Alen) | none => pure cap').run P w = .ok m' w ∧ m ≤ m' ∧ m ≤ cap ∧ (mx' ≠ none → m' = m) ∧ (mx' = none → m = cap ∧ m' = cap') := by
          rcases opdO_ok he h3 with ⟨rfl, rfl⟩ | ⟨x, y, rfl, rfl, hv⟩
          · simp [bound] at hm; subst hm
            exact ⟨cap', rfl, hcap, Nat.le_refl _, by simp, by simp⟩
          · simp only [bound] at hm
            obtain ⟨e, hl⟩ := bound_run (P := P) (w := w) hv hm cap' hcap (if isS then .slice3Acap else .slice3Alen)
            exact ⟨m, e, Nat.le_refl _, hl, by simp, by simp⟩
        obtain ⟨m', em, g1, g2, g3, g4⟩ := MX
        have HI : (match hi.map a.eval, mx.map a.eval with
            | some v, some _ => Instr.sliceBound v m' .slice3B
            | some v, none => Instr.sliceBound v m' (if isS then .sliceAcap else .sliceAlen)
            | none, none => pure len'
            | none, some _ => stuck "Slice: max without high").run P w = .ok hh w ∧ hh ≤ m := by
          rcases opdO_ok he h2 with ⟨rfl, rfl⟩ | ⟨x, y, rfl, rfl, hv⟩
          · rcases opdO_ok he h3 with ⟨rfl, rfl⟩ | ⟨x, y, rfl, rfl, hv⟩
            · simp only [bound, hiD, Option.some.injEq] at hhi; subst hhi
              have := g4 rfl; exact ⟨rfl, by omega⟩
            · simp [bound, hiD] at hhi
          · simp only [bound] at hhi
            rcases opdO_ok he h3 with ⟨rfl, rfl⟩ | ⟨x', y', rfl, rfl, hv'⟩
            · exact bound_run (P := P) (w := w) hv hhi m' g1 (if isS then .sliceAcap else .sliceAlen)
            · exact bound_run (P := P) (w := w) hv hhi m' g1 .slice3B
        have LO : (match lo.map a.eval with | some v => Instr.sliceBound v hh (if (mx.map a.eval).isSome then .slice3C else .sliceB) | none => pure 0).run P w = .ok l w ∧ l ≤ hh := by
          rcases opdO_ok he h1 with ⟨rfl, rfl⟩ | ⟨x, y, rfl, rfl, hv⟩
          · simp [bound] at hlo; subst hlo; exact ⟨rfl, by omega⟩
          · simp only [bound] at hlo
            exact bound_run (P := P) (w := w) hv hlo hh (Nat.le_refl _) (if (mx.map a.eval).isSome then .slice3C else .sliceB)
        refine ⟨m', ?_, LO.2, HI.2, g1, g2, g3, g4⟩
        obtain ⟨HI, _⟩ := HI
        obtain ⟨LO, _⟩ := LO
        unfold Instr.sliceBounds
        clear h1 h2 h3
        rcases lo with _ | lo <;> rcases hi with _ | hi <;> rcases mx with _ | mx <;> simp only [Option.map_none, Option.map_some] at em HI LO ⊢ <;>
          simp only [Sem.run_bind, em, Result.andThen_ok, HI, LO, Sem.run_pure] <;> first
          | (simp at HI; done)
          | (simp at em LO HI; subst em; simp [LO, HI]; done)
          | (simp at LO; subst LO; simp; done)
          | skip

end
end Go.Proofs.Ytohjmflbgohkhaa.E
