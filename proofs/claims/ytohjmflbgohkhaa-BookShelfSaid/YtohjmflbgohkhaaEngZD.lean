/- Regions that draw their order: each step keeps the invariant. -/
import Derived.Test.YtohjmflbgohkhaaEngZC
namespace Go.Proofs.Ytohjmflbgohkhaa.E
set_option linter.all false
open Go

section
variable {P : Program} {W : World} {B : Base} {G : Nat → Option AFunc} {rec : Exec} {nt : Nat} {opsA : Array Oper} {its : List (Nat × Oper × AOper)} {l : List AOper} {E : Nat → Env} {H : Nat → AHeap} {μ0 : Mu} {w0 : World} {a0 : Act}
variable {listed : Array Bool} {a : Act} {w : World} {μ : Mu} {q pn : Nat} {HS : AHeap} {lb : Nat → Nat}

/- the next place in the order that is laid is nothing that writes: go past it -/
theorem Ctx.advance (C : Ctx P W B G rec nt opsA its l E H μ0 w0 a0) (I : Inv W B nt opsA its E H μ0 w0 a0 listed a w μ q pn HS lb) {x : Nat × Oper × AOper} (hx : its[pn]? = some x) (hk : akind x.2.2 ≠ 3) :
    ∃ μ' HS', Inv W B nt opsA its E H μ0 w0 a0 listed a w μ' q (pn + 1) HS' lb := by
  have hpl : pn < its.length := (List.getElem?_eq_some_iff.1 hx).1
  by_cases hk2 : akind x.2.2 = 2
  · obtain ⟨ao, d, cs, mk, hx2, _, hcop, hdst, _, hall, hH, hE⟩ := C.heap2 hx hk2
    have hqle : (H q).length ≤ HS.length := by
      by_cases h0 : (H q).length = 0
      · omega
      · have := I.hq ((H q).length - 1) (by omega)
        have h2 : (H q)[(H q).length - 1]? = some (H q)[(H q).length - 1] := List.getElem?_eq_getElem (by omega)
        rw [h2] at this
        have := (List.getElem?_eq_some_iff.1 this).1
        omega
    have hlen := I.hlen
    have intl : ∀ r, q ≤ r → r < pn → ∀ i, (H r).length ≤ i → i < (H (r + 1)).length → i < HS.length := by
      intro r hr1 hr2 i hi1 hi2
      by_cases hS : inS its listed r
      · have := I.hin r hr1 hr2 hS i hi1 hi2
        rw [List.getElem?_eq_getElem (show i < (H (r + 1)).length from hi2)] at this
        exact (List.getElem?_eq_some_iff.1 this).1
      · have := (I.hout r hr1 hr2 hS i hi1 hi2).1
        exact (List.getElem?_eq_some_iff.1 this).1
    by_cases hS : inS its listed pn
    · obtain ⟨_, cs', c, ty, mk', u, hall', hb0, hbw, hnb, hwb, hvs, hone, hle, hmk, htm⟩ := I.lt pn x (Nat.le_refl _) hx hS
      rw [hx2] at hall'
      simp only at hall'
      have hcs : cs' = cs := by
        have h1 := hall []
        have h2 := hall' []
        rw [h1] at h2
        simp only [Option.some.injEq, ARes.val.injEq, List.nil_append, List.cons.injEq, AObj.cells.injEq] at h2
        exact h2.2.1.symm
      subst hcs
      have hmke : mk' (H pn).length = mk (H pn).length := by
        have h1 := hall (H pn)
        have h2 := hall' (H pn)
        rw [h1] at h2
        simp only [Option.some.injEq, ARes.val.injEq] at h2
        exact h2.1.symm
      have pd := I.stp.pad
      have hμn : μ HS.length = none := by
        cases h : μ HS.length with
        | none => rfl
        | some pl => have := (I.stp.sim.place _ _ h).1; omega
      have rg := Stp.reg pd (i := HS.length) (b := lb pn) (cs := cs') (c := c) (ty := ty) (by simp) (by simp) hμn I.stp.len hb0 hbw (Nat.le_trans C.s0.size hb0) hnb hwb hvs hone hle
      have hset : (HS ++ [AObj.dead]).set HS.length (.cells cs') = HS ++ [.cells cs'] := by simp
      rw [hset] at rg
      have hle' : μ.le (muNew μ HS.length ⟨lb pn, 0, c.size⟩) := by
        intro j p hj
        unfold muNew
        rw [if_neg (by rintro rfl; rw [hμn] at hj; cases hj)]; exact hj
      have hout' : ∀ r, q ≤ r → r < pn → ¬ inS its listed r → ∀ i, (H r).length ≤ i → i < (H (r + 1)).length → (HS ++ [AObj.cells cs'])[i]? = some .dead ∧ (muNew μ HS.length ⟨lb pn, 0, c.size⟩) i = none := by
        intro r hr1 hr2 hrS i hi1 hi2
        obtain ⟨h1, h2⟩ := I.hout r hr1 hr2 hrS i hi1 hi2
        have hil := intl r hr1 hr2 i hi1 hi2
        refine ⟨by rw [List.getElem?_append_left hil]; exact h1, ?_⟩
        unfold muNew; rw [if_neg (by omega)]; exact h2
      refine ⟨_, _, I.lsz, I.cl, by have := I.qp; omega, by omega, I.qE, ?_, ?_, fun p p' h1 h2 => I.lb1 p p' (by omega) (by omega), rg, I.h0q, by rw [hH]; simp [hlen], ?_, ?_, ?_, I.df, I.sz, ?_, ?_⟩
      · intro p y h1 h2 hy
        by_cases he : p = pn
        · subst he; rw [hx] at hy; cases hy; exact hk
        · exact I.e2 p y h1 (by omega) hy
      · intro p y h1 hy hpS
        obtain ⟨g1, cs1, c1, ty1, mk1, u1, k1, k2, k3, k4, k5, k6, k7, k8, k9, k10⟩ := I.lt p y (by omega) hy hpS
        refine ⟨g1, cs1, c1, ty1, mk1, u1, k1, k2, k3, ?_, k5, k6.mono hle', k7, k8, k9, k10⟩
        intro i pl hi
        unfold muNew at hi
        split at hi
        · cases hi
          intro he
          have : pn = p := I.lb1 pn p (Nat.le_refl _) (by omega) hS hpS he
          omega
        · exact k4 i pl hi
      · intro i hi; rw [List.getElem?_append_left (by omega)]; exact I.hq i hi
      · intro r hr1 hr2 hrS i hi1 hi2
        by_cases he : r = pn
        · subst he
          rw [hH] at hi2 ⊢
          simp at hi2
          have : i = HS.length := by omega
          subst this
          rw [hlen]
          rw [← hlen, List.getElem?_append_right (Nat.le_refl _), hlen, List.getElem?_append_right (Nat.le_refl _)]
        · have hil := intl r hr1 (by omega) i hi1 hi2
          rw [List.getElem?_append_left hil]; exact I.hin r hr1 (by omega) hrS i hi1 hi2
      · intro r hr1 hr2 hrS
        have : r ≠ pn := by rintro rfl; exact hrS hS
        exact hout' r hr1 (by omega) hrS
      · intro p y t hy hd ht hpS hlt
        by_cases he : p = pn
        · subst he
          rw [hx] at hy; cases hy
          rw [C.eg1 ht hx hd hpl (Nat.le_refl _), hE, putE_get hdst C.hnt ht, if_pos hd, htm t hd ht, ← hmke, ← hlen]
          exact hmk _ _ _ c.size (by simp [muNew])
        · exact (I.tw p y t hy hd ht hpS (by omega)).mono hle'
      · intro t ht hn; exact (I.t0 t ht hn).mono hle'
    · have pd := I.stp.pad
      have hμn : μ HS.length = none := by
        cases h : μ HS.length with
        | none => rfl
        | some pl => have := (I.stp.sim.place _ _ h).1; omega
      refine ⟨μ, HS ++ [.dead], I.lsz, I.cl, by have := I.qp; omega, by omega, I.qE, ?_, fun p y h1 => I.lt p y (by omega), fun p p' h1 h2 => I.lb1 p p' (by omega) (by omega), pd, I.h0q, by rw [hH]; simp [hlen], ?_, ?_, ?_, I.df, I.sz, ?_, I.t0⟩
      · intro p y h1 h2 hy
        by_cases he : p = pn
        · subst he; rw [hx] at hy; cases hy; exact hk
        · exact I.e2 p y h1 (by omega) hy
      · intro i hi; rw [List.getElem?_append_left (by omega)]; exact I.hq i hi
      · intro r hr1 hr2 hrS i hi1 hi2
        have : r ≠ pn := by rintro rfl; exact hS hrS
        have hil := intl r hr1 (by omega) i hi1 hi2
        rw [List.getElem?_append_left hil]; exact I.hin r hr1 (by omega) hrS i hi1 hi2
      · intro r hr1 hr2 hrS i hi1 hi2
        by_cases he : r = pn
        · subst he
          rw [hH] at hi2
          simp at hi2
          have : i = HS.length := by omega
          subst this
          exact ⟨by simp, hμn⟩
        · have hil := intl r hr1 (by omega) i hi1 hi2
          obtain ⟨h1, h2⟩ := I.hout r hr1 (by omega) hrS i hi1 hi2
          exact ⟨by rw [List.getElem?_append_left hil]; exact h1, h2⟩
      · intro p y t hy hd ht hpS hlt
        have : p ≠ pn := by rintro rfl; exact hS hpS
        exact I.tw p y t hy hd ht hpS (by omega)
  · have hk01 : akind x.2.2 = 0 ∨ akind x.2.2 = 1 := by have := akind_le3 x.2.2; omega
    have hH := C.heap01 hx hk01
    have hS : ¬ inS its listed pn := by
      intro hS
      have := (I.lt pn x (Nat.le_refl _) hx hS).1
      omega
    refine ⟨μ, HS, I.lsz, I.cl, by have := I.qp; omega, by omega, I.qE, ?_, fun p y h1 => I.lt p y (by omega), fun p p' h1 h2 => I.lb1 p p' (by omega) (by omega), I.stp, I.h0q, by rw [hH]; exact I.hlen, I.hq, ?_, ?_, I.df, I.sz, ?_, I.t0⟩
    · intro p y h1 h2 hy
      by_cases he : p = pn
      · subst he; rw [hx] at hy; cases hy; exact hk
      · exact I.e2 p y h1 (by omega) hy
    · intro r hr1 hr2 hrS
      have : r ≠ pn := by rintro rfl; exact hS hrS
      exact I.hin r hr1 (by omega) hrS
    · intro r hr1 hr2 hrS i hi1 hi2
      by_cases he : r = pn
      · subst he; rw [hH] at hi2; omega
      · exact I.hout r hr1 (by omega) hrS i hi1 hi2
    · intro p y t hy hd ht hpS hlt
      have : p ≠ pn := by rintro rfl; exact hS hpS
      exact I.tw p y t hy hd ht hpS (by omega)

/- up to the next that writes -/
theorem Ctx.toNext (C : Ctx P W B G rec nt opsA its l E H μ0 w0 a0) : ∀ (k : Nat) (pn : Nat) (μ : Mu) (HS : AHeap), its.length - pn = k → Inv W B nt opsA its E H μ0 w0 a0 listed a w μ q pn HS lb →
    ∃ μ' pn' HS', Inv W B nt opsA its E H μ0 w0 a0 listed a w μ' q pn' HS' lb ∧ (pn' < its.length → ∃ z, its[pn']? = some z ∧ akind z.2.2 = 3)
  | 0, pn, μ, HS, hk, I => ⟨μ, pn, HS, I, fun h => by omega⟩
  | k + 1, pn, μ, HS, hk, I => by
    have hpl : pn < its.length := by omega
    have hx : its[pn]? = some its[pn] := List.getElem?_eq_getElem hpl
    by_cases h3 : akind its[pn].2.2 = 3
    · exact ⟨μ, pn, HS, I, fun _ => ⟨_, hx, h3⟩⟩
    · obtain ⟨μ', HS', I'⟩ := C.advance I hx h3
      exact C.toNext k (pn + 1) μ' HS' (by omega) I'

end
end Go.Proofs.Ytohjmflbgohkhaa.E
