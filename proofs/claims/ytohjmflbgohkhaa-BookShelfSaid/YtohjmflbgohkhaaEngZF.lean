/- Regions that draw their order: what makes a block, in its turn or ahead of it. -/
import Derived.Test.YtohjmflbgohkhaaEngZE
namespace Go.Proofs.Ytohjmflbgohkhaa.E
set_option linter.all false
open Go

section
variable {P : Program} {W : World} {B : Base} {G : Nat → Option AFunc} {rec : Exec} {nt : Nat} {opsA : Array Oper} {its : List (Nat × Oper × AOper)} {l : List AOper} {E : Nat → Env} {H : Nat → AHeap} {μ0 : Mu} {w0 : World} {a0 : Act}
variable {listed : Array Bool} {a : Act} {w : World} {μ : Mu} {q pn : Nat} {HS : AHeap} {lb : Nat → Nat}

theorem LateR.more {e : Env} {x y : Nat × Oper × AOper} {w' : World} {μ' : Mu} {b : Nat} {u : Value} (h : LateR B nt w0 e x w μ a b) (hle : μ.le μ') (hnb : ∀ i pl, μ' i = some pl → μ i = some pl ∨ pl.blk ≠ b) (hs : w.heap.size ≤ w'.heap.size)
    (hh : ∀ b, b < w.heap.size → w'.heap[b]? = w.heap[b]?) (hsz : nt ≤ a.tmps.size)
    (hne : ∀ t, x.2.1.dst = some t → y.2.1.dst ≠ some t) : LateR B nt w0 e x w' μ' (a.put y.2.1.dst u) b := by
  obtain ⟨cs, c, ty, mk, u1, k1, k2, k3, k4, k5, k6, k7, k8, k9, k10⟩ := h
  refine ⟨cs, c, ty, mk, u1, k1, k2, Nat.lt_of_lt_of_le k3 hs, fun i pl hi => (hnb i pl hi).elim (k4 i pl) id, ?_, k6.mono hle, k7, k8, k9, ?_⟩
  · rw [hh b k3]; exact k5
  · intro t hd ht
    rw [put_getD (Nat.lt_of_lt_of_le ht hsz), if_neg (hne t hd)]; exact k10 t hd ht

theorem Ctx.hmono (C : Ctx P W B G rec nt opsA its l E H μ0 w0 a0) (I : Inv W B nt opsA its E H μ0 w0 a0 listed a w μ q pn HS lb) {r : Nat} (hr : q ≤ r) : ∀ s, r ≤ s → s ≤ pn → (H r).length ≤ (H s).length := by
  intro s
  induction s with
  | zero => intro h _; rw [show r = 0 by omega]; exact Nat.le_refl _
  | succ s ih =>
    intro h1 h2
    by_cases he : r = s + 1
    · rw [he]; exact Nat.le_refl _
    · have i1 := ih (by omega) (by omega)
      have hsl : s < its.length := by have := I.pnn; omega
      have hx : its[s]? = some its[s] := List.getElem?_eq_getElem hsl
      have hk3 := I.e2 s _ (by omega) (by omega) hx
      by_cases hk : akind its[s].2.2 = 2
      · obtain ⟨ao, d, cs, mk, _, _, _, _, _, _, hH, _⟩ := C.heap2 hx hk
        rw [hH]; simp; omega
      · rw [C.heap01 hx (by have := akind_le3 its[s].2.2; omega)]; exact i1

theorem Ctx.step2 (C : Ctx P W B G rec nt opsA its l E H μ0 w0 a0) (I : Inv W B nt opsA its E H μ0 w0 a0 listed a w μ q pn HS lb) {p : Nat} {x : Nat × Oper × AOper} (hx : its[p]? = some x) (hp : ¬ inS its listed p)
    (haft : ∀ e ∈ afterOf x.2.1, listed.getD e false = true) (hk : akind x.2.2 = 2) (hwh : (q ≤ p ∧ p < pn) ∨ (pn < p ∧ ∃ z, its[pn]? = some z ∧ akind z.2.2 = 3 ∧ ¬ inS its listed pn)) {K : Act → World → Prop} {Q : Exit → Act → World → Prop}
    (hK : ∀ a' w' μ' HS' lb', Inv W B nt opsA its E H μ0 w0 a0 (listed.setIfInBounds x.1 true) a' w' μ' q pn HS' lb' → K a' w') :
    if Region.wanted x.2.1 (yielded opsA a.tmps) then x.2.1.wp P a w K Q ∨ (x.2.1.asks P a w ∧ LetsOut Q) else K (a.put x.2.1.dst undef) w := by
  have hsz : nt ≤ a.tmps.size := by rw [I.sz]; exact C.he0.1
  have hpl : p < its.length := (List.getElem?_eq_some_iff.1 hx).1
  obtain ⟨ao, d, cs, mk, hx2, hk2, hcop, hdst0, hgn, hall, hH, hE⟩ := C.heap2 hx hk
  have hv := C.opds I hx hp haft (by
    rcases hwh with ⟨_, h⟩ | ⟨_, h⟩
    · exact .inl (by omega)
    · exact .inr ⟨hk, h⟩)
  obtain ⟨e', a', he', hag, hex, hwan, hsz', hdef⟩ := focus C.hnt hsz (cOp_select hcop) hv
  have hev : ∀ hh, evalOp B e' hh ao = evalOp B (E p) hh ao := fun hh => (evalOp_ev (h := hh) hcop (opd_same hag)).symm
  obtain ⟨cs', c, ty, mk', u, hall', hrun, hvs, hone, hle, hmk⟩ := new_ok (μ := μ) (a := a') hcop hk2 he' ((hev []).trans (hall []))
  have hcs : cs' = cs := by
    have h1 := hall []
    have h2 := hall' []
    rw [hev, h1] at h2
    simp only [Option.some.injEq, ARes.val.injEq, List.nil_append, List.cons.injEq, AObj.cells.injEq] at h2
    exact h2.2.1.symm
  subst hcs
  have hmke : ∀ hh : AHeap, mk' hh.length = mk hh.length := by
    intro hh
    have h1 := hall hh
    have h2 := hall' hh
    rw [hev, h1] at h2
    simp only [Option.some.injEq, ARes.val.injEq] at h2
    exact h2.1.symm
  rw [if_pos (by unfold Region.wanted; rw [hgn])]
  left
  unfold Oper.wp
  rw [← hex, hrun]
  simp only [Oper.upon]
  have hset := C.inS_set I.lsz hx
  have hdst : ∀ {r : Nat} {y : Nat × Oper × AOper} {t}, its[r]? = some y → r ≠ p → y.2.1.dst = some t → x.2.1.dst ≠ some t := fun hy hne hd hd' => hne (C.uniq hy hx hd hd')
  have hsz1 : w.heap.size ≤ (w.alloc (.cells c ty)).heap.size := by simp
  have hfr : ∀ b, b < w.heap.size → (w.alloc (.cells c ty)).heap[b]? = w.heap[b]? := fun b hb => heap_alloc_old _ _ _ hb
  have hqE' : q = 0 ∨ ∃ x', its[q - 1]? = some x' ∧ akind x'.2.2 = 3 ∧ inS its (listed.setIfInBounds x.1 true) (q - 1) := by
    rcases I.qE with h | ⟨z, hz, h3, hS⟩
    · exact .inl h
    · exact .inr ⟨z, hz, h3, (hset _).2 (.inl hS)⟩
  rcases hwh with ⟨hqp, hppn⟩ | ⟨hpnp, z, hz, hz3, hzS⟩
  · have hi := I.hout p hqp hppn hp (H p).length (Nat.le_refl _) (by rw [hH]; simp)
    have hil : (H p).length < HS.length := (List.getElem?_eq_some_iff.1 hi.1).1
    have h0i : (H 0).length ≤ (H p).length := Nat.le_trans I.h0q (C.hmono I (Nat.le_refl _) p hqp (by omega))
    have rg := Stp.reg (I.stp.alloc (.cells c ty)) (i := (H p).length) (b := w.heap.size) (cs := cs') (c := c) (ty := ty) hil hi.1 hi.2 h0i I.stp.size (by simp) I.stp.sim.size
      (fun j pl hj => by have := (I.stp.sim.place j pl hj).2.2; omega) (heap_alloc_new _ _) hvs hone hle
    have hle' : μ.le (muNew μ (H p).length ⟨w.heap.size, 0, c.size⟩) := by
      intro j pl hj
      unfold muNew
      rw [if_neg (by rintro rfl; rw [hi.2] at hj; cases hj)]; exact hj
    refine hK _ _ _ _ lb ⟨by simp [I.lsz], C.closed_set I.cl hx haft, I.qp, I.pnn, hqE', I.e2, ?_, ?_, rg, I.h0q, by simp [I.hlen], ?_, ?_, ?_, put_defers.trans I.df, put_size.trans I.sz, ?_, ?_⟩
    · intro r y hr hy hS
      rcases (hset r).1 hS with hS | he
      · obtain ⟨g1, g2⟩ := I.lt r y hr hy hS
        have hbw : lb r < w.heap.size := by obtain ⟨_, _, _, _, _, _, _, h, _⟩ := g2; exact h
        refine ⟨g1, g2.more hle' ?_ hsz1 hfr hsz fun t hd => hdst hy (by omega) hd⟩
        intro i pl hi
        unfold muNew at hi
        split at hi
        · cases hi; right; simp only; omega
        · exact .inl hi
      · omega
    · intro r r' h1 h2 hS hS'
      rcases (hset r).1 hS with hS | he
      · rcases (hset r').1 hS' with hS' | he'
        · exact I.lb1 r r' h1 h2 hS hS'
        · omega
      · omega
    · intro i hi2
      have := C.hmono I (Nat.le_refl _) p hqp (by omega)
      rw [List.getElem?_set_ne (by omega)]; exact I.hq i hi2
    · intro r hr1 hr2 hS i hi1 hi2
      by_cases he : r = p
      · subst he
        rw [hH] at hi2 ⊢
        simp at hi2
        have : i = (H r).length := by omega
        subst this
        rw [List.getElem?_set_self hil]; simp
      · have hS := ((hset r).1 hS).resolve_right he
        have : i ≠ (H p).length := by
          rcases Nat.lt_or_gt_of_ne he with h | h
          · have := C.hmono I (by omega : q ≤ r + 1) p (by omega) (by omega); omega
          · have := C.hmono I (by omega : q ≤ p + 1) r (by omega) (by omega)
            rw [hH] at this; simp at this; omega
        rw [List.getElem?_set_ne (fun e => this e.symm)]; exact I.hin r hr1 hr2 hS i hi1 hi2
    · intro r hr1 hr2 hS i hi1 hi2
      have he : r ≠ p := by rintro rfl; exact hS ((hset r).2 (.inr rfl))
      obtain ⟨h1, h2⟩ := I.hout r hr1 hr2 (fun h => hS ((hset r).2 (.inl h))) i hi1 hi2
      have : i ≠ (H p).length := by
        rcases Nat.lt_or_gt_of_ne he with h | h
        · have := C.hmono I (by omega : q ≤ r + 1) p (by omega) (by omega); omega
        · have := C.hmono I (by omega : q ≤ p + 1) r (by omega) (by omega)
          rw [hH] at this; simp at this; omega
      refine ⟨by rw [List.getElem?_set_ne (fun e => this e.symm)]; exact h1, ?_⟩
      unfold muNew; rw [if_neg this]; exact h2
    · intro r y t hy hd ht hS hr
      rw [put_getD (Nat.lt_of_lt_of_le ht hsz)]
      by_cases he : r = p
      · subst he
        rw [hx] at hy; cases hy
        rw [if_pos hd, C.eg1 ht hx hd hpl (Nat.le_refl _), hE, putE_get hdst0 C.hnt ht, if_pos hd, ← hmke]
        exact hmk _ _ _ _ (by unfold muNew; rw [if_pos rfl])
      · rw [if_neg (hdst hy he hd)]
        exact (I.tw r y t hy hd ht (((hset r).1 hS).resolve_right he) hr).mono hle'
    · intro t ht hn
      rw [put_getD (Nat.lt_of_lt_of_le ht hsz), if_neg fun hd => hn p x hx hd ((hset p).2 (.inr rfl))]
      exact (I.t0 t ht fun r y hy hd hS => hn r y hy hd ((hset r).2 (.inl hS))).mono hle'
  · have hlate : ∀ r y, pn ≤ r → its[r]? = some y → inS its listed r → lb r < w.heap.size := by
      intro r y hr hy hS
      obtain ⟨g1, g2⟩ := I.lt r y hr hy hS
      obtain ⟨_, _, _, _, _, _, _, h, _⟩ := g2; exact h
    refine hK _ _ _ _ (fun r => if r = p then w.heap.size else lb r) ⟨by simp [I.lsz], C.closed_set I.cl hx haft, I.qp, I.pnn, hqE', I.e2, ?_, ?_, I.stp.alloc _, I.h0q, I.hlen, I.hq, ?_, ?_, put_defers.trans I.df, put_size.trans I.sz, ?_, ?_⟩
    · intro r y hr hy hS
      by_cases he : r = p
      · subst he
        rw [hx] at hy; cases hy
        refine ⟨hk, ?_⟩
        simp only [if_pos]
        refine ⟨cs', c, ty, mk', u, ?_, I.stp.size, by simp, fun i pl hi => by have := (I.stp.sim.place i pl hi).2.2; omega, heap_alloc_new _ _, hvs, hone, hle, hmk, ?_⟩
        · intro h2; rw [hx2]; simp only; rw [← hev]; exact hall' h2
        · intro t hd ht; rw [put_getD (Nat.lt_of_lt_of_le ht hsz), if_pos hd]
      · have hS := ((hset r).1 hS).resolve_right he
        obtain ⟨g1, g2⟩ := I.lt r y hr hy hS
        simp only [if_neg he]
        exact ⟨g1, g2.more μ.le_refl (fun i pl hi => .inl hi) hsz1 hfr hsz fun t hd => hdst hy he hd⟩
    · intro r r' h1 h2 hS hS' hee
      have hr : ∃ y, its[r]? = some y := by obtain ⟨y, hy, _⟩ := hS; exact ⟨y, hy⟩
      have hr' : ∃ y, its[r']? = some y := by obtain ⟨y, hy, _⟩ := hS'; exact ⟨y, hy⟩
      obtain ⟨y, hy⟩ := hr
      obtain ⟨y', hy'⟩ := hr'
      by_cases he : r = p
      · by_cases he' : r' = p
        · omega
        · have := hlate r' y' h2 hy' (((hset r').1 hS').resolve_right he')
          simp only [if_pos he, if_neg he'] at hee; omega
      · have hS := ((hset r).1 hS).resolve_right he
        by_cases he' : r' = p
        · have := hlate r y h1 hy hS
          simp only [if_neg he, if_pos he'] at hee; omega
        · simp only [if_neg he, if_neg he'] at hee
          exact I.lb1 r r' h1 h2 hS (((hset r').1 hS').resolve_right he') hee
    · intro r hr1 hr2 hS i hi1 hi2
      exact I.hin r hr1 hr2 (((hset r).1 hS).resolve_right (by omega)) i hi1 hi2
    · intro r hr1 hr2 hS i hi1 hi2
      exact I.hout r hr1 hr2 (fun h => hS ((hset r).2 (.inl h))) i hi1 hi2
    · intro r y t hy hd ht hS hr
      rw [put_getD (Nat.lt_of_lt_of_le ht hsz), if_neg (hdst hy (by omega) hd)]
      exact I.tw r y t hy hd ht (((hset r).1 hS).resolve_right (by omega)) hr
    · intro t ht hn
      rw [put_getD (Nat.lt_of_lt_of_le ht hsz), if_neg fun hd => hn p x hx hd ((hset p).2 (.inr rfl))]
      exact I.t0 t ht fun r y hy hd hS => hn r y hy hd ((hset r).2 (.inl hS))

end
end Go.Proofs.Ytohjmflbgohkhaa.E
