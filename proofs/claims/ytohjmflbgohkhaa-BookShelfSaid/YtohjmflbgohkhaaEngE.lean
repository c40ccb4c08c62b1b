/- Writing, killing and growing of blocks. -/
import Derived.Test.YtohjmflbgohkhaaEngD
namespace Go.Proofs.Ytohjmflbgohkhaa.E
set_option linter.all false
open Go

theorem not_frozen {w : World} {b o : Nat} {c t fr} (hw : w.heap[b]? = some (.cells c t fr)) (hf : fr.1 = fr.2 ∨ c.size ≤ fr.1) (ho : o < c.size) : w.frozen? ⟨b, o, none⟩ = false := by
  obtain ⟨lo, hi⟩ := fr
  simp only [World.frozen?, hw]
  simp at hf ⊢
  omega

theorem setCell_heap {w : World} {b o : Nat} {c t fr} {v : Value} (hw : w.heap[b]? = some (.cells c t fr)) :
    (w.setCell ⟨b, o, none⟩ v).heap[b]? = some (.cells (c.setIfInBounds o v) t fr) := by
  simp [World.setCell, Array.getElem?_modify, hw]

theorem run_storeCells_gen (P : Program) (b o : Nat) : ∀ (vs : List Value) (k : Nat) (c : Array Value) (w : World) (t : TypeId) (fr : Nat × Nat),
    w.heap[b]? = some (.cells c t fr) → (fr.1 = fr.2 ∨ c.size ≤ fr.1) → o + k + vs.length ≤ c.size → (∀ v ∈ vs, v.oneCell' = true) →
    ∃ w', (storeCells ⟨b, o, none⟩ vs k).run P w = .ok () w' ∧ w'.heap[b]? = some (.cells ⟨c.toList.take (o + k) ++ vs ++ c.toList.drop (o + k + vs.length)⟩ t fr) ∧
      (∀ x, x ≠ b → w'.heap[x]? = w.heap[x]?) ∧ w'.heap.size = w.heap.size ∧ w'.os = w.os ∧ w'.tape = w.tape ∧ w'.output = w.output
  | [], k, c, w, t, fr, hw, _, _, _ => ⟨w, rfl, by rw [hw]; simp, fun _ _ => rfl, rfl, rfl, rfl, rfl⟩
  | v :: vs, k, c, w, t, fr, hw, hf, hl, h1 => by
    have hlt : o + k < c.size := by simp at hl; omega
    have hc : w.cell? ⟨b, o + k, none⟩ = some c[o + k] := by rw [cell_of_row w _ _ _ _ _ hw]; simp [hlt]
    have hs : (store ⟨b, o + k, none⟩ v).run P w = .ok () (w.setCell ⟨b, o + k, none⟩ v) := by
      rw [run_store P w _ v .plain (h1 v (by simp)), hc]
      simp [not_frozen hw hf hlt]
    have hw' := setCell_heap (o := o + k) (v := v) hw
    obtain ⟨w', hr, hb, hx, hz, e1, e2, e3⟩ := run_storeCells_gen P b o vs (k + 1) (c.setIfInBounds (o + k) v) (w.setCell ⟨b, o + k, none⟩ v) t fr hw' (by simpa using hf) (by simp at hl ⊢; omega)
      (fun u hu => h1 u (by simp [hu]))
    refine ⟨w', ?_, ?_, ?_, by rw [hz]; simp, by rw [e1]; rfl, by rw [e2]; rfl, by rw [e3]; rfl⟩
    · simp only [storeCells, Sem.run_bind, add_some, hs, Result.andThen_ok]; exact hr
    · rw [hb]
      congr 2
      simp only [Array.toList_setIfInBounds, Array.mk.injEq]
      have hlt' : o + k < c.toList.length := by simpa using hlt
      rw [show o + (k + 1) = (o + k) + 1 by omega, List.take_succ_eq_append_getElem (by simpa using hlt'), List.take_set_of_le (by omega), List.getElem_set_self]
      rw [List.drop_set_of_lt (by omega)]
      simp [Nat.add_comm, Nat.add_left_comm]
    · intro x hxb; rw [hx x hxb]; exact heap_setCell_other w _ x v hxb

theorem mem_one {μ : Mu} : ∀ {l : List AV} {m : List Value}, VRs μ l m → allOneP l → ∀ v ∈ m, v.oneCell' = true
  | [], m, h, _, v, hv => by have h : m = [] := h; subst h; simp at hv
  | a :: r, m, ⟨u, k, e, x, y⟩, ho, v, hv => by
    subst e
    rcases List.mem_cons.1 hv with rfl | hv
    · exact (x.one ho.1).1
    · exact mem_one y ho.2 v hv

theorem alive_set_back {h : AHeap} {i j : Nat} {o : AObj} (hi : i < h.length) (hl : alive h i) (ha : alive (h.set i o) j) : alive h j := by
  by_cases e : j = i
  · subst e; exact hl
  · obtain ⟨x, hx, hd⟩ := ha
    rw [List.getElem?_set_ne (fun q => e q.symm)] at hx
    exact ⟨x, hx, hd⟩

/- one block of cells is written anew -/
theorem Stp.write {W μ h w} (s : Sim W μ h w) {i cs cs' p c t fr} (hi : h[i]? = some (.cells cs)) (hp : μ i = some p) (hw : w.heap[p.blk]? = some (.cells c t fr))
    {w' : World} {c' : Array Value} {fr' : Nat × Nat} (hb : w'.heap[p.blk]? = some (.cells c' t fr')) (hx : ∀ x, x ≠ p.blk → w'.heap[x]? = w.heap[x]?) (hz : w'.heap.size = w.heap.size)
    (e1 : w'.os = w.os) (e2 : w'.tape = w.tape) (e3 : w'.output = w.output)
    (hfr : fr'.1 = fr'.2 ∨ c'.size ≤ fr'.1) (hsz : p.off + p.room = c'.size) (hle : cs'.length ≤ p.room) (hvs : VRs μ cs' ((c'.toList.drop p.off).take cs'.length)) (ho : allOneP cs') :
    Stp W μ h w μ (h.set i (.cells cs')) w' := by
  have hil : i < h.length := (List.getElem?_eq_some_iff.1 hi).1
  have hali : alive h i := ⟨_, hi, by simp⟩
  refine ⟨μ.le_refl, ⟨?_, ?_, e1.trans s.os, e2.trans s.tape, e3.trans s.output, ?_, ?_, ?_⟩, by simp, by omega, ?_, fun _ _ e => .inl e, fun j _ a => alive_set_back hil hali a⟩
  · intro b hb'
    have := (s.place i p hp).2.1
    rw [hx b (by omega)]; exact s.base b hb'
  · rw [hz]; exact s.size
  · intro j q hq; have := s.place j q hq; simp; omega
  · intro j o hj
    by_cases e : j = i
    · subst e
      rw [List.getElem?_set_self hil] at hj; cases hj
      exact ⟨p, c', t, fr', hp, hb, hfr, hsz, hle, hvs, ho⟩
    · rw [List.getElem?_set_ne (fun q => e q.symm)] at hj
      by_cases hd : o = .dead
      · subst hd; trivial
      · refine (s.obj j o hj).mono μ.le_refl fun q hq => hx _ fun he => e ?_
        exact s.sep j i q p ⟨o, hj, hd⟩ hali hq hp he
  · intro j k q r aj ak hj hk he
    exact s.sep j k q r (alive_set_back hil hali aj) (alive_set_back hil hali ak) hj hk he
  · intro b hb' hn
    exact hx b fun he => hn i p hali hp he.symm

theorem list_mid (l : List Value) (a n : Nat) (vs : List Value) (h : a + vs.length ≤ l.length) : True := trivial

theorem store_own {P : Program} {W μ h w} (s : Sim W μ h w) {i o vs cs r p us} (hi : hcells h i = some cs) (hsp : splice cs o vs = some r) (hp : μ i = some p)
    (hvs : VRs μ vs us) (hone : allOneP vs) :
    ∃ w', (storeCells ⟨p.blk, p.off + o, none⟩ us).run P w = .ok () w' ∧ Stp W μ h w μ (h.set i (.cells r)) w' := by
  have hi' := hcells_eq hi
  obtain ⟨p', c, t, fr, hp', hw, hfr, hsz, hle, hcs, hco⟩ := s.obj i _ hi'
  rw [hp] at hp'; cases hp'
  obtain ⟨hlen, rfl⟩ := splice_eq hsp
  have hul := VRs.length hvs
  have hcl := VRs.length hcs
  simp at hcl
  obtain ⟨w', hr, hb, hx, hz, e1, e2, e3⟩ := run_storeCells_gen P p.blk (p.off + o) us 0 c w t fr hw hfr (by omega) (mem_one hvs hone)
  refine ⟨w', hr, Stp.write s hi' hp hw hb hx hz e1 e2 e3 ?_ ?_ ?_ ?_ ?_⟩
  · have hs2 : (c.toList.take (p.off + o + 0) ++ us ++ c.toList.drop (p.off + o + 0 + us.length)).length = c.size := by
      simp; omega
    have : (Array.mk (c.toList.take (p.off + o + 0) ++ us ++ c.toList.drop (p.off + o + 0 + us.length))).size = c.size := hs2
    rw [this]; exact hfr
  · have hs2 : (c.toList.take (p.off + o + 0) ++ us ++ c.toList.drop (p.off + o + 0 + us.length)).length = c.size := by
      simp; omega
    exact hsz.trans hs2.symm
  · simp; omega
  · have e : ((c.toList.take (p.off + o + 0) ++ us ++ c.toList.drop (p.off + o + 0 + us.length)).drop p.off).take (cs.take o ++ vs ++ cs.drop (o + vs.length)).length =
        ((c.toList.drop p.off).take cs.length).take o ++ us ++ ((c.toList.drop p.off).take cs.length).drop (o + vs.length) := by
      apply List.ext_getElem?
      intro j
      rw [List.getElem?_take]
      simp only [List.length_append, List.length_take, List.length_drop, List.getElem?_drop, List.getElem?_append, List.getElem?_take, List.append_assoc, Nat.add_zero, Array.length_toList]
      by_cases h1 : j < o
      · rw [if_pos (by omega), if_pos (by omega), if_pos (by omega), if_pos (by omega), if_pos (by omega), if_pos (by omega)]
      · by_cases h2 : j < o + us.length
        · rw [if_pos (by omega), if_neg (by omega), if_pos (by omega), if_neg (by omega), if_pos (by omega)]
          congr 1; omega
        · by_cases h3 : j < cs.length
          · rw [if_pos (by omega), if_neg (by omega), if_neg (by omega), if_neg (by omega), if_neg (by omega), if_pos (by omega)]
            congr 1; omega
          · rw [if_neg (by omega), if_neg (by omega), if_neg (by omega), if_neg (by omega)]
    show VRs μ _ (List.take _ (List.drop p.off (Array.mk _).toList))
    rw [e]
    exact ((hcs.take o).append hvs).append (hcs.drop _)
  · exact ((hco.take o).append hone).append (hco.drop _)

theorem store_any {P : Program} {W μ h w} (s : Sim W μ h w) {b o vs h' a us} (hs : storeN h b o vs = some h') (ha : plOf μ b o = some a ∨ vs = []) (hvs : VRs μ vs us) (hone : allOneP vs) :
    ∃ w', (storeCells a us).run P w = .ok () w' ∧ Stp W μ h w μ h' w' := by
  by_cases hv : vs = []
  · subst hv
    have hv' : us = [] := hvs
    subst hv'
    refine ⟨w, rfl, ?_⟩
    cases b with
    | base b => simp [storeN] at hs; subst hs; exact .refl s
    | own i =>
      simp only [storeN] at hs
      cases hc : hcells h i with
      | none => rw [hc] at hs; simp at hs
      | some cs =>
        rw [hc] at hs; simp only at hs
        cases hsp : splice cs o [] with
        | none => rw [hsp] at hs; simp at hs
        | some r =>
          rw [hsp] at hs; simp at hs; subst hs
          have := (splice_eq hsp).2
          simp at this; subst this
          have hi := hcells_eq hc
          have : h.set i (.cells r) = h := by
            apply List.ext_getElem?
            intro j
            by_cases e : j = i
            · subst e; rw [List.getElem?_set_self (List.getElem?_eq_some_iff.1 hi).1, hi]
            · rw [List.getElem?_set_ne (fun q => e q.symm)]
          rw [this]; exact .refl s
  · have ha := ha.resolve_right hv
    cases b with
    | base b => cases vs <;> simp [storeN] at hs hv
    | own i =>
      simp only [storeN] at hs
      cases hc : hcells h i with
      | none => rw [hc] at hs; simp at hs
      | some cs =>
        rw [hc] at hs; simp only at hs
        cases hsp : splice cs o vs with
        | none => rw [hsp] at hs; simp at hs
        | some r =>
          rw [hsp] at hs; simp at hs; subst hs
          simp only [plOf] at ha
          cases hp : μ i with
          | none => rw [hp] at ha; simp at ha
          | some p => rw [hp] at ha; simp at ha; subst ha; exact store_own s hc hsp hp hvs hone

end Go.Proofs.Ytohjmflbgohkhaa.E
