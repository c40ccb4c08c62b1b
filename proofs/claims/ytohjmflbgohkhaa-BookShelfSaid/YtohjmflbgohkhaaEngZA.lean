/- Regions that draw their order: one operation of any order. -/
import Derived.Test.YtohjmflbgohkhaaEngZ
namespace Go.Proofs.Ytohjmflbgohkhaa.E
set_option linter.all false
open Go

section
variable {P : Program} {W : World} {μ : Mu} {h : AHeap} {w : World} {nt : Nat} {env : Env} {a : Act} {B : Base} {G : Nat → Option AFunc} {rec : Exec}

theorem put_inj {o : Oper} {a' : Act} (hsz : a'.tmps.size = a.tmps.size) {u v : Value} (he : a'.put o.dst u = a'.put o.dst v) : a.put o.dst u = a.put o.dst v := by
  cases hd : o.dst with
  | none => rfl
  | some d =>
    rw [hd] at he
    simp only [Act.put] at he ⊢
    by_cases hlt : d < a'.tmps.size
    · have := congrArg (fun (b : Act) => b.tmps[d]?) he
      simp [hlt] at this
      rw [this]
    · have hge : a.tmps.size ≤ d := hsz ▸ Nat.le_of_not_lt hlt
      have h1 : ∀ x : Value, a.tmps.setIfInBounds d x = a.tmps := fun x => Array.setIfInBounds_eq_of_size_le hge
      rw [h1, h1]

theorem opd_same {e e' : Env} {ops : List Oper} {o : Oper} (hag : ∀ t ∈ looksOf ops o, t < nt → e'.get (pathOf 64 t) = e.get (pathOf 64 t)) : ∀ x ∈ o.op.operands, ∀ y, opd nt x = some y → y.ev e = y.ev e' := by
  intro x hx y hy
  cases x with
  | tmp t =>
    simp only [opd] at hy
    split at hy
    · rename_i hlt
      cases hy
      simp only [Opd.ev]
      refine (hag t ?_ (by simpa using hlt)).symm
      unfold looksOf
      refine List.mem_append.2 (.inl ?_)
      exact List.mem_filterMap.2 ⟨.tmp t, by simpa using hx, rfl⟩
    · cases hy
  | const v => simp only [opd] at hy; split at hy <;> cases hy; rfl
  | global g => cases hy; rfl
  | func f => cases hy; rfl

theorem wanted_same {e e' : Env} {ops : List Oper} {o : Oper} {g} (hg : guardOf nt ops o.guard = some g) (hag : ∀ t ∈ looksOf ops o, t < nt → e'.get (pathOf 64 t) = e.get (pathOf 64 t)) : wantedA e' g = wantedA e g := by
  unfold guardOf at hg
  split at hg
  · cases hg; rfl
  · rename_i j want hgu
    split at hg
    · rename_i d hd
      split at hg
      · rename_i hlt
        cases hg
        simp only [wantedA]
        rw [hag d _ (by simpa using hlt)]
        unfold looksOf
        refine List.mem_append.2 (.inr ?_)
        rw [hgu]; simp [hd]
      · cases hg
    · cases hg

/- what a step puts, and where -/
theorem opStep_val {ops : List Oper} {o : Oper} {ag e e1 h h1} (hr : opStep B G rec { cOper P nt ops o with again := ag } e h = some (e1, h1)) :
    ∃ ao g d v, cOp P nt o = some ao ∧ guardOf nt ops o.guard = some g ∧ dstOf nt o.dst = some d ∧ cOper P nt ops o = ⟨d, g, ao, []⟩ ∧ e1 = putE e d v ∧
      ((wantedA e g = false ∧ v = .tuple [] ∧ h1 = h) ∨ (wantedA e g = true ∧ evalOp B e h ao = some (.val v h1)) ∨ (wantedA e g = true ∧ ∃ f args, evalOp B e h ao = some (.enter f args) ∧ callF B G rec f args h = some (v, h1))) := by
  have hr0 : opStep B G rec (cOper P nt ops o) e h = some (e1, h1) := hr
  obtain ⟨ao, g, d, q1, q2, q3, q4⟩ := cOper_inv hr0
  rw [q4] at hr0
  unfold opStep at hr0
  simp only at hr0
  split at hr0
  · rename_i hw
    cases hr0
    exact ⟨ao, g, d, _, q1, q2, q3, q4, rfl, .inl ⟨hw, rfl, rfl⟩⟩
  · rename_i hw
    split at hr0
    · rename_i v h2 he
      cases hr0
      exact ⟨ao, g, d, v, q1, q2, q3, q4, rfl, .inr (.inl ⟨hw, he⟩)⟩
    · rename_i f args he
      split at hr0
      · rename_i v h2 hc
        cases hr0
        exact ⟨ao, g, d, v, q1, q2, q3, q4, rfl, .inr (.inr ⟨hw, f, args, he, hc⟩)⟩
      · cases hr0
    · cases hr0

theorem putE_get {o : Oper} {d} (hd : dstOf nt o.dst = some d) {e : Env} {v : AV} (hnt : nt < 100000) {t : Nat} (ht : t < nt) : (putE e d v).get (pathOf 64 t) = if o.dst = some t then v else e.get (pathOf 64 t) := by
  unfold dstOf at hd
  split at hd
  · rename_i hn; cases hd; rw [hn]; simp [putE]
  · rename_i d' hs
    split at hd
    · rename_i hlt
      cases hd
      have hlt : d' < nt := by simpa using hlt
      rw [hs]
      simp only [putE]
      by_cases e : d' = t
      · subst e; rw [Env.get_set_same]; simp
      · rw [Env.get_set_other _ _ _ _ fun q => e (pathOf_inj (Nat.lt_trans hlt hnt) (Nat.lt_trans ht hnt) q)]
        rw [if_neg]; simp [e]
    · cases hd

theorem step1 (hB : BaseOk W B) (hG : GOk P G) (hrec : RecOk P W rec) (hnt : nt < 100000) (hsz : nt ≤ a.tmps.size) {opsA : Array Oper} {o : Oper} {ag : List (Option (List Bool × Bool) × List Bool × AOp)} {e e1 : Env} {HS HS' : AHeap}
    (hv : ∀ t ∈ looksOf opsA.toList o, t < nt → VR μ (e.get (pathOf 64 t)) (a.tmps.getD t undef)) (s : Sim W μ HS w)
    (hr : opStep B G rec { cOper P nt opsA.toList o with again := ag } e HS = some (e1, HS')) {K : Act → World → Prop} {Q : Exit → Act → World → Prop}
    (hK : ∀ μ' w' u, Stp W μ HS w μ' HS' w' → (∀ t, o.dst = some t → t < nt → VR μ' (e1.get (pathOf 64 t)) u) → K (a.put o.dst u) w') :
    if Region.wanted o (yielded opsA a.tmps) then o.wp P a w K Q ∨ (o.asks P a w ∧ LetsOut Q) else K (a.put o.dst undef) w := by
  obtain ⟨ao, g, d, v, q1, q2, q3, q4, rfl, hcase⟩ := opStep_val hr
  obtain ⟨e', a', he', hag, hex, hwan, hsz', hdef⟩ := focus hnt hsz (cOp_select q1) hv
  have hw' := wanted_same q2 hag
  have hev : ∀ hh, evalOp B e' hh ao = evalOp B e hh ao := fun hh => (evalOp_ev (h := hh) q1 (opd_same hag)).symm
  have hr' : opStep B G rec { cOper P nt opsA.toList o with again := ag } e' HS = some (putE e' d v, HS') := by
    rw [q4]
    unfold opStep
    simp only
    rw [hw']
    rcases hcase with ⟨c1, rfl, rfl⟩ | ⟨c1, c2⟩ | ⟨c1, f, args, c2, c3⟩
    · rw [c1]
    · rw [c1]; simp only; rw [hev, c2]
    · rw [c1]; simp only; rw [hev, c2]; simp only; rw [c3]
  have base := opStep_sound hB hG hrec hnt s he' hr' (K := fun b w' => ∃ u, b = a'.put o.dst u ∧ K (a.put o.dst u) w') (Q := fun _ _ _ => False) (by
    rintro μ' b w' st heb hdb ⟨u, rfl⟩
    refine ⟨u, rfl, hK μ' w' u st ?_⟩
    intro t hd ht
    have h1 := heb.2 t ht
    rw [putE_get q3 hnt ht, if_pos hd] at h1 ⊢
    have : (a'.put o.dst u).tmps.getD t undef = u := by
      have hlt : t < a'.tmps.size := Nat.lt_of_lt_of_le ht (hsz' ▸ hsz)
      rw [hd]
      simp [Act.put, Array.getD, hlt]
    rw [this] at h1
    exact h1)
  rw [hwan] at base
  split at base
  · rename_i hwt
    rw [if_pos hwt]
    rcases base with base | ⟨_, _, _, hq⟩
    · exact .inl (transfer hex hsz' base)
    · exact hq.elim
  · rename_i hwf
    rw [if_neg hwf]
    obtain ⟨u, hu, hk⟩ := base
    rw [put_inj hsz' hu]; exact hk

/- a block that is there already is taken in -/
theorem Stp.reg {μ0 : Mu} {h0 : AHeap} {w0 : World} (st : Stp W μ0 h0 w0 μ h w) {i b : Nat} {cs : List AV} {c : Array Value} {ty : TypeId} (hi : i < h.length) (hdead : h[i]? = some .dead) (hμ : μ i = none) (h0i : h0.length ≤ i)
    (hb0 : w0.heap.size ≤ b) (hbw : b < w.heap.size) (hbW : W.heap.size ≤ b) (hnb : ∀ j p, μ j = some p → p.blk ≠ b) (hw : w.heap[b]? = some (.cells c ty (0, 0))) (hvs : VRs μ cs (c.toList.take cs.length)) (hone : allOneP cs) (hle : cs.length ≤ c.size) :
    Stp W μ0 h0 w0 (muNew μ i ⟨b, 0, c.size⟩) (h.set i (.cells cs)) w := by
  have hle' : μ.le (muNew μ i ⟨b, 0, c.size⟩) := by
    intro j p hj
    unfold muNew
    rw [if_neg (by rintro rfl; rw [hμ] at hj; cases hj)]; exact hj
  have hpl : ∀ j p, muNew μ i ⟨b, 0, c.size⟩ j = some p → (j = i ∧ p = ⟨b, 0, c.size⟩) ∨ (j ≠ i ∧ μ j = some p) := by
    intro j p hj; unfold muNew at hj; split at hj
    · cases hj; exact .inl ⟨by assumption, rfl⟩
    · exact .inr ⟨by assumption, hj⟩
  have hal : ∀ j, j ≠ i → alive (h.set i (.cells cs)) j → alive h j := by
    rintro j hj ⟨o, e, hd⟩
    rw [List.getElem?_set_ne (fun q => hj q.symm)] at e
    exact ⟨o, e, hd⟩
  refine ⟨Mu.le_trans st.le hle', ⟨st.sim.base, st.sim.size, st.sim.os, st.sim.tape, st.sim.output, ?_, ?_, ?_⟩, by simp; exact st.len, st.size, st.frame, ?_, ?_⟩
  · intro j p hj
    rcases hpl j p hj with ⟨rfl, rfl⟩ | ⟨_, hm⟩
    · exact ⟨by simpa using hi, hbW, hbw⟩
    · have := st.sim.place j p hm; simp; exact this
  · intro j o hj
    by_cases e : j = i
    · subst e
      rw [List.getElem?_set_self hi] at hj; cases hj
      exact ⟨⟨b, 0, c.size⟩, c, ty, (0, 0), by simp [muNew], hw, .inl rfl, by simp, hle, by simpa using hvs.mono hle', hone⟩
    · rw [List.getElem?_set_ne (fun q => e q.symm)] at hj
      exact (st.sim.obj j o hj).mono hle' fun _ _ => rfl
  · intro j k p q aj ak hj hk he
    rcases hpl j p hj with ⟨rfl, rfl⟩ | ⟨hn, hm⟩ <;> rcases hpl k q hk with ⟨rfl, rfl⟩ | ⟨hn', hm'⟩
    · rfl
    · exact absurd he.symm (hnb k q hm')
    · exact absurd he (hnb j p hm)
    · exact st.sim.sep j k p q (hal j hn aj) (hal k hn' ak) hm hm' he
  · intro j p hj
    rcases hpl j p hj with ⟨rfl, rfl⟩ | ⟨_, hm⟩
    · exact .inr ⟨h0i, .inl hb0⟩
    · exact st.ext j p hm
  · intro j hj aj
    exact st.back j hj (hal j (by omega) aj)

/- room for one more -/
theorem Stp.pad {μ0 : Mu} {h0 : AHeap} {w0 : World} (st : Stp W μ0 h0 w0 μ h w) : Stp W μ0 h0 w0 μ (h ++ [.dead]) w := by
  have hal : ∀ j, alive (h ++ [.dead]) j → alive h j := by
    rintro j ⟨o, e, hd⟩
    by_cases hj : j < h.length
    · rw [List.getElem?_append_left hj] at e; exact ⟨o, e, hd⟩
    · rw [List.getElem?_append_right (by omega)] at e
      have : j - h.length = 0 := by
        have := (List.getElem?_eq_some_iff.1 e).1
        simp at this; omega
      rw [this] at e; simp at e; exact absurd e.symm hd
  refine ⟨st.le, ⟨st.sim.base, st.sim.size, st.sim.os, st.sim.tape, st.sim.output, ?_, ?_, ?_⟩, by simp; exact Nat.le_succ_of_le st.len, st.size, st.frame, st.ext, fun j hj aj => st.back j hj (hal j aj)⟩
  · intro j p hj; have := st.sim.place j p hj; simp; omega
  · intro j o hj
    by_cases e : j < h.length
    · rw [List.getElem?_append_left e] at hj; exact st.sim.obj j o hj
    · rw [List.getElem?_append_right (by omega)] at hj
      have : j - h.length = 0 := by
        have := (List.getElem?_eq_some_iff.1 hj).1
        simp at this; omega
      rw [this] at hj; simp at hj; subst hj; trivial
  · intro j k p q aj ak; exact st.sim.sep j k p q (hal j aj) (hal k ak)

/- a block that nobody knows yet -/
theorem Stp.alloc {μ0 : Mu} {h0 : AHeap} {w0 : World} (st : Stp W μ0 h0 w0 μ h w) (o : Obj) : Stp W μ0 h0 w0 μ h (w.alloc o) := by
  have hs := st.sim.size
  have hz := st.size
  refine ⟨st.le, ⟨?_, ?_, st.sim.os, st.sim.tape, st.sim.output, ?_, ?_, st.sim.sep⟩, st.len, by simp; omega, ?_, st.ext, st.back⟩
  · intro b hb; rw [heap_alloc_old _ _ _ (by omega)]; exact st.sim.base b hb
  · simp; omega
  · intro j p hj; have := st.sim.place j p hj; simp; omega
  · intro j ob hj; exact (st.sim.obj j ob hj).mono μ.le_refl fun p hp => heap_alloc_old _ _ _ (st.sim.place j p hp).2.2
  · intro b hb hn; rw [heap_alloc_old _ _ _ (by omega)]; exact st.frame b hb hn

end
end Go.Proofs.Ytohjmflbgohkhaa.E
