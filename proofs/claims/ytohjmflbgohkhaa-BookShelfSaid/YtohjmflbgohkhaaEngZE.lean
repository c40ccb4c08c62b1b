/- Regions that draw their order: the four kinds of operations. -/
import Derived.Test.YtohjmflbgohkhaaEngZD
namespace Go.Proofs.Ytohjmflbgohkhaa.E
set_option linter.all false
open Go

section
variable {P : Program} {W : World} {B : Base} {G : Nat → Option AFunc} {rec : Exec} {nt : Nat} {opsA : Array Oper} {its : List (Nat × Oper × AOper)} {l : List AOper} {E : Nat → Env} {H : Nat → AHeap} {μ0 : Mu} {w0 : World} {a0 : Act}
variable {listed : Array Bool} {a : Act} {w : World} {μ : Mu} {q pn : Nat} {HS : AHeap} {lb : Nat → Nat}

theorem Ctx.idx (C : Ctx P W B G rec nt opsA its l E H μ0 w0 a0) {p : Nat} {x : Nat × Oper × AOper} (hx : its[p]? = some x) : x.1 < opsA.size := by
  have := (List.getElem?_eq_some_iff.1 (C.dp.mem p x hx).1).1
  simpa using this

theorem Ctx.inS_set (C : Ctx P W B G rec nt opsA its l E H μ0 w0 a0) (hsz : listed.size = opsA.size) {p : Nat} {x : Nat × Oper × AOper} (hx : its[p]? = some x) (r : Nat) :
    inS its (listed.setIfInBounds x.1 true) r ↔ inS its listed r ∨ r = p := by
  have hi := C.idx hx
  constructor
  · rintro ⟨y, hy, h⟩
    by_cases he : x.1 = y.1
    · exact .inr (C.pos hy hx he.symm)
    · left
      refine ⟨y, hy, ?_⟩
      simpa [Array.getD_eq_getD_getElem?, Array.getElem?_setIfInBounds_ne he] using h
  · rintro (⟨y, hy, h⟩ | rfl)
    · refine ⟨y, hy, ?_⟩
      by_cases he : x.1 = y.1
      · rw [← he]; simp [Array.getD_eq_getD_getElem?, show x.1 < listed.size by omega]
      · simpa [Array.getD_eq_getD_getElem?, Array.getElem?_setIfInBounds_ne he] using h
    · exact ⟨x, hx, by simp [Array.getD_eq_getD_getElem?, show x.1 < listed.size by omega]⟩

theorem getD_set_mono {i j : Nat} (h : listed.getD j false = true) : (listed.setIfInBounds i true).getD j false = true := by
  by_cases he : i = j
  · subst he
    have : i < listed.size := by
      by_cases hl : i < listed.size
      · exact hl
      · simp [Array.getD, hl] at h
    simp [Array.getD_eq_getD_getElem?, this]
  · simpa [Array.getD_eq_getD_getElem?, Array.getElem?_setIfInBounds_ne he] using h

theorem Ctx.closed_set (C : Ctx P W B G rec nt opsA its l E H μ0 w0 a0) (hcl : Closed opsA.toList (fun j => listed.getD j false = true)) {p : Nat} {x : Nat × Oper × AOper} (hx : its[p]? = some x)
    (haft : ∀ e ∈ afterOf x.2.1, listed.getD e false = true) : Closed opsA.toList (fun j => (listed.setIfInBounds x.1 true).getD j false = true) := by
  intro j o hj hS e he
  by_cases h : x.1 = j
  · subst h
    rw [(C.dp.mem p x hx).1] at hj; cases hj
    exact getD_set_mono (haft e he)
  · have : listed.getD j false = true := by simpa [Array.getD_eq_getD_getElem?, Array.getElem?_setIfInBounds_ne h] using hS
    exact getD_set_mono (hcl j o hj this e he)

theorem put_getD {o : Oper} {u : Value} {t : Nat} (ht : t < a.tmps.size) : (a.put o.dst u).tmps.getD t undef = if o.dst = some t then u else a.tmps.getD t undef := by
  cases hd : o.dst with
  | none => simp [Act.put]
  | some d =>
    by_cases he : d = t
    · subst he; simp [Act.put, Array.getD, ht]
    · simp [Act.put, Array.getD_eq_getD_getElem?, Array.getElem?_setIfInBounds_ne he, he]

theorem put_size {o : Oper} {u : Value} : (a.put o.dst u).tmps.size = a.tmps.size := by cases hd : o.dst <;> simp [Act.put]

/- a late block stays what it is -/
theorem LateR.keep {e : Env} {x y : Nat × Oper × AOper} {w' : World} {μ' : Mu} {HS' : AHeap} {b : Nat} {u : Value} (h : LateR B nt w0 e x w μ a b) (st : Stp W μ HS w μ' HS' w') (hsz : nt ≤ a.tmps.size)
    (hne : ∀ t, x.2.1.dst = some t → y.2.1.dst ≠ some t) : LateR B nt w0 e x w' μ' (a.put y.2.1.dst u) b := by
  obtain ⟨cs, c, ty, mk, u1, k1, k2, k3, k4, k5, k6, k7, k8, k9, k10⟩ := h
  have hnb : ∀ i pl, μ' i = some pl → pl.blk ≠ b := by
    intro i pl hi
    rcases st.ext i pl hi with h0 | ⟨_, h1 | ⟨j, r, _, hj, hr⟩⟩
    · exact k4 i pl h0
    · omega
    · rw [← hr]; exact k4 j r hj
  refine ⟨cs, c, ty, mk, u1, k1, k2, Nat.lt_of_lt_of_le k3 st.size, hnb, ?_, k6.mono st.le, k7, k8, k9, ?_⟩
  · rw [st.frame b k3 fun i p _ hi => k4 i p hi]; exact k5
  · intro t hd ht
    rw [put_getD (Nat.lt_of_lt_of_le ht hsz), if_neg (hne t hd)]; exact k10 t hd ht

/- what only computes, or reads, says the same here -/
theorem Ctx.same (C : Ctx P W B G rec nt opsA its l E H μ0 w0 a0) (I : Inv W B nt opsA its E H μ0 w0 a0 listed a w μ q pn HS lb) {p : Nat} {x : Nat × Oper × AOper} (hx : its[p]? = some x) (hp : ¬ inS its listed p)
    (haft : ∀ e ∈ afterOf x.2.1, listed.getD e false = true) (hppn : p < pn) (hk : akind x.2.2 = 0 ∨ akind x.2.2 = 1) :
    opStep B G rec { cOper P nt opsA.toList x.2.1 with again := [] } (E p) HS = some (E (p + 1), HS) := by
  obtain ⟨ao, g, d, v, q1, q2, q3, q4, q5, q6, q7, q8⟩ := C.at hx
  have hco : cOper P nt opsA.toList x.2.1 = ⟨d, g, ao, []⟩ := by rw [← (C.dp.mem p x hx).2, q1]
  have hpl : p < its.length := (List.getElem?_eq_some_iff.1 hx).1
  rw [hco]
  unfold opStep
  simp only
  rcases q8 with ⟨hw, rfl, _⟩ | ⟨hw, hv⟩ | ⟨_, f, args, h, _⟩
  · rw [hw, q5]
  · rw [hw]; simp only
    have hH := C.heap01 hx hk
    have EV : evalOp B (E p) HS ao = some (.val v HS) := by
      rw [q1] at hk
      rcases hk with hk | hk
      · exact (evalOp_pure (akind_le hk) hv).2 HS
      · obtain ⟨hk1, dp, hdp⟩ := akind_one hk
        have hkx : akind x.2.2 = 1 := by rw [q1]; exact hk
        by_cases hqp : p < q
        · -- read again behind the last that wrote
          rcases I.qE with h0 | ⟨z, hz, hz3, hzS⟩
          · omega
          · have hne : p ≠ q - 1 := by rintro rfl; rw [hx] at hz; cases hz; omega
            have hlt : p < q - 1 := by omega
            have hql : q ≤ its.length := Nat.le_trans I.qp I.pnn
            have pr := pair_of C hlt hx hz
            have hm : ((masksOf opsA.toList []).getD z.1 0).testBit x.1 = false := by
              cases hb : ((masksOf opsA.toList []).getD z.1 0).testBit x.1
              · rfl
              · exact absurd (C.before' I.cl hz hzS hx hb) hp
            obtain ⟨_, _, _, _, _, _, _, _, _, _, z7, _⟩ := C.at hz
            have hmem := againFor_mem (masks := masksOf opsA.toList []) (y := (z.1, akind z.2.2)) (L := (its.take (q - 1)).reverse) (x := x) (d := dp) (by
              rw [List.mem_reverse]
              refine List.mem_iff_getElem?.2 ⟨p, ?_⟩
              rw [List.getElem?_take, if_pos hlt]; exact hx) hz3 hkx hm (by rw [q1]; exact hdp)
            rw [q1] at hmem
            simp only at hmem
            have hq1 : q - 1 + 1 = q := by omega
            rw [hq1] at z7
            have hag : ∀ t ∈ looksOf opsA.toList x.2.1, t < nt → (E q).get (pathOf 64 t) = (E p).get (pathOf 64 t) := by
              intro t ht hlt2
              refine C.eg0 hlt2 q (by omega) hql fun r y hr1 hr2 hy hd => ?_
              by_cases he : r = p
              · subst he
                rw [hx] at hy; cases hy
                have := (C.dp.self r x hx).2.2 hkx
                unfold dstIn at this
                rw [hd] at this
                simp only at this
                have h2 := List.contains_iff_mem.2 ht
                rw [this] at h2; cases h2
              · have pr2 := pair_of C (by omega : p < r) hx hy
                have := pr2.2.2 hkx
                unfold dstIn at this
                rw [hd] at this
                simp only at this
                have h2 := List.contains_iff_mem.2 ht
                rw [this] at h2; cases h2
            have hwq : wantedA (E q) g = true := by rw [wanted_same q3 hag]; exact hw
            obtain ⟨v', h', he', hv'⟩ := againOk_mem z7 hmem hwq
            have he2 : evalOp B (E p) (H q) ao = some (.val v' h') := by
              rw [evalOp_ev q2 (opd_same hag)]; exact he'
            have hvv : v = v' := by
              rw [← hv']
              unfold dstOf at q4
              split at q4
              · cases q4; cases hdp
              · rename_i t0 hd0
                split at q4
                · rename_i hlt0
                  cases q4; cases hdp
                  have hlt0 : t0 < nt := by simpa using hlt0
                  rw [C.eg1 hlt0 hx hd0 hqp hql, q5]
                  simp [putE, Env.get_set_same]
                · cases q4
            rw [hvv]
            exact (evalOp_read hk1 he2).2 HS I.hq
        · have ht := (C.heapTo I p (by omega) (by omega) fun r y hr1 hr2 hy hk2 => by
            have pr := pair_of C hr2 hy hx
            rcases pr.2.1 with h | ⟨h, _⟩
            · exact C.before I.cl hx haft hy h
            · rw [hk2, hkx] at h; cases h).2
          rw [hH] at hv
          exact (evalOp_read hk1 hv).2 HS ht
    rw [EV, q5]
  · exfalso
    have := enter_is h
    rw [q1] at hk
    have hk' : kindOf ao = 0 ∨ kindOf ao = 1 := hk.imp akind_le (fun h => (akind_one h).1)
    cases ao <;> simp [isCallA] at this <;> simp [kindOf] at hk'

theorem Ctx.step01 (C : Ctx P W B G rec nt opsA its l E H μ0 w0 a0) (I : Inv W B nt opsA its E H μ0 w0 a0 listed a w μ q pn HS lb) {p : Nat} {x : Nat × Oper × AOper} (hx : its[p]? = some x) (hp : ¬ inS its listed p)
    (haft : ∀ e ∈ afterOf x.2.1, listed.getD e false = true) (hppn : p < pn) (hk : akind x.2.2 = 0 ∨ akind x.2.2 = 1) {K : Act → World → Prop} {Q : Exit → Act → World → Prop}
    (hK : ∀ a' w' μ', Inv W B nt opsA its E H μ0 w0 a0 (listed.setIfInBounds x.1 true) a' w' μ' q pn HS lb → K a' w') :
    if Region.wanted x.2.1 (yielded opsA a.tmps) then x.2.1.wp P a w K Q ∨ (x.2.1.asks P a w ∧ LetsOut Q) else K (a.put x.2.1.dst undef) w := by
  have hsz : nt ≤ a.tmps.size := by rw [I.sz]; exact C.he0.1
  refine step1 C.hB C.hG C.hrec C.hnt hsz (C.opds I hx hp haft (.inl (by omega))) I.stp.sim (C.same I hx hp haft hppn hk) ?_
  intro μ' w' u st hu
  have hμ : μ' = μ := by
    funext i
    cases h : μ i with
    | some pl => exact st.le i pl h
    | none =>
      cases h' : μ' i with
      | none => rfl
      | some pl =>
        exfalso
        rcases st.ext i pl h' with h0 | ⟨h1, _⟩
        · rw [h] at h0; cases h0
        · have := (st.sim.place i pl h').1; omega
  subst hμ
  have hH := C.heap01 hx hk
  have hset := C.inS_set I.lsz hx
  have hpl : p < its.length := (List.getElem?_eq_some_iff.1 hx).1
  have hdst : ∀ {r : Nat} {y : Nat × Oper × AOper} {t}, its[r]? = some y → r ≠ p → y.2.1.dst = some t → x.2.1.dst ≠ some t := fun hy hne hd hd' => hne (C.uniq hy hx hd hd')
  refine hK _ w' μ' ⟨by simp [I.lsz], C.closed_set I.cl hx haft, I.qp, I.pnn, ?_, I.e2, ?_, ?_, I.stp.trans C.s0 st, I.h0q, I.hlen, I.hq, ?_, ?_, put_defers.trans I.df, put_size.trans I.sz, ?_, ?_⟩
  · rcases I.qE with h | ⟨z, hz, h3, hS⟩
    · exact .inl h
    · exact .inr ⟨z, hz, h3, (hset _).2 (.inl hS)⟩
  · intro r y hr hy hS
    rcases (hset r).1 hS with hS | he
    · obtain ⟨g1, g2⟩ := I.lt r y hr hy hS
      exact ⟨g1, g2.keep st hsz fun t hd => hdst hy (by omega) hd⟩
    · omega
  · intro r r' h1 h2 hS hS'
    rcases (hset r).1 hS with hS | he
    · rcases (hset r').1 hS' with hS' | he'
      · exact I.lb1 r r' h1 h2 hS hS'
      · omega
    · omega
  · intro r hr1 hr2 hS i hi1 hi2
    rcases (hset r).1 hS with hS | he
    · exact I.hin r hr1 hr2 hS i hi1 hi2
    · subst he; rw [hH] at hi2; omega
  · intro r hr1 hr2 hS i hi1 hi2
    exact I.hout r hr1 hr2 (fun h => hS ((hset r).2 (.inl h))) i hi1 hi2
  · intro r y t hy hd ht hS hr
    rw [put_getD (Nat.lt_of_lt_of_le ht hsz)]
    by_cases he : r = p
    · subst he
      rw [hx] at hy; cases hy
      rw [if_pos hd, C.eg1 ht hx hd hpl (Nat.le_refl _)]
      exact hu t hd ht
    · rw [if_neg (hdst hy he hd)]
      rcases (hset r).1 hS with hS | h
      · exact I.tw r y t hy hd ht hS hr
      · exact absurd h he
  · intro t ht hn
    rw [put_getD (Nat.lt_of_lt_of_le ht hsz), if_neg fun hd => hn p x hx hd ((hset p).2 (.inr rfl))]
    exact I.t0 t ht fun r y hy hd hS => hn r y hy hd ((hset r).2 (.inl hS))

theorem Ctx.step3 (C : Ctx P W B G rec nt opsA its l E H μ0 w0 a0) (I : Inv W B nt opsA its E H μ0 w0 a0 listed a w μ q pn HS lb) {x : Nat × Oper × AOper} (hx : its[pn]? = some x) (hp : ¬ inS its listed pn)
    (haft : ∀ e ∈ afterOf x.2.1, listed.getD e false = true) (hk : akind x.2.2 = 3) {K : Act → World → Prop} {Q : Exit → Act → World → Prop}
    (hK : ∀ a' w' μ' HS', Inv W B nt opsA its E H μ0 w0 a0 (listed.setIfInBounds x.1 true) a' w' μ' (pn + 1) (pn + 1) HS' lb → K a' w') :
    if Region.wanted x.2.1 (yielded opsA a.tmps) then x.2.1.wp P a w K Q ∨ (x.2.1.asks P a w ∧ LetsOut Q) else K (a.put x.2.1.dst undef) w := by
  have hsz : nt ≤ a.tmps.size := by rw [I.sz]; exact C.he0.1
  have hpl : pn < its.length := (List.getElem?_eq_some_iff.1 hx).1
  obtain ⟨hqpn, hto⟩ := C.heapTo I pn I.qp (Nat.le_refl _) fun r y hr1 hr2 hy hk2 => by
    have pr := pair_of C hr2 hy hx
    rcases pr.2.1 with h | ⟨h, _⟩
    · exact C.before I.cl hx haft hy h
    · rw [hk2, hk] at h; cases h
  have hHS : HS = H pn := by
    apply List.ext_getElem?
    intro i
    by_cases h : i < (H pn).length
    · exact hto i h
    · rw [List.getElem?_eq_none (by have := I.hlen; omega), List.getElem?_eq_none (by omega)]
  subst hHS
  obtain ⟨ao, g, d, v, q1, q2, q3, q4, q5, q6, q7, q8⟩ := C.at hx
  refine step1 C.hB C.hG C.hrec C.hnt hsz (C.opds I hx hp haft (.inl (Nat.le_refl _))) I.stp.sim q6 ?_
  intro μ' w' u st hu
  have hset := C.inS_set I.lsz hx
  have hdst : ∀ {r : Nat} {y : Nat × Oper × AOper} {t}, its[r]? = some y → r ≠ pn → y.2.1.dst = some t → x.2.1.dst ≠ some t := fun hy hne hd hd' => hne (C.uniq hy hx hd hd')
  refine hK _ w' μ' (H (pn + 1)) ⟨by simp [I.lsz], C.closed_set I.cl hx haft, Nat.le_refl _, hpl, .inr ⟨x, by simpa using hx, hk, (hset _).2 (.inr (by omega))⟩, ?_, ?_, ?_, I.stp.trans C.s0 st, ?_, rfl, fun _ _ => rfl, ?_, ?_, put_defers.trans I.df, put_size.trans I.sz, ?_, ?_⟩
  · intro p y h1 h2; omega
  · intro r y hr hy hS
    rcases (hset r).1 hS with hS | he
    · obtain ⟨g1, g2⟩ := I.lt r y (by omega) hy hS
      exact ⟨g1, g2.keep st hsz fun t hd => hdst hy (by omega) hd⟩
    · omega
  · intro r r' h1 h2 hS hS'
    rcases (hset r).1 hS with hS | he
    · rcases (hset r').1 hS' with hS' | he'
      · exact I.lb1 r r' (by omega) (by omega) hS hS'
      · omega
    · omega
  · have := I.h0q; have := st.len; omega
  · intro r h1 h2; omega
  · intro r h1 h2; omega
  · intro r y t hy hd ht hS hr
    rw [put_getD (Nat.lt_of_lt_of_le ht hsz)]
    by_cases he : r = pn
    · subst he
      rw [hx] at hy; cases hy
      rw [if_pos hd, C.eg1 ht hx hd hpl (Nat.le_refl _)]
      exact hu t hd ht
    · rw [if_neg (hdst hy he hd)]
      rcases (hset r).1 hS with hS | h
      · exact (I.tw r y t hy hd ht hS (by omega)).mono st.le
      · exact absurd h he
  · intro t ht hn
    rw [put_getD (Nat.lt_of_lt_of_le ht hsz), if_neg fun hd => hn pn x hx hd ((hset pn).2 (.inr rfl))]
    exact (I.t0 t ht fun r y hy hd hS => hn r y hy hd ((hset r).2 (.inl hS))).mono st.le

end
end Go.Proofs.Ytohjmflbgohkhaa.E
