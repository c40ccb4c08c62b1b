/- Regions that draw their order: any order ends where the order that is laid ends. -/
import Derived.Test.YtohjmflbgohkhaaEngZF
namespace Go.Proofs.Ytohjmflbgohkhaa.E
set_option linter.all false
open Go

theorem filter_set : ∀ (l : List Bool) (i : Nat), l[i]? = some false → ((l.set i true).filter (fun b => !b)).length + 1 = (l.filter (fun b => !b)).length
  | [], i, h => by simp at h
  | b :: l, 0, h => by simp at h; subst h; simp
  | b :: l, i + 1, h => by
    have := filter_set l i (by simpa using h)
    cases b <;> simp [List.filter] <;> omega

section
variable {P : Program} {W : World} {B : Base} {G : Nat → Option AFunc} {rec : Exec} {nt : Nat} {opsA : Array Oper} {its : List (Nat × Oper × AOper)} {l : List AOper} {E : Nat → Env} {H : Nat → AHeap} {μ0 : Mu} {w0 : World} {a0 : Act}
variable {listed : Array Bool} {a : Act} {w : World} {μ : Mu} {q pn : Nat} {HS : AHeap} {lb : Nat → Nat}

def left (listed : Array Bool) : Nat := (listed.toList.filter (fun b => !b)).length

theorem ready_mem {ops : Array Oper} {i : Nat} (hsz : listed.size = ops.size) : i ∈ Region.ready .any ops listed ↔ ∃ o, ops.toList[i]? = some o ∧ listed.getD i false = false ∧ ∀ e ∈ afterOf o, listed.getD e false = true := by
  unfold Region.ready
  rw [List.mem_filter, List.mem_range, Bool.and_eq_true]
  have hg : ∀ o : Oper, (o.after.all fun e => !Region.binds .any e || listed.getD e.on false) = true ↔ ∀ e ∈ afterOf o, listed.getD e false = true := by
    intro o
    rw [Array.all_eq_true_iff_forall_mem]
    unfold afterOf
    constructor
    · intro h e he
      obtain ⟨x, hx, rfl⟩ := List.mem_map.1 he
      obtain ⟨h1, h2⟩ := List.mem_filter.1 hx
      have := h x (by simpa using h1)
      rw [h2] at this
      simpa using this
    · intro h x hx
      cases hb : Region.binds .any x
      · rfl
      · have := h x.on (List.mem_map.2 ⟨x, List.mem_filter.2 ⟨by simpa using hx, hb⟩, rfl⟩)
        simp [this]
  constructor
  · rintro ⟨hi, h1, h2⟩
    have ho : ops[i]? = some ops[i] := Array.getElem?_eq_getElem hi
    rw [ho] at h2
    simp only [Option.map_some, Option.getD_some] at h2
    refine ⟨ops[i], by simpa using ho, ?_, (hg _).1 h2⟩
    have hl : i < listed.size := by omega
    simp [Array.getD, hl] at h1 ⊢
    exact h1
  · rintro ⟨o, ho, h1, h2⟩
    have ho' : ops[i]? = some o := by simpa using ho
    have hi : i < ops.size := (Array.getElem?_eq_some_iff.1 ho').1
    refine ⟨hi, ?_, ?_⟩
    · have hl : i < listed.size := by omega
      simp [Array.getD, hl] at h1 ⊢
      exact h1
    · rw [ho']; simp only [Option.map_some, Option.getD_some]; exact (hg o).2 h2

theorem Ctx.all_in (C : Ctx P W B G rec nt opsA its l E H μ0 w0 a0) (hsz : listed.size = opsA.size) (hr : Region.ready .any opsA listed = []) : ∀ p, p < its.length → inS its listed p := by
  intro p
  induction p using Nat.strongRecOn with
  | ind p ih =>
    intro hp
    refine Classical.byContradiction fun hn => ?_
    have hx : its[p]? = some its[p] := List.getElem?_eq_getElem hp
    have hm := (C.dp.mem p _ hx).1
    have : its[p].1 ∈ Region.ready .any opsA listed := by
      refine (ready_mem hsz).2 ⟨its[p].2.1, hm, ?_, ?_⟩
      · cases hb : listed.getD its[p].1 false
        · rfl
        · exact absurd ((inS_at hx).2 hb) hn
      · intro e he
        have self := C.dp.self p _ hx
        obtain ⟨r, y, hy, hye⟩ := C.dp.all e (self.2.1 e he)
        have hma := masks_after hm he
        have hrl : r < its.length := (List.getElem?_eq_some_iff.1 hy).1
        rcases Nat.lt_trichotomy r p with h | h | h
        · have := ih r h hrl
          rw [← hye]; exact (inS_at hy).1 this
        · subst h
          rw [hx] at hy; cases hy
          rw [hye] at self
          rw [hye, self.1] at hma; cases hma
        · have pr := pair_of C h hx hy
          rw [hye, hma] at pr
          cases pr.1
    rw [hr] at this; cases this

theorem Ctx.done (C : Ctx P W B G rec nt opsA its l E H μ0 w0 a0) (I : Inv W B nt opsA its E H μ0 w0 a0 listed a w μ q pn HS lb) (hnx : pn < its.length → ∃ z, its[pn]? = some z ∧ akind z.2.2 = 3) (hr : Region.ready .any opsA listed = []) :
    Stp W μ0 (H 0) w0 μ (H its.length) w ∧ EnvR μ nt (E its.length) a.tmps ∧ a.defers = a0.defers := by
  have hall := C.all_in I.lsz hr
  have hpn : pn = its.length := by
    rcases Nat.lt_or_ge pn its.length with h | h
    · obtain ⟨z, hz, hz3⟩ := hnx h
      have := (I.lt pn z (Nat.le_refl _) hz (hall pn h)).1
      omega
    · have := I.pnn; omega
  subst hpn
  have hHS : HS = H its.length := by
    obtain ⟨_, hto⟩ := C.heapTo I its.length I.qp (Nat.le_refl _) fun r y _ hr2 _ _ => hall r hr2
    apply List.ext_getElem?
    intro i
    by_cases h : i < (H its.length).length
    · exact hto i h
    · rw [List.getElem?_eq_none (by have := I.hlen; omega), List.getElem?_eq_none (by omega)]
  subst hHS
  refine ⟨I.stp, ⟨by rw [I.sz]; exact C.he0.1, fun t ht => ?_⟩, I.df⟩
  by_cases hw : ∃ (r : Nat) (y : Nat × Oper × AOper), its[r]? = some y ∧ y.2.1.dst = some t
  · obtain ⟨r, y, hy, hd⟩ := hw
    have hrl : r < its.length := (List.getElem?_eq_some_iff.1 hy).1
    exact I.tw r y t hy hd ht (hall r hrl) hrl
  · rw [C.eg0 ht (r := 0) its.length (Nat.zero_le _) (Nat.le_refl _) fun r' y' _ _ hy' hd' => hw ⟨r', y', hy', hd'⟩]
    exact I.t0 t ht fun r' y' hy' hd' _ => hw ⟨r', y', hy', hd'⟩

theorem Ctx.step (C : Ctx P W B G rec nt opsA its l E H μ0 w0 a0) (I : Inv W B nt opsA its E H μ0 w0 a0 listed a w μ q pn HS lb) (hnx : pn < its.length → ∃ z, its[pn]? = some z ∧ akind z.2.2 = 3) {p : Nat} {x : Nat × Oper × AOper} (hx : its[p]? = some x) (hp : ¬ inS its listed p)
    (haft : ∀ e ∈ afterOf x.2.1, listed.getD e false = true) {K : Act → World → Prop} {Q : Exit → Act → World → Prop}
    (hK : ∀ a' w' μ' q' pn' HS' lb', Inv W B nt opsA its E H μ0 w0 a0 (listed.setIfInBounds x.1 true) a' w' μ' q' pn' HS' lb' → K a' w') :
    if Region.wanted x.2.1 (yielded opsA a.tmps) then x.2.1.wp P a w K Q ∨ (x.2.1.asks P a w ∧ LetsOut Q) else K (a.put x.2.1.dst undef) w := by
  have hpl : p < its.length := (List.getElem?_eq_some_iff.1 hx).1
  have hk3 := akind_le3 x.2.2
  have hpnS : ∀ z, its[pn]? = some z → akind z.2.2 = 3 → ¬ inS its listed pn := by
    intro z hz hz3 hS
    have := (I.lt pn z (Nat.le_refl _) hz hS).1; omega
  rcases Nat.lt_trichotomy p pn with h | h | h
  · by_cases h01 : akind x.2.2 = 0 ∨ akind x.2.2 = 1
    · exact C.step01 I hx hp haft h h01 fun a' w' μ' I' => hK a' w' μ' q pn HS lb I'
    · have hqp : q ≤ p := by
        refine Nat.le_of_not_lt fun hlt => ?_
        rcases I.qE with h0 | ⟨z, hz, hz3, hzS⟩
        · omega
        · have hne : p ≠ q - 1 := by rintro rfl; exact hp hzS
          have pr := pair_of C (by omega : p < q - 1) hx hz
          rcases pr.2.1 with h4 | ⟨h4, _⟩
          · exact hp (C.before' I.cl hz hzS hx h4)
          · rw [hz3] at h4
            have : akind x.2.2 = 2 ∨ akind x.2.2 = 3 := by omega
            rcases this with e | e <;> rw [e] at h4 <;> cases h4
      have hne3 := I.e2 p x hqp h hx
      exact C.step2 I hx hp haft (by omega) (.inl ⟨hqp, h⟩) fun a' w' μ' HS' lb' I' => hK a' w' μ' q pn HS' lb' I'
  · subst h
    obtain ⟨z, hz, hz3⟩ := hnx hpl
    rw [hx] at hz; cases hz
    exact C.step3 I hx hp haft hz3 fun a' w' μ' HS' I' => hK a' w' μ' (p + 1) (p + 1) HS' lb I'
  · obtain ⟨z, hz, hz3⟩ := hnx (by omega)
    have hzS := hpnS z hz hz3
    have hk2 : akind x.2.2 = 2 := by
      have pr := pair_of C h hz hx
      rcases pr.2.1 with h4 | ⟨h4, _⟩
      · exact absurd (C.before I.cl hx haft hz h4) hzS
      · rw [hz3] at h4
        have : akind x.2.2 = 0 ∨ akind x.2.2 = 1 ∨ akind x.2.2 = 2 ∨ akind x.2.2 = 3 := by omega
        rcases this with e | e | e | e
        · rw [e] at h4; cases h4
        · rw [e] at h4; cases h4
        · exact e
        · rw [e] at h4; cases h4
    exact C.step2 I hx hp haft hk2 (.inr ⟨h, z, hz, hz3, hzS⟩) fun a' w' μ' HS' lb' I' => hK a' w' μ' q pn HS' lb' I'

theorem Ctx.any (C : Ctx P W B G rec nt opsA its l E H μ0 w0 a0) {Q : Exit → Act → World → Prop}
    (hQ : ∀ μ a w, Stp W μ0 (H 0) w0 μ (H its.length) w → EnvR μ nt (E its.length) a.tmps → a.defers = a0.defers → Q .normal a w) :
    ∀ (fuel : Nat) (listed : Array Bool) (a : Act) (w : World) (μ : Mu) (q pn : Nat) (HS : AHeap) (lb : Nat → Nat), left listed ≤ fuel → Inv W B nt opsA its E H μ0 w0 a0 listed a w μ q pn HS lb → wpAny P .any opsA Q fuel listed a w := by
  have MEM : ∀ {listed : Array Bool} {i : Nat}, listed.size = opsA.size → i ∈ Region.ready .any opsA listed → listed.toList[i]? = some false := by
    intro listed i hsz hi
    obtain ⟨o, ho, h1, _⟩ := (ready_mem hsz).1 hi
    have hl : i < opsA.toList.length := (List.getElem?_eq_some_iff.1 ho).1
    have hl : i < listed.size := by rw [hsz]; simpa using hl
    simp [Array.getD, hl] at h1
    simp [hl, h1]
  have END : ∀ {listed : Array Bool} {a w μ q pn HS lb}, Inv W B nt opsA its E H μ0 w0 a0 listed a w μ q pn HS lb → Region.ready .any opsA listed = [] → Q .normal a w := by
    intro listed a w μ q pn HS lb I hr
    obtain ⟨μ', pn', HS', I', hnx⟩ := C.toNext _ pn μ HS rfl I
    obtain ⟨h1, h2, h3⟩ := C.done I' hnx hr
    exact hQ _ _ _ h1 h2 h3
  intro fuel
  induction fuel with
  | zero =>
    intro listed a w μ q pn HS lb hf I
    have hr : Region.ready .any opsA listed = [] := by
      refine List.eq_nil_iff_forall_not_mem.2 fun i hi => ?_
      have := filter_set _ _ (MEM I.lsz hi)
      unfold left at hf; omega
    exact ⟨hr, END I hr⟩
  | succ fuel ih =>
    intro listed a w μ q pn HS lb hf I
    refine ⟨END I, fun i hi => ?_⟩
    obtain ⟨μ', pn', HS', I', hnx⟩ := C.toNext _ pn μ HS rfl I
    obtain ⟨o, ho, h1, h2⟩ := (ready_mem I.lsz).1 hi
    have hcnt := filter_set _ _ (MEM I.lsz hi)
    obtain ⟨p, x, hx, hxi⟩ := C.dp.all i (List.getElem?_eq_some_iff.1 ho).1
    subst hxi
    have hm := (C.dp.mem p x hx).1
    rw [ho] at hm; cases hm
    unfold wpOp
    have ho' : opsA[x.1]? = some x.2.1 := by simpa using ho
    rw [ho']
    simp only
    refine C.step I' hnx hx (fun hS => ?_) h2 fun a' w' μ' q' pn' HS' lb' I' => ih _ a' w' μ' q' pn' HS' lb' ?_ I'
    · rw [(inS_at hx).1 hS] at h1; cases h1
    · unfold left at hf ⊢
      rw [Array.toList_setIfInBounds]; omega

theorem drawOk_any (hm : P.follows .mixedOrders = true) (hB : BaseOk W B) (hG : GOk P G) : DrawOk P W B G := by
  intro rec hrec nt id ops l env h env' h' hnt hc hr μ w a s he Q hQ
  have dp := DPlan.of hc
  obtain ⟨E, H, e0, e1, e2, e3, e4⟩ := runOps_tr l env h env' h' hr
  have C : Ctx P W B G rec nt ops (drawItems P nt ops.toList) l E H μ w.drew a := ⟨hB, hG, hrec, hnt, dp, e4, by rw [e1]; exact s.drew, by rw [e0]; exact he⟩
  rw [dp.llen] at e2 e3
  refine wp_region_any hm (C.any (Q := Q) ?_ ops.size (Array.replicate ops.size false) a w.drew μ 0 0 (H 0) (fun _ => 0) ?_ ?_)
  · intro μ' a' w' st hen hd
    rw [e1, e3] at st
    rw [e2] at hen
    exact hQ μ' a' w' ((Stp.drew s).trans s st) hen hd
  · unfold left
    refine Nat.le_trans (List.length_filter_le _ _) ?_
    simp
  · have no : ∀ p, ¬ inS (drawItems P nt ops.toList) (Array.replicate ops.size false) p := by
      rintro p ⟨x, hx, h⟩
      have hf : ∀ j, (Array.replicate ops.size false).getD j false = false := by
        intro j
        by_cases hj : j < ops.size <;> simp [Array.getD, hj]
      rw [hf] at h; cases h
    refine ⟨by simp, ?_, Nat.le_refl _, Nat.zero_le _, .inl rfl, fun p x h1 h2 => by omega, fun p x _ _ hS => absurd hS (no p), fun p p' _ _ hS => absurd hS (no p), .refl C.s0, Nat.le_refl _, rfl, fun _ _ => rfl, fun r _ _ hS => absurd hS (no r), fun r h1 h2 => by omega, rfl, rfl, fun p x t _ _ _ hS => absurd hS (no p), fun t ht _ => C.he0.2 t ht⟩
    intro j o ho hj
    have hf : (Array.replicate ops.size false).getD j false = false := by
      by_cases hj : j < ops.size <;> simp [Array.getD, hj]
    rw [hf] at hj; cases hj

/- the run of a function is the model's run -/
theorem callN_sound (hm : P.follows .mixedOrders = true) (hB : BaseOk W B) (hG : GOk P G) {n f : Nat} {args : List AV} {h h' : AHeap} {v : AV} {μ : Mu} {w : World} (hc : callN B G n f args h = some (v, h')) (s : Sim W μ h w) {us : Array Value}
    (hv : VRs μ args us.toList) : Calls P f us w fun e w' => ∃ u μ', e = .returned u ∧ VR μ' v u ∧ Stp W μ h w μ' h' w' := by
  unfold callN at hc
  exact call_sound hB hG (exec_sound hB hG (drawOk_any hm hB hG) n).1 hc s hv

end
end Go.Proofs.Ytohjmflbgohkhaa.E
