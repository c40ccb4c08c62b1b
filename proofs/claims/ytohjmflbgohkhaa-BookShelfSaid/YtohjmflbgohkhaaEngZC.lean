/- Regions that draw their order: the invariant of any order. -/
import Derived.Test.YtohjmflbgohkhaaEngZB
namespace Go.Proofs.Ytohjmflbgohkhaa.E
set_option linter.all false
open Go

theorem kindOf_le (ao : AOp) : kindOf ao ≤ 3 := by cases ao <;> simp [kindOf]

theorem akind_le3 (a : AOper) : akind a ≤ 3 := by
  have := kindOf_le a.op
  unfold akind
  split <;> first | omega | exact this

def inS (its : List (Nat × Oper × AOper)) (listed : Array Bool) (p : Nat) : Prop := ∃ x, its[p]? = some x ∧ listed.getD x.1 false = true

/- a block that has come up ahead of its turn -/
def LateR (B : Base) (nt : Nat) (w0 : World) (e : Env) (x : Nat × Oper × AOper) (w : World) (μ : Mu) (a : Act) (b : Nat) : Prop :=
  ∃ (cs : List AV) (c : Array Value) (ty : TypeId) (mk : Nat → AV) (u : Nat → Value), (∀ h2 : AHeap, evalOp B e h2 x.2.2.op = some (.val (mk h2.length) (h2 ++ [.cells cs]))) ∧ w0.heap.size ≤ b ∧ b < w.heap.size ∧
    (∀ i pl, μ i = some pl → pl.blk ≠ b) ∧ w.heap[b]? = some (.cells c ty (0, 0)) ∧ VRs μ cs (c.toList.take cs.length) ∧ allOneP cs ∧ cs.length ≤ c.size ∧
    (∀ (μ2 : Mu) i n room, μ2 i = some ⟨n, 0, room⟩ → VR μ2 (mk i) (u n)) ∧ ∀ t, x.2.1.dst = some t → t < nt → a.tmps.getD t undef = u b

structure Inv (W : World) (B : Base) (nt : Nat) (opsA : Array Oper) (its : List (Nat × Oper × AOper)) (E : Nat → Env) (H : Nat → AHeap) (μ0 : Mu) (w0 : World) (a0 : Act)
    (listed : Array Bool) (a : Act) (w : World) (μ : Mu) (q pn : Nat) (HS : AHeap) (lb : Nat → Nat) : Prop where
  lsz : listed.size = opsA.size
  cl : Closed opsA.toList (fun j => listed.getD j false = true)
  qp : q ≤ pn
  pnn : pn ≤ its.length
  qE : q = 0 ∨ ∃ x, its[q - 1]? = some x ∧ akind x.2.2 = 3 ∧ inS its listed (q - 1)
  e2 : ∀ (p : Nat) x, q ≤ p → p < pn → its[p]? = some x → akind x.2.2 ≠ 3
  lt : ∀ (p : Nat) x, pn ≤ p → its[p]? = some x → inS its listed p → akind x.2.2 = 2 ∧ LateR B nt w0 (E p) x w μ a (lb p)
  lb1 : ∀ p p', pn ≤ p → pn ≤ p' → inS its listed p → inS its listed p' → lb p = lb p' → p = p'
  stp : Stp W μ0 (H 0) w0 μ HS w
  h0q : (H 0).length ≤ (H q).length
  hlen : HS.length = (H pn).length
  hq : ∀ i, i < (H q).length → HS[i]? = (H q)[i]?
  hin : ∀ r, q ≤ r → r < pn → inS its listed r → ∀ i, (H r).length ≤ i → i < (H (r + 1)).length → HS[i]? = (H (r + 1))[i]?
  hout : ∀ r, q ≤ r → r < pn → ¬ inS its listed r → ∀ i, (H r).length ≤ i → i < (H (r + 1)).length → HS[i]? = some .dead ∧ μ i = none
  df : a.defers = a0.defers
  sz : a.tmps.size = a0.tmps.size
  tw : ∀ (p : Nat) x t, its[p]? = some x → x.2.1.dst = some t → t < nt → inS its listed p → p < pn → VR μ ((E its.length).get (pathOf 64 t)) (a.tmps.getD t undef)
  t0 : ∀ t, t < nt → (∀ (p : Nat) x, its[p]? = some x → x.2.1.dst = some t → ¬ inS its listed p) → VR μ ((E 0).get (pathOf 64 t)) (a.tmps.getD t undef)

section
variable {P : Program} {W : World} {B : Base} {G : Nat → Option AFunc} {rec : Exec} {nt : Nat} {opsA : Array Oper} {its : List (Nat × Oper × AOper)} {l : List AOper} {E : Nat → Env} {H : Nat → AHeap} {μ0 : Mu} {w0 : World} {a0 : Act}
variable {listed : Array Bool} {a : Act} {w : World} {μ : Mu} {q pn : Nat} {HS : AHeap} {lb : Nat → Nat}

theorem Ctx.pos (C : Ctx P W B G rec nt opsA its l E H μ0 w0 a0) {p q : Nat} {x y : Nat × Oper × AOper} (hx : its[p]? = some x) (hy : its[q]? = some y) (h : x.1 = y.1) : p = q := by
  have h1 : (its.map (·.1))[p]? = some x.1 := by simp [hx]
  have h2 : (its.map (·.1))[q]? = some y.1 := by simp [hy]
  have hp : p < (its.map (·.1)).length := (List.getElem?_eq_some_iff.1 h1).1
  exact (List.getElem?_inj hp C.dp.nodup).1 (by rw [h1, h2, h])

theorem inS_at {p : Nat} {x : Nat × Oper × AOper} (hx : its[p]? = some x) : inS its listed p ↔ listed.getD x.1 false = true :=
  ⟨fun ⟨y, hy, h⟩ => by rw [hx] at hy; cases hy; exact h, fun h => ⟨x, hx, h⟩⟩

/- who waits for whom -/
theorem Ctx.before (C : Ctx P W B G rec nt opsA its l E H μ0 w0 a0) (hcl : Closed opsA.toList (fun j => listed.getD j false = true)) {p : Nat} {x : Nat × Oper × AOper} (hx : its[p]? = some x)
    (haft : ∀ e ∈ afterOf x.2.1, listed.getD e false = true) {r : Nat} {y : Nat × Oper × AOper} (hy : its[r]? = some y) (hm : ((masksOf opsA.toList []).getD x.1 0).testBit y.1 = true) : inS its listed r :=
  ⟨y, hy, masks_good (C.dp.mem p x hx).1 hm hcl haft⟩

theorem Ctx.before' (C : Ctx P W B G rec nt opsA its l E H μ0 w0 a0) (hcl : Closed opsA.toList (fun j => listed.getD j false = true)) {p : Nat} {x : Nat × Oper × AOper} (hx : its[p]? = some x) (hp : inS its listed p)
    {r : Nat} {y : Nat × Oper × AOper} (hy : its[r]? = some y) (hm : ((masksOf opsA.toList []).getD x.1 0).testBit y.1 = true) : inS its listed r :=
  C.before hcl hx (hcl x.1 x.2.1 (C.dp.mem p x hx).1 ((inS_at hx).1 hp)) hy hm

theorem apart_dst {ops : List Oper} {x y : Oper} {t : Tmp} (h : apartB ops x y = true) : (x.dst = some t → t ∉ looksOf ops y) ∧ (y.dst = some t → t ∉ looksOf ops x) := by
  unfold apartB at h
  simp only [Bool.and_eq_true] at h
  refine ⟨fun hd => ?_, fun hd => ?_⟩
  · rw [hd] at h
    have := h.1
    simp only [Bool.and_eq_true, Bool.not_eq_true'] at this
    intro hm
    have h2 := List.contains_iff_mem.2 hm
    rw [this.1] at h2; cases h2
  · rw [hd] at h
    have := h.2
    simp only [Bool.not_eq_true'] at this
    intro hm
    have h2 := List.contains_iff_mem.2 hm
    rw [this] at h2; cases h2

theorem pair_of (C : Ctx P W B G rec nt opsA its l E H μ0 w0 a0) {p q : Nat} {x y : Nat × Oper × AOper} (hpq : p < q) (hx : its[p]? = some x) (hy : its[q]? = some y) :
    ((masksOf opsA.toList []).getD x.1 0).testBit y.1 = false ∧ (((masksOf opsA.toList []).getD y.1 0).testBit x.1 = true ∨ (mayPass (akind x.2.2) (akind y.2.2) = true ∧ apartB opsA.toList x.2.1 y.2.1 = true)) ∧
      (akind x.2.2 = 1 → dstIn y.2.1 (looksOf opsA.toList x.2.1) = false) := by
  have := C.dp.ord p q x y hpq hx hy
  unfold pairOk at this
  simp only [Bool.and_eq_true, Bool.or_eq_true, Bool.not_eq_true'] at this
  refine ⟨this.1.1.1, this.1.1.2, fun hk => ?_⟩
  have h4 := this.2
  rw [hk] at h4
  simpa using h4

/- what an operation that may come up looks at is there -/
theorem Ctx.opds (C : Ctx P W B G rec nt opsA its l E H μ0 w0 a0) (I : Inv W B nt opsA its E H μ0 w0 a0 listed a w μ q pn HS lb) {p : Nat} {x : Nat × Oper × AOper} (hx : its[p]? = some x) (hp : ¬ inS its listed p)
    (haft : ∀ e ∈ afterOf x.2.1, listed.getD e false = true) (hk : p ≤ pn ∨ (akind x.2.2 = 2 ∧ ∃ z, its[pn]? = some z ∧ akind z.2.2 = 3 ∧ ¬ inS its listed pn)) :
    ∀ t ∈ looksOf opsA.toList x.2.1, t < nt → VR μ ((E p).get (pathOf 64 t)) (a.tmps.getD t undef) := by
  intro t ht hlt
  have hpl : p < its.length := (List.getElem?_eq_some_iff.1 hx).1
  by_cases hw : ∃ (r : Nat) (y : Nat × Oper × AOper), its[r]? = some y ∧ y.2.1.dst = some t
  · obtain ⟨r, y, hy, hd⟩ := hw
    have hrl : r < its.length := (List.getElem?_eq_some_iff.1 hy).1
    by_cases hrp : r < p
    · have pr := pair_of C hrp hy hx
      have hm : ((masksOf opsA.toList []).getD x.1 0).testBit y.1 = true := by
        rcases pr.2.1 with h | ⟨_, h⟩
        · exact h
        · exact absurd ht ((apart_dst h).1 hd)
      have hrS := C.before I.cl hx haft hy hm
      have hrpn : r < pn := by
        rcases hk with hk | ⟨hk2, z, hz, hz3, hzS⟩
        · omega
        · by_cases h : r < pn
          · exact h
          · exfalso
            have h2 := (I.lt r y (by omega) hy hrS).1
            have hne : r ≠ pn := by rintro rfl; rw [hz] at hy; cases hy; omega
            rcases C.dp.late pn r p z y x (by omega) hrp hz hy hx hz3 h2 hk2 with h3 | h3
            · exact hzS (C.before I.cl hx haft hz h3)
            · rw [h3] at hm; cases hm
      rw [C.eg1 hlt hy hd hrp (by omega), ← C.eg1 hlt hy hd (by omega : r < its.length) (Nat.le_refl _)]
      exact I.tw r y t hy hd hlt hrS hrpn
    · rw [C.eg0 hlt (r := 0) p (Nat.zero_le _) (by omega) fun r' y' _ hr' hy' hd' => by have := C.uniq hy hy' hd hd'; omega]
      refine I.t0 t hlt fun r' y' hy' hd' hS => ?_
      have : r = r' := C.uniq hy hy' hd hd'
      subst this
      rw [hy] at hy'; cases hy'
      by_cases he : r = p
      · subst he; exact hp hS
      · have pr := pair_of C (by omega : p < r) hx hy
        rcases pr.2.1 with h | ⟨_, h⟩
        · exact hp (C.before' I.cl hy hS hx h)
        · exact absurd ht ((apart_dst h).2 hd)
  · rw [C.eg0 hlt (r := 0) p (Nat.zero_le _) (by omega) fun r' y' _ _ hy' hd' => hw ⟨r', y', hy', hd'⟩]
    exact I.t0 t hlt fun r' y' hy' hd' _ => hw ⟨r', y', hy', hd'⟩

/- the heap, as far as all before has come up -/
theorem Ctx.heapTo (C : Ctx P W B G rec nt opsA its l E H μ0 w0 a0) (I : Inv W B nt opsA its E H μ0 w0 a0 listed a w μ q pn HS lb) : ∀ s, q ≤ s → s ≤ pn →
    (∀ (r : Nat) x, q ≤ r → r < s → its[r]? = some x → akind x.2.2 = 2 → inS its listed r) → (H q).length ≤ (H s).length ∧ ∀ i, i < (H s).length → HS[i]? = (H s)[i]? := by
  intro s
  induction s with
  | zero => intro h _ _; have : q = 0 := by omega
            subst this; exact ⟨Nat.le_refl _, I.hq⟩
  | succ s ih =>
    intro h1 h2 h3
    by_cases he : q = s + 1
    · rw [← he]; exact ⟨Nat.le_refl _, I.hq⟩
    · obtain ⟨i1, i2⟩ := ih (by omega) (by omega) fun r x a b => h3 r x a (by omega)
      have hsl : s < its.length := by have := I.pnn; omega
      have hx : its[s]? = some its[s] := List.getElem?_eq_getElem hsl
      have hk3 := I.e2 s _ (by omega) (by omega) hx
      by_cases hk : akind its[s].2.2 = 2
      · obtain ⟨ao, d, cs, mk, _, _, _, _, _, _, hH, _⟩ := C.heap2 hx hk
        refine ⟨by rw [hH]; simp; omega, fun i hi => ?_⟩
        by_cases hlt : i < (H s).length
        · rw [i2 i hlt, hH, List.getElem?_append_left hlt]
        · exact I.hin s (by omega) (by omega) (h3 s _ (by omega) (by omega) hx hk) i (by omega) hi
      · have hH := C.heap01 hx (by
          have := akind_le3 its[s].2.2
          omega)
        rw [hH]; exact ⟨i1, i2⟩

end
end Go.Proofs.Ytohjmflbgohkhaa.E
