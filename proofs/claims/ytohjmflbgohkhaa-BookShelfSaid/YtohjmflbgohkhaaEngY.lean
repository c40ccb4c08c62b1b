/- Regions that draw their order: what the check of the order that is laid says. -/
import Derived.Test.YtohjmflbgohkhaaEngX
namespace Go.Proofs.Ytohjmflbgohkhaa.E
set_option linter.all false
open Go

section
variable {P : Program} {W : World} {μ : Mu} {h : AHeap} {w : World} {nt : Nat} {env : Env} {a : Act} {B : Base} {G : Nat → Option AFunc} {rec : Exec}

/- masks -/
def Closed (ops : List Oper) (S : Nat → Prop) : Prop := ∀ (j : Nat) (o : Oper), ops[j]? = some o → S j → ∀ e ∈ afterOf o, S e

def MaskGood (ops : List Oper) (o : Oper) (m : Nat) : Prop := (∀ S, Closed ops S → (∀ e ∈ afterOf o, S e) → ∀ i, m.testBit i = true → S i) ∧ ∀ e ∈ afterOf o, m.testBit e = true

theorem maskOf_good {ops : List Oper} {o : Oper} {acc : List Nat} (hacc : ∀ (j : Nat) (o : Oper) (m : Nat), ops[j]? = some o → acc[j]? = some m → MaskGood ops o m) (hin : ∀ (j : Nat) (m : Nat), acc[j]? = some m → ∃ o, ops[j]? = some o) :
    ∀ {l : List Nat}, (∀ e ∈ l, e ∈ afterOf o) → (∀ S, Closed ops S → (∀ e ∈ afterOf o, S e) → ∀ i, (maskOf acc l).testBit i = true → S i) ∧ ∀ e ∈ l, (maskOf acc l).testBit e = true
  | [], _ => ⟨fun S _ _ i hi => by simp [maskOf] at hi, by simp⟩
  | e :: l, hl => by
    obtain ⟨h1, h2⟩ := maskOf_good hacc hin (l := l) fun x hx => hl x (by simp [hx])
    refine ⟨fun S hS hafter i hi => ?_, fun x hx => ?_⟩
    · simp only [maskOf, Nat.testBit_or, Bool.or_eq_true] at hi
      rcases hi with (hi | hi) | hi
      · rw [Nat.testBit_two_pow] at hi
        have : e = i := by simpa using hi
        subst this; exact hafter e (hl e (by simp))
      · cases hm : acc[e]? with
        | none => rw [List.getD_eq_getElem?_getD, hm] at hi; simp at hi
        | some m =>
          rw [List.getD_eq_getElem?_getD, hm] at hi
          obtain ⟨oe, hoe⟩ := hin e m hm
          have he : S e := hafter e (hl e (by simp))
          exact (hacc e oe m hoe hm).1 S hS (hS e oe hoe he) i hi
      · exact h1 S hS hafter i hi
    · simp only [maskOf, Nat.testBit_or, Bool.or_eq_true]
      rcases List.mem_cons.1 hx with rfl | hx
      · left; left; rw [Nat.testBit_two_pow]; simp
      · exact .inr (h2 x hx)

theorem masksOf_good {ops : List Oper} : ∀ (l : List Oper) (acc : List Nat), ops.drop acc.length = l → (∀ (j : Nat) (o : Oper) (m : Nat), ops[j]? = some o → acc[j]? = some m → MaskGood ops o m) → acc.length ≤ ops.length →
    ∀ (j : Nat) (o : Oper) (m : Nat), ops[j]? = some o → (masksOf l acc)[j]? = some m → MaskGood ops o m
  | [], acc, _, hacc, _ => hacc
  | o :: l, acc, hl, hacc, hle => by
    simp only [masksOf]
    have hlt : acc.length < ops.length := by
      have := congrArg List.length hl
      simp at this; omega
    have ho : ops[acc.length]? = some o := by
      have := congrArg (fun l : List Oper => l[0]?) hl
      simpa using this
    refine masksOf_good l _ ?_ ?_ (by simp; omega)
    · have := congrArg List.tail hl
      simpa using this
    · intro j o' m hj hm
      by_cases e : j = acc.length
      · subst e
        rw [ho] at hj; cases hj
        simp at hm; subst hm
        have := maskOf_good (o := o) hacc (fun j m hm => by
          have := (List.getElem?_eq_some_iff.1 hm).1
          exact ⟨ops[j], List.getElem?_eq_getElem (by omega)⟩) (l := afterOf o) (fun e he => he)
        exact ⟨this.1, this.2⟩
      · have hj2 : j < acc.length := by
          have := (List.getElem?_eq_some_iff.1 hm).1
          simp at this; omega
        rw [List.getElem?_append_left hj2] at hm
        exact hacc j o' m hj hm

theorem masks_good {ops : List Oper} {j : Nat} {o : Oper} (hj : ops[j]? = some o) {i : Nat} (hi : ((masksOf ops []).getD j 0).testBit i = true) {S : Nat → Prop} (hS : Closed ops S) (ha : ∀ e ∈ afterOf o, S e) : S i := by
  rw [List.getD_eq_getElem?_getD] at hi
  cases hm : (masksOf ops [])[j]? with
  | none => rw [hm] at hi; simp at hi
  | some m =>
    rw [hm] at hi
    exact (masksOf_good ops [] (by simp) (by simp) (by simp) j o m hj hm).1 S hS ha i hi

theorem masksOf_length : ∀ (l : List Oper) (acc : List Nat), (masksOf l acc).length = acc.length + l.length
  | [], acc => by simp [masksOf]
  | o :: l, acc => by simp [masksOf, masksOf_length l]; omega

theorem masks_after {ops : List Oper} {j : Nat} {o : Oper} (hj : ops[j]? = some o) {e : Nat} (he : e ∈ afterOf o) : ((masksOf ops []).getD j 0).testBit e = true := by
  have hlt := (List.getElem?_eq_some_iff.1 hj).1
  have : j < (masksOf ops []).length := by rw [masksOf_length]; simpa using hlt
  rw [List.getD_eq_getElem?_getD, List.getElem?_eq_getElem this]
  exact (masksOf_good ops [] (by simp) (by simp) (by simp) j o _ hj (List.getElem?_eq_getElem this)).2 e he

/- a run, step by step -/
theorem runOps_tr : ∀ (l : List AOper) (env : Env) (h : AHeap) (env' : Env) (h' : AHeap), runOps B G rec l env h = some (env', h') →
    ∃ (E : Nat → Env) (H : Nat → AHeap), E 0 = env ∧ H 0 = h ∧ E l.length = env' ∧ H l.length = h' ∧
      ∀ p a, l[p]? = some a → opStep B G rec a (E p) (H p) = some (E (p + 1), H (p + 1)) ∧ againOk B (E (p + 1)) (H (p + 1)) a.again = true
  | [], env, h, env', h', hr => by
    simp only [runOps, Option.some.injEq, Prod.mk.injEq] at hr
    obtain ⟨rfl, rfl⟩ := hr
    exact ⟨fun _ => env, fun _ => h, rfl, rfl, rfl, rfl, by simp⟩
  | o :: l, env, h, env', h', hr => by
    simp only [runOps] at hr
    split at hr
    · rename_i env1 h1 hst
      split at hr
      · rename_i hag
        obtain ⟨E, H, e0, e1, e2, e3, e4⟩ := runOps_tr l env1 h1 env' h' hr
        refine ⟨fun p => match p with | 0 => env | p + 1 => E p, fun p => match p with | 0 => h | p + 1 => H p, rfl, rfl, e2, e3, ?_⟩
        intro p a hp
        cases p with
        | zero => simp at hp; subst hp; simp only [e0, e1]; exact ⟨hst, hag⟩
        | succ p => exact e4 p a (by simpa using hp)
      · cases hr
    · cases hr

theorem layOps_get {masks : List Nat} : ∀ (its before : List (Nat × Oper × AOper)) (p : Nat) (x : Nat × Oper × AOper), its[p]? = some x →
    (layOps masks before its)[p]? = some { x.2.2 with again := againFor masks (x.1, akind x.2.2) ((its.take p).reverse ++ before) }
  | [], _, p, x, h => by simp at h
  | (i, o, a) :: r, before, 0, x, h => by simp at h; subst h; simp [layOps]
  | (i, o, a) :: r, before, p + 1, x, h => by
    simp only [layOps, List.getElem?_cons_succ]
    rw [layOps_get r _ p x (by simpa using h)]
    simp

theorem layOps_length {masks : List Nat} : ∀ (its before : List (Nat × Oper × AOper)), (layOps masks before its).length = its.length
  | [], _ => rfl
  | (i, o, a) :: r, before => by simp [layOps, layOps_length r]

/- the plan of a region -/
structure DPlan (P : Program) (nt : Nat) (ops : List Oper) (its : List (Nat × Oper × AOper)) (l : List AOper) : Prop where
  len : its.length = ops.length
  nodup : (its.map (·.1)).Nodup
  all : ∀ i, i < ops.length → ∃ (p : Nat) (x : Nat × Oper × AOper), its[p]? = some x ∧ x.1 = i
  mem : ∀ (p : Nat) x, its[p]? = some x → ops[x.1]? = some x.2.1 ∧ x.2.2 = cOper P nt ops x.2.1
  self : ∀ (p : Nat) x, its[p]? = some x → ((masksOf ops []).getD x.1 0).testBit x.1 = false ∧ (∀ e ∈ afterOf x.2.1, e < ops.length) ∧ (akind x.2.2 = 1 → dstIn x.2.1 (looksOf ops x.2.1) = false)
  ord : ∀ (p q : Nat) x y, p < q → its[p]? = some x → its[q]? = some y → pairOk ops (masksOf ops []) (x.1, x.2.1, akind x.2.2) (y.1, y.2.1, akind y.2.2) = true
  late : ∀ (p r s : Nat) x y z, p < r → r < s → its[p]? = some x → its[r]? = some y → its[s]? = some z → akind x.2.2 = 3 → akind y.2.2 = 2 → akind z.2.2 = 2 →
    ((masksOf ops []).getD z.1 0).testBit x.1 = true ∨ ((masksOf ops []).getD z.1 0).testBit y.1 = false
  lay : ∀ (p : Nat) x, its[p]? = some x → l[p]? = some { x.2.2 with again := againFor (masksOf ops []) (x.1, akind x.2.2) (its.take p).reverse }
  llen : l.length = its.length

theorem selfOk_get {ops : List Oper} {masks : List Nat} {n : Nat} {its : List (Nat × Oper × AOper)} (h : selfOk ops masks n its = true) (p : Nat) (x : Nat × Oper × AOper) (hx : its[p]? = some x) :
    (masks.getD x.1 0).testBit x.1 = false ∧ (∀ e ∈ afterOf x.2.1, e < n) ∧ (akind x.2.2 = 1 → dstIn x.2.1 (looksOf ops x.2.1) = false) := by
  induction its generalizing p with
  | nil => simp at hx
  | cons y r ih =>
    simp only [selfOk, Bool.and_eq_true, Bool.not_eq_true', List.all_eq_true, Nat.blt_eq] at h
    cases p with
    | zero =>
      simp at hx; subst hx
      refine ⟨h.1.1.1, h.1.1.2, fun hk => ?_⟩
      have := h.1.2
      rw [hk] at this; simpa using this
    | succ p => exact ih h.2 p (by simpa using hx)

theorem orderOk_get {ops : List Oper} {masks : List Nat} {l : List (Nat × Oper × Nat)} (h : orderOk ops masks l = true) (p q : Nat) (x y : Nat × Oper × Nat) (hpq : p < q) (hx : l[p]? = some x) (hy : l[q]? = some y) :
    pairOk ops masks x y = true := by
  induction l generalizing p q with
  | nil => simp at hx
  | cons z r ih =>
    simp only [orderOk, Bool.and_eq_true, List.all_eq_true] at h
    cases q with
    | zero => omega
    | succ q =>
      cases p with
      | zero => simp at hx; subst hx; exact h.1 y (List.mem_of_getElem? (by simpa using hy))
      | succ p => exact ih h.2 p q (by omega) (by simpa using hx) (by simpa using hy)

theorem lateFrom_get {masks : List Nat} {i : Nat} {l : List (Nat × Oper × Nat)} (h : lateOk.lateFrom masks i l = true) (r s : Nat) (y z : Nat × Oper × Nat) (hrs : r < s) (hy : l[r]? = some y) (hz : l[s]? = some z)
    (ky : y.2.2 = 2) (kz : z.2.2 = 2) : (masks.getD z.1 0).testBit i = true ∨ (masks.getD z.1 0).testBit y.1 = false := by
  induction l generalizing r s with
  | nil => simp at hy
  | cons u l ih =>
    simp only [lateOk.lateFrom, Bool.and_eq_true, Bool.or_eq_true, List.all_eq_true] at h
    cases s with
    | zero => omega
    | succ s =>
      cases r with
      | zero =>
        simp at hy; subst hy
        rcases h.1 with h1 | h1
        · simp [ky] at h1
        · have := h1 z (List.mem_of_getElem? (by simpa using hz))
          simpa [kz] using this
      | succ r => exact ih h.2 r s (by omega) (by simpa using hy) (by simpa using hz)

theorem lateOk_get {masks : List Nat} {l : List (Nat × Oper × Nat)} (h : lateOk masks l = true) (p r s : Nat) (x y z : Nat × Oper × Nat) (hpr : p < r) (hrs : r < s) (hx : l[p]? = some x) (hy : l[r]? = some y) (hz : l[s]? = some z)
    (kx : x.2.2 = 3) (ky : y.2.2 = 2) (kz : z.2.2 = 2) : (masks.getD z.1 0).testBit x.1 = true ∨ (masks.getD z.1 0).testBit y.1 = false := by
  induction l generalizing p r s with
  | nil => simp at hx
  | cons u l ih =>
    simp only [lateOk, Bool.and_eq_true, Bool.or_eq_true] at h
    obtain ⟨r, rfl⟩ : ∃ k, r = k + 1 := ⟨r - 1, by omega⟩
    obtain ⟨s, rfl⟩ : ∃ k, s = k + 1 := ⟨s - 1, by omega⟩
    cases p with
    | zero =>
      simp at hx; subst hx
      rcases h.1 with h1 | h1
      · simp [kx] at h1
      · exact lateFrom_get h1 r s y z (by omega) (by simpa using hy) (by simpa using hz) ky kz
    | succ p => exact ih h.2 p r s (by omega) (by omega) (by simpa using hx) (by simpa using hy) (by simpa using hz)

theorem cOpers_get {ops : List Oper} : ∀ (l : List Oper) (i : Nat), (cOpers P nt ops l)[i]? = (l[i]?).map (cOper P nt ops)
  | [], i => by simp [cOpers]
  | o :: l, 0 => by simp [cOpers]
  | o :: l, i + 1 => by simp [cOpers, cOpers_get l i]

theorem DPlan.of {ops : List Oper} {l : List AOper} (hc : cDraw P nt ops = some l) : DPlan P nt ops (drawItems P nt ops) l := by
  unfold cDraw at hc
  split at hc
  · rename_i hd
    cases hc
    unfold drawOk at hd
    simp only [Bool.and_eq_true] at hd
    obtain ⟨⟨⟨⟨⟨h1, h2⟩, h3⟩, h4⟩, h5⟩, h6⟩ := hd
    refine ⟨Nat.eq_of_beq_eq_true h1, of_decide_eq_true h2, ?_, ?_, fun p x hx => selfOk_get h4 p x hx, ?_, ?_, ?_, layOps_length _ _⟩
    · intro i hi
      have := List.all_eq_true.1 h3 i (by simpa using hi)
      have := List.contains_iff_mem.1 this
      obtain ⟨x, hx, rfl⟩ := List.mem_map.1 this
      obtain ⟨p, hp⟩ := List.mem_iff_getElem?.1 hx
      exact ⟨p, x, hp, rfl⟩
    · intro p x hx
      have hm := List.mem_of_getElem? hx
      unfold drawItems at hm
      simp only at hm
      obtain ⟨i, _, hi⟩ := List.mem_filterMap.1 hm
      split at hi
      · rename_i o a ho ha
        cases hi
        refine ⟨ho, ?_⟩
        rw [cOpers_get, ho] at ha
        simp at ha; exact ha.symm
      · cases hi
    · intro p q x y hpq hx hy
      exact orderOk_get h5 p q (x.1, x.2.1, akind x.2.2) (y.1, y.2.1, akind y.2.2) hpq (by simp [hx]) (by simp [hy])
    · intro p r s x y z hpr hrs hx hy hz kx ky kz
      exact lateOk_get h6 p r s (x.1, x.2.1, akind x.2.2) (y.1, y.2.1, akind y.2.2) (z.1, z.2.1, akind z.2.2) hpr hrs (by simp [hx]) (by simp [hy]) (by simp [hz]) kx ky kz
    · intro p x hx
      rw [layOps_get _ [] p x hx]; simp
  · cases hc

end
end Go.Proofs.Ytohjmflbgohkhaa.E
