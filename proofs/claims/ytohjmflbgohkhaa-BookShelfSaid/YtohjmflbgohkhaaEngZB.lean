/- Regions that draw their order: the run in the order that is laid, looked at from any other order. -/
import Derived.Test.YtohjmflbgohkhaaEngZA
namespace Go.Proofs.Ytohjmflbgohkhaa.E
set_option linter.all false
open Go

theorem evalOp_new {B : Base} {e : Env} {h : AHeap} {ao : AOp} {v h'} (hk : kindOf ao = 2) (hv : evalOp B e h ao = some (.val v h')) :
    ∃ (cs : List AV) (mk : Nat → AV), ∀ h2 : AHeap, evalOp B e h2 ao = some (.val (mk h2.length) (h2 ++ [.cells cs])) := by
  cases ao <;> (first | (exfalso; revert hk; simp [kindOf]; done) | skip)
  case alloc z => exact ⟨_, fun n => .ptr (.own n) 0, fun h2 => rfl⟩
  case box x =>
    simp only [evalOp] at hv ⊢
    split at hv
    · rename_i l hl; exact ⟨l, fun n => .ptr (.own n) 0, fun h2 => by simp [hl]⟩
    · cases hv
  case buildSlice es len z ps =>
    simp only [evalOp] at hv ⊢
    split at hv
    · rename_i l hl; exact ⟨l, fun n => .slice (.own n) 0 len len none, fun h2 => by simp [hl]⟩
    · cases hv
  case makeSlice es by_ z l c =>
    simp only [evalOp] at hv ⊢
    split at hv
    · rename_i k1 l' k2 c' hl hc
      split at hv
      · rename_i hb; exact ⟨timesL c' z.out, fun n => .slice (.own n) 0 l' c' none, fun h2 => by simp [hl, hc, hb]⟩
      · cases hv
    · cases hv
  case strToBytes x =>
    simp only [evalOp] at hv ⊢
    split at hv
    · rename_i s hs; exact ⟨byteCells s, fun n => .slice (.own n) 0 s.length s.length (some 1), fun h2 => by simp [hs]⟩
    · cases hv

theorem againFor_mem {masks : List Nat} {y : Nat × Nat} {L : List (Nat × Oper × AOper)} {x : Nat × Oper × AOper} {d : List Bool} (hx : x ∈ L) (h3 : y.2 = 3) (h1 : akind x.2.2 = 1) (hm : (masks.getD y.1 0).testBit x.1 = false)
    (hd : x.2.2.dst = some d) : (x.2.2.guard, d, x.2.2.op) ∈ againFor masks y L := by
  induction L with
  | nil => cases hx
  | cons z r ih =>
    simp only [againFor]
    rcases List.mem_cons.1 hx with rfl | hx
    · have : (y.2 == 3 && akind x.2.2 == 1 && !(masks.getD y.1 0).testBit x.1) = true := by rw [h3, h1, hm]; rfl
      rw [this, hd]
      exact List.mem_cons_self
    · have ih := ih hx
      split
      · exact List.mem_cons_of_mem _ ih
      · exact ih

theorem againOk_mem {B : Base} {env : Env} {h : AHeap} {L : List (Option (List Bool × Bool) × List Bool × AOp)} {g p op} (hok : againOk B env h L = true) (hm : (g, p, op) ∈ L) (hw : wantedA env g = true) :
    ∃ v h', evalOp B env h op = some (.val v h') ∧ env.get p = v := by
  induction L with
  | nil => cases hm
  | cons z r ih =>
    obtain ⟨g0, p0, op0⟩ := z
    simp only [againOk] at hok
    rcases List.mem_cons.1 hm with e | hm
    · simp only [Prod.mk.injEq] at e
      obtain ⟨rfl, rfl, rfl⟩ := e
      rw [hw] at hok
      simp only at hok
      split at hok
      · rename_i v h' he
        simp only [Bool.and_eq_true] at hok
        exact ⟨v, h', he, AV.same_eq _ _ hok.1⟩
      · cases hok
    · split at hok
      · exact ih hok hm
      · split at hok
        · simp only [Bool.and_eq_true] at hok
          exact ih hok.2 hm
        · cases hok

structure Ctx (P : Program) (W : World) (B : Base) (G : Nat → Option AFunc) (rec : Exec) (nt : Nat) (opsA : Array Oper) (its : List (Nat × Oper × AOper)) (l : List AOper) (E : Nat → Env) (H : Nat → AHeap) (μ0 : Mu) (w0 : World) (a0 : Act) : Prop where
  hB : BaseOk W B
  hG : GOk P G
  hrec : RecOk P W rec
  hnt : nt < 100000
  dp : DPlan P nt opsA.toList its l
  tr : ∀ (p : Nat) (a : AOper), l[p]? = some a → opStep B G rec a (E p) (H p) = some (E (p + 1), H (p + 1)) ∧ againOk B (E (p + 1)) (H (p + 1)) a.again = true
  s0 : Sim W μ0 (H 0) w0
  he0 : EnvR μ0 nt (E 0) a0.tmps

section
variable {P : Program} {W : World} {B : Base} {G : Nat → Option AFunc} {rec : Exec} {nt : Nat} {opsA : Array Oper} {its : List (Nat × Oper × AOper)} {l : List AOper} {E : Nat → Env} {H : Nat → AHeap} {μ0 : Mu} {w0 : World} {a0 : Act}

theorem Ctx.at (C : Ctx P W B G rec nt opsA its l E H μ0 w0 a0) {p : Nat} {x : Nat × Oper × AOper} (hx : its[p]? = some x) :
    ∃ ao g d v, x.2.2 = ⟨d, g, ao, []⟩ ∧ cOp P nt x.2.1 = some ao ∧ guardOf nt opsA.toList x.2.1.guard = some g ∧ dstOf nt x.2.1.dst = some d ∧ E (p + 1) = putE (E p) d v ∧
      opStep B G rec { cOper P nt opsA.toList x.2.1 with again := againFor (masksOf opsA.toList []) (x.1, akind x.2.2) (its.take p).reverse } (E p) (H p) = some (E (p + 1), H (p + 1)) ∧
      againOk B (E (p + 1)) (H (p + 1)) (againFor (masksOf opsA.toList []) (x.1, akind x.2.2) (its.take p).reverse) = true ∧
      ((wantedA (E p) g = false ∧ v = .tuple [] ∧ H (p + 1) = H p) ∨ (wantedA (E p) g = true ∧ evalOp B (E p) (H p) ao = some (.val v (H (p + 1)))) ∨
        (wantedA (E p) g = true ∧ ∃ f args, evalOp B (E p) (H p) ao = some (.enter f args) ∧ callF B G rec f args (H p) = some (v, H (p + 1)))) := by
  have hl := C.dp.lay p x hx
  have hm := (C.dp.mem p x hx).2
  obtain ⟨h1, h2⟩ := C.tr p _ hl
  have h1' : opStep B G rec { cOper P nt opsA.toList x.2.1 with again := againFor (masksOf opsA.toList []) (x.1, akind x.2.2) (its.take p).reverse } (E p) (H p) = some (E (p + 1), H (p + 1)) := by
    rw [← hm]; exact h1
  obtain ⟨ao, g, d, v, q1, q2, q3, q4, q5, q6⟩ := opStep_val h1'
  exact ⟨ao, g, d, v, by rw [hm, q4], q1, q2, q3, q5, h1', h2, q6⟩

theorem akind_le {d g ao} : akind ⟨d, g, ao, []⟩ = 0 → kindOf ao = 0 := by
  unfold akind; simp only
  cases hk : kindOf ao with
  | zero => simp
  | succ k => cases k with
    | zero => cases d <;> simp
    | succ k => cases k with
      | zero => cases g <;> simp
      | succ k => simp

theorem akind_one {d g ao} : akind ⟨d, g, ao, []⟩ = 1 → kindOf ao = 1 ∧ ∃ p, d = some p := by
  unfold akind; simp only
  cases hk : kindOf ao with
  | zero => simp
  | succ k => cases k with
    | zero => cases d <;> simp
    | succ k => cases k with
      | zero => cases g <;> simp
      | succ k => simp

theorem akind_two {d g ao} : akind ⟨d, g, ao, []⟩ = 2 → kindOf ao = 2 ∧ g = none := by
  unfold akind; simp only
  cases hk : kindOf ao with
  | zero => simp
  | succ k => cases k with
    | zero => cases d <;> simp
    | succ k => cases k with
      | zero => cases g <;> simp
      | succ k => simp

/- who writes a slot: at most one -/
theorem Ctx.uniq (C : Ctx P W B G rec nt opsA its l E H μ0 w0 a0) {p q : Nat} {x y} (hx : its[p]? = some x) (hy : its[q]? = some y) {t} (h1 : x.2.1.dst = some t) (h2 : y.2.1.dst = some t) : p = q := by
  have key : ∀ {p q : Nat} {x y}, p < q → its[p]? = some x → its[q]? = some y → x.2.1.dst = some t → y.2.1.dst = some t → False := by
    intro p q x y hpq hx hy h1 h2
    have := C.dp.ord p q x y hpq hx hy
    unfold pairOk at this
    simp only [Bool.and_eq_true] at this
    have h3 := this.1.2
    simp [h1, h2] at h3
  rcases Nat.lt_trichotomy p q with h | h | h
  · exact (key h hx hy h1 h2).elim
  · exact h
  · exact (key h hy hx h2 h1).elim

theorem Ctx.eg0 (C : Ctx P W B G rec nt opsA its l E H μ0 w0 a0) {t : Nat} (ht : t < nt) {r : Nat} : ∀ q, r ≤ q → q ≤ its.length → (∀ p x, r ≤ p → p < q → its[p]? = some x → x.2.1.dst ≠ some t) → (E q).get (pathOf 64 t) = (E r).get (pathOf 64 t) := by
  intro q
  induction q with
  | zero => intro h _ _; rw [show r = 0 by omega]
  | succ q ih =>
    intro hrq hq hn
    by_cases he : r = q + 1
    · rw [he]
    · have hx : its[q]? = some its[q] := List.getElem?_eq_getElem (by omega)
      obtain ⟨ao, g, d, v, q1, q2, q3, q4, q5, _⟩ := C.at hx
      rw [q5, putE_get q4 C.hnt ht, if_neg (hn q _ (by omega) (by omega) hx)]
      exact ih (by omega) (by omega) fun p x h1 h2 => hn p x h1 (by omega)

theorem Ctx.eg1 (C : Ctx P W B G rec nt opsA its l E H μ0 w0 a0) {t : Nat} (ht : t < nt) {p : Nat} {x} (hx : its[p]? = some x) (hd : x.2.1.dst = some t) {q : Nat} (h1 : p < q) (h2 : q ≤ its.length) :
    (E q).get (pathOf 64 t) = (E (p + 1)).get (pathOf 64 t) :=
  C.eg0 ht q (by omega) h2 fun r y hr _ hy he => by have := C.uniq hx hy hd he; omega

/- how the heap goes -/
theorem Ctx.heap01 (C : Ctx P W B G rec nt opsA its l E H μ0 w0 a0) {p : Nat} {x} (hx : its[p]? = some x) (hk : akind x.2.2 = 0 ∨ akind x.2.2 = 1) : H (p + 1) = H p := by
  obtain ⟨ao, g, d, v, q1, q2, q3, q4, q5, q6, q7, q8⟩ := C.at hx
  rw [q1] at hk
  have hk' : kindOf ao = 0 ∨ kindOf ao = 1 := hk.imp akind_le (fun h => (akind_one h).1)
  rcases q8 with ⟨_, _, h⟩ | ⟨_, h⟩ | ⟨_, f, args, h, _⟩
  · exact h
  · rcases hk' with hk' | hk'
    · exact (evalOp_pure hk' h).1
    · exact (evalOp_read hk' h).1
  · have := enter_is h
    cases ao <;> simp [isCallA] at this <;> simp [kindOf] at hk'

theorem Ctx.heap2 (C : Ctx P W B G rec nt opsA its l E H μ0 w0 a0) {p : Nat} {x} (hx : its[p]? = some x) (hk : akind x.2.2 = 2) :
    ∃ (ao : AOp) (d : Option (List Bool)) (cs : List AV) (mk : Nat → AV), x.2.2 = ⟨d, none, ao, []⟩ ∧ kindOf ao = 2 ∧ cOp P nt x.2.1 = some ao ∧ dstOf nt x.2.1.dst = some d ∧ x.2.1.guard = none ∧ (∀ h2 : AHeap, evalOp B (E p) h2 ao = some (.val (mk h2.length) (h2 ++ [.cells cs]))) ∧
      H (p + 1) = H p ++ [.cells cs] ∧ E (p + 1) = putE (E p) d (mk (H p).length) := by
  obtain ⟨ao, g, d, v, q1, q2, q3, q4, q5, q6, q7, q8⟩ := C.at hx
  rw [q1] at hk
  obtain ⟨hk2, rfl⟩ := akind_two hk
  have hgn : x.2.1.guard = none := by
    unfold guardOf at q3
    split at q3
    · assumption
    · split at q3
      · split at q3 <;> cases q3
      · cases q3
  rcases q8 with ⟨hw, _, _⟩ | ⟨_, h⟩ | ⟨_, f, args, h, _⟩
  · cases hw
  · obtain ⟨cs, mk, hall⟩ := evalOp_new hk2 h
    have := hall (H p)
    rw [h] at this
    simp only [Option.some.injEq, ARes.val.injEq] at this
    exact ⟨ao, d, cs, mk, q1, hk2, q2, q4, hgn, hall, this.2, by rw [q5, this.1]⟩
  · have := enter_is h
    cases ao <;> simp [isCallA] at this <;> simp [kindOf] at hk2

end
end Go.Proofs.Ytohjmflbgohkhaa.E
