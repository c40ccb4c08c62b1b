/- Appending, copying, clearing, making. -/
import Derived.Test.YtohjmflbgohkhaaEngJ
namespace Go.Proofs.Ytohjmflbgohkhaa.E
set_option linter.all false
open Go

section
variable {P : Program} {W : World} {μ : Mu} {h : AHeap} {w : World} {nt : Nat} {env : Env} {a : Act} {B : Base}

theorem loadN_len {b o n l} (hl : loadN B h b o n = some l) : l.length = n := by
  cases b with
  | own i =>
    simp only [loadN] at hl
    split at hl
    · obtain ⟨rfl, h2⟩ := takeN_eq hl; simp at h2 ⊢; omega
    · cases hl
  | base b =>
    simp only [loadN] at hl
    induction n generalizing o l with
    | zero => simp [baseCells] at hl; subst hl; rfl
    | succ n ih =>
      simp only [baseCells] at hl
      split at hl
      · split at hl
        · rename_i k hk; cases hl; simp [ih hk]
        · cases hl
      · cases hl

theorem loadN_take {b o n l} (hl : loadN B h b o n = some l) {k} (hk : k ≤ n) : loadN B h b o k = some (l.take k) := by
  cases b with
  | own i =>
    simp only [loadN] at hl ⊢
    split at hl
    · obtain ⟨rfl, h2⟩ := takeN_eq hl
      rename_i cs _
      have : ∀ (k : Nat) (l : List AV), k ≤ l.length → takeN k l = some (l.take k) := by
        intro k
        induction k with
        | zero => intro l _; simp [takeN]
        | succ k ih =>
          intro l hl
          cases l with
          | nil => simp at hl
          | cons x l => simp only [takeN]; rw [ih l (by simpa using hl)]; simp
      rw [this k _ (by omega)]
      simp [List.take_take, Nat.min_eq_left hk]
    · cases hl
  | base b =>
    simp only [loadN] at hl ⊢
    induction k generalizing o l n with
    | zero => simp [baseCells]
    | succ k ih =>
      cases n with
      | zero => omega
      | succ n =>
        simp only [baseCells] at hl ⊢
        split at hl
        · split at hl
          · rename_i v hv k' hk'; cases hl
            rw [ih (by omega) hk']; simp
          · cases hl
        · cases hl

theorem byteCells_ok (μ : Mu) : ∀ l : List UInt8, VRs μ (byteCells (l.map UInt8.toNat)) (l.map fun b => .int .u8 b.toNat)
  | [] => rfl
  | b :: l => ⟨_, _, rfl, rfl, byteCells_ok μ l⟩
theorem byteCells_one : ∀ l : List Nat, allOneP (byteCells l)
  | [] => trivial
  | _ :: l => ⟨rfl, byteCells_one l⟩
theorem byteCells_length : ∀ l : List Nat, (byteCells l).length = l.length
  | [] => rfl
  | _ :: l => by simp [byteCells, byteCells_length l]

theorem src_ok (hB : BaseOk W B) (s : Sim W μ h w) {es n l} {x : AV} {u : Value} (hx : VR μ x u) (hr : srcCells B h es x = some (n, l)) :
    (Builtin.lenOf u).run P w = .ok n w ∧ l.length = n * es ∧ allOneP l ∧
    ∀ w2, Sim W μ h w2 → ∀ k, k ≤ n → ∃ c, (Builtin.firstCells es k u).run P w2 = .ok c w2 ∧ VRs μ (l.take (k * es)) c.toList := by
  cases x <;> simp only [srcCells, reduceCtorEq] at hr
  case str =>
    rename_i sl
    obtain ⟨b, rfl, rfl⟩ := hx
    split at hr
    · cases hr
      refine ⟨by simp [Builtin.lenOf, bytesN_size], by simp [byteCells_length], byteCells_one _, fun w2 _ k hk => ?_⟩
      refine ⟨_, rfl, ?_⟩
      have e : (List.take (k * 1) (byteCells (bytesN b))) = byteCells ((b.data.toList.take k).map UInt8.toNat) := by
        have : ∀ (k : Nat) (l : List Nat), (byteCells l).take k = byteCells (l.take k) := by
          intro k
          induction k with
          | zero => intro l; simp [byteCells]
          | succ k ih => intro l; cases l <;> simp [byteCells, ih]
        rw [Nat.mul_one, this]; unfold bytesN; rw [List.map_take]
      rw [e]
      have e2 : ((b.extract 0 k).data.map fun b => Value.int .u8 b.toNat).toList = (b.data.toList.take k).map fun b => Value.int .u8 b.toNat := by
        rw [ByteArray.data_extract]; simp
      rw [e2]
      exact byteCells_ok μ _
    · cases hr
  case slice b o len cap e =>
    obtain ⟨a, cap', rfl, h1, h2, ha, _⟩ := hx.slice_inv
    split at hr
    · rename_i l' hl
      simp only [Option.some.injEq, Prod.mk.injEq] at hr
      obtain ⟨rfl, rfl⟩ := hr
      have hlen := loadN_len hl
      refine ⟨rfl, hlen, ?_, fun w2 s2 k hk => ?_⟩
      · rcases ha with ha | ha
        · exact (load_any (P := P) hB s hl ha).choose_spec.2.2
        · have hl0 : len = 0 := by omega
          rw [hl0] at hlen
          have : l' = [] := List.eq_nil_of_length_eq_zero (by simpa using hlen)
          rw [this]; trivial
      · simp only [Builtin.firstCells]
        rcases ha with ha | ha
        · obtain ⟨c, e1, e2, _⟩ := load_any (P := P) hB s2 (loadN_take hl (Nat.mul_le_mul_right es hk)) ha
          exact ⟨c, e1, e2⟩
        · have : k = 0 := by omega
          subst this
          refine ⟨#[], by simp [loadCells, loadCellsFrom], by simp; exact rfl⟩
    · cases hr
  case nilslice =>
    have hx : u = .slice none 0 0 := hx
    subst hx
    cases hr
    refine ⟨rfl, by simp, trivial, fun w2 _ k hk => ⟨#[], by simp [Builtin.firstCells], by simp; exact rfl⟩⟩

end
end Go.Proofs.Ytohjmflbgohkhaa.E
