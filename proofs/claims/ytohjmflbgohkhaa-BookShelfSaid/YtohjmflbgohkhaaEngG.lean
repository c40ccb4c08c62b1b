/- Each operation of the abstract machine against the model's. -/
import Derived.Test.YtohjmflbgohkhaaEngF
import Derived.Laws.BitsLemmas
import Derived.IntWalk
import Derived.Laws.Strings
namespace Go.Proofs.Ytohjmflbgohkhaa.E
set_option linter.all false
open Go

def OpOk (P : Program) (W : World) (μ : Mu) (h : AHeap) (w : World) (S : Sem Next) (v : AV) (h' : AHeap) (ao : AOp) : Prop :=
  ∃ μ' u w', (S.run P w = .ok (.value u) w' ∨ (S.run P w = .ok .skip w' ∧ u = undef)) ∧ VR μ' v u ∧ Stp W μ h w μ' h' w' ∧
    (kindOf ao ≤ 1 → μ' = μ ∧ w' = w ∧ h' = h ∧ S.run P w = .ok (.value u) w)

theorem OpOk.val {P W μ h w} {S : Sem Next} {v u ao} (s : Sim W μ h w) (hr : S.run P w = .ok (.value u) w) (hv : VR μ v u) : OpOk P W μ h w S v h ao :=
  ⟨μ, u, w, .inl hr, hv, .refl s, fun _ => ⟨rfl, rfl, rfl, hr⟩⟩

/- what is read off a compiled row -/
theorem isAggB_run {P : Program} {t : TypeId} {g} (h : isAggB P t = some g) (w : World) : (isAgg t).run P w = .ok g w := by
  unfold isAggB at h
  split at h <;> (try cases h) <;> (rename_i hu; simp [isAgg, run_underlying hu])

theorem sizeB_run {P : Program} {t : TypeId} {n} (h : sizeB P t = some n) (w : World) : (sizeOf t).run P w = .ok n w := by
  unfold sizeB at h
  split at h
  · rename_i i hi; cases h; simp [sizeOf, typeInfo, hi]
  · cases h

theorem zeroB_run {P : Program} {t : TypeId} {z} (h : zeroB P t = some z) (w : World) : ∃ v : Value, (zeroValue t).run P w = .ok v w ∧ (∀ μ, VRs μ z v.cells.toList) ∧ allOneP z := by
  unfold zeroB at h
  split at h
  · rename_i i hi
    split at h
    · rename_i v hz
      have := flatAll_ok h
      exact ⟨v, by simp [zeroValue, typeInfo, hi, hz], this.1, this.2⟩
    · cases h
  · cases h

mutual
theorem AV.same_eq : ∀ (a b : AV), AV.same a b = true → a = b
  | .bool a, .bool b, h => by simp [AV.same] at h; rw [h]
  | .int j a, .int k b, h => by simp [AV.same] at h; rw [h.1, h.2]
  | .str a, .str b, h => by simp [AV.same] at h; rw [h]
  | .ptr a i, .ptr b j, h => by simp [AV.same] at h; rw [h.1, h.2]
  | .nilptr, .nilptr, _ => rfl
  | .slice a i l c e, .slice b j m d f, h => by simp [AV.same] at h; obtain ⟨⟨⟨⟨h1, h2⟩, h3⟩, h4⟩, h5⟩ := h; rw [h1, h2, h3, h4, h5]
  | .nilslice, .nilslice, _ => rfl
  | .map i, .map j, h => by simp [AV.same] at h; rw [h]
  | .nilmap, .nilmap, _ => rfl
  | .func f a, .func g b, h => by simp [AV.same] at h; rw [h.1, AV.sameAll_eq a b h.2]
  | .nilfunc, .nilfunc, _ => rfl
  | .iface t a, .iface u b, h => by simp [AV.same] at h; rw [h.1, AV.same_eq a b h.2]
  | .niliface, .niliface, _ => rfl
  | .agg a, .agg b, h => by simp [AV.same] at h; rw [AV.sameAll_eq a b h]
  | .tuple a, .tuple b, h => by simp [AV.same] at h; rw [AV.sameAll_eq a b h]
theorem AV.sameAll_eq : ∀ (a b : List AV), AV.sameAll a b = true → a = b
  | [], [], _ => rfl
  | a :: l, b :: m, h => by simp [AV.sameAll] at h; rw [AV.same_eq a b h.1, AV.sameAll_eq l m h.2]
end

theorem rep_eq (v : AV) (acc : List AV) : ∀ n, rep n v acc = List.replicate n v ++ acc
  | 0 => rfl
  | n + 1 => by simp [rep, rep_eq v acc n, List.replicate_succ]

theorem rl_out : ∀ l : List AV, (rl l).out = l
  | [] => rfl
  | a :: l => by
    have ih := rl_out l
    simp only [rl]
    split
    · rename_i n b r hk
      rw [hk] at ih
      split
      · rename_i hs
        have := AV.same_eq _ _ hs; subst this
        simp [RL.out, rep_eq] at ih ⊢; rw [List.replicate_succ]; simp [ih]
      · simp [RL.out, rep_eq] at ih ⊢; exact ih
    · rename_i hk; rw [hk] at ih; simp [RL.out, rep_eq] at ih ⊢; exact ih

theorem timesL_length (n : Nat) (l : List AV) : (timesL n l).length = n * l.length := by
  induction n with
  | zero => simp [timesL]
  | succ n ih => simp [timesL, ih, Nat.succ_mul, Nat.add_comm]

theorem timesL_one {l : List AV} (h : allOneP l) : ∀ n, allOneP (timesL n l)
  | 0 => trivial
  | n + 1 => h.append (timesL_one h n)

theorem timesL_ok {μ : Mu} {l : List AV} {m : List Value} (h : VRs μ l m) : ∀ n, VRs μ (timesL n l) (List.replicate n m).flatten
  | 0 => rfl
  | n + 1 => by simp only [timesL, List.replicate_succ, List.flatten_cons]; exact h.append (timesL_ok h n)

theorem range_mod (z : Array Value) (hz : 0 < z.size) (n : Nat) : ((Array.range (n * z.size)).map (z[· % z.size]!)).toList = (List.replicate n z.toList).flatten := by
  induction n with
  | zero => simp
  | succ n ih =>
    apply List.ext_getElem?
    intro j
    have hl : ((List.replicate n z.toList).flatten).length = n * z.size := by simp
    rw [show List.replicate (n + 1) z.toList = List.replicate n z.toList ++ [z.toList] from List.replicate_succ', List.flatten_append, List.getElem?_append, hl]
    split
    · rename_i hj
      rw [← ih]
      have hj2 : j < (n + 1) * z.size := by rw [Nat.succ_mul]; omega
      simp [hj, hj2]
    · rename_i hj
      by_cases h2 : j < n * z.size + z.size
      · have hm : j % z.size = j - n * z.size := by
          have : j = (j - n * z.size) + n * z.size := by omega
          rw [this, Nat.add_mul_mod_self_right, Nat.mod_eq_of_lt (by omega)]; omega
        simp [Nat.succ_mul, h2, hm, show j - n * z.size < z.size by omega]
      · simp [Nat.succ_mul, h2]
        omega

theorem fits_wrap {k : IntKind} {n : Int} (h : fits k n = true) : k.wrap n = n := by
  cases k <;> cases n <;> simp only [fits, Nat.blt_eq, Bool.false_eq_true] at h
  · exact IntWalk.i64_in _ ⟨by simp only [Int.ofNat_eq_natCast]; omega, by simp only [Int.ofNat_eq_natCast]; omega⟩
  · exact IntWalk.i64_in _ ⟨by simp only [Int.negSucc_eq]; omega, by simp only [Int.negSucc_eq]; omega⟩
  · exact IntWalk.u8_in _ ⟨by simp only [Int.ofNat_eq_natCast]; omega, by simp only [Int.ofNat_eq_natCast]; omega⟩
  · exact IntWalk.u32_in _ ⟨by simp only [Int.ofNat_eq_natCast]; omega, by simp only [Int.ofNat_eq_natCast]; omega⟩
  · exact IntWalk.u64_in _ ⟨by simp only [Int.ofNat_eq_natCast]; omega, by simp only [Int.ofNat_eq_natCast]; omega⟩
theorem awrap_eq (k : IntKind) (n : Int) : awrap k n = k.wrap n := by
  unfold awrap
  cases h : fits k n
  · rfl
  · exact (fits_wrap h).symm

theorem bytesN_append (a b : ByteArray) : bytesN (a ++ b) = bytesN a ++ bytesN b := by
  unfold bytesN; rw [ByteArray.data_append]; simp
theorem bytesN_size (a : ByteArray) : (bytesN a).length = a.size := by unfold bytesN; rw [List.length_map, Array.length_toList]; rfl
theorem map_toNat_inj : ∀ {x y : List UInt8}, x.map UInt8.toNat = y.map UInt8.toNat → x = y
  | [], [], _ => rfl
  | [], _ :: _, h => by cases h
  | _ :: _, [], h => by cases h
  | a :: x, b :: y, h => by
    simp only [List.map_cons, List.cons.injEq] at h
    rw [UInt8.toNat_inj.1 h.1, map_toNat_inj h.2]
theorem bytesN_inj {a b : ByteArray} (h : bytesN a = bytesN b) : a = b := by
  obtain ⟨⟨x⟩⟩ := a
  obtain ⟨⟨y⟩⟩ := b
  have : x = y := map_toNat_inj h
  rw [this]
theorem bytesN_eq (a b : ByteArray) : decide (bytesN a = bytesN b) = (a.toList == b.toList) := by
  rw [ByteArray.toList_eq, ByteArray.toList_eq, Bool.eq_iff_iff, decide_eq_true_iff, beq_iff_eq]
  exact ⟨fun h => by rw [bytesN_inj h], fun h => by unfold bytesN; rw [h]⟩

end Go.Proofs.Ytohjmflbgohkhaa.E
