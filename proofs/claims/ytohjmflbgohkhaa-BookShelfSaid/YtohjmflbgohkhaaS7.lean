/- What Tear does. -/
import Derived.Test.YtohjmflbgohkhaaS6
namespace Go.Proofs.Ytohjmflbgohkhaa.E
set_option linter.all false
open Go

def tearL (f : Nat) (l : List AV) : List AV := l.take f ++ List.replicate (64 - f) z8
def tearW (i f : Nat) (w : Nat × List AV) : Nat × List AV := if w.1 = i then (w.1, tearL f w.2) else w
def tornP (i f j : Nat) (P : List (Nat × List AV)) : List (Nat × List AV) := (P.take j).map (tearW i f) ++ P.drop j

theorem tearL_len {f : Nat} {l : List AV} (hf : f ≤ 64) (hl : l.length = 64) : (tearL f l).length = 64 := by simp [tearL, hl]; omega
theorem splice_tear {f : Nat} {l : List AV} (hf : f ≤ 64) (hl : l.length = 64) : splice l f (timesL (64 - f) [z8]) = some (tearL f l) := by
  rw [timesZ, splice_some (by simp [hl]; omega)]
  simp [tearL, hl]
  omega
theorem tornP_len (i f j : Nat) (P : List (Nat × List AV)) : (tornP i f j P).length = P.length := by simp [tornP]; omega

section
variable {B : Base} {h : AHeap} {s di ni pi : Nat} {D N : List (List AV)} {P : List (Nat × List AV)} {pw : Int} {dn : Bool}

theorem ShelfAt.setN (S : ShelfAt h s di ni pi D N P pw dn) {N' : List (List AV)} (hl : N'.length = N.length) (aN : AllLen 64 N') : ShelfAt (h.set ni (.cells N'.flatten)) s di ni pi D N' P pw dn := by
  obtain ⟨ed, en, hs⟩ := S.hs
  refine ⟨⟨ed, en, ?_⟩, by rw [hc_set_ne S.dni.symm]; exact S.hd, hc_set S.hn, fun hne => ?_, S.aD, aN, S.aP, by rw [hl]; exact S.len, S.big, S.sd, S.sn, S.dni⟩
  · rw [hc_set_ne S.sn.symm]; exact hs
  · obtain ⟨g1, g2, g3, g4⟩ := S.hp hne
    exact ⟨by rw [hc_set_ne g4]; exact g1, g2, g3, g4⟩

theorem ShelfAt.setP (S : ShelfAt h s di ni pi D N P pw dn) {P' : List (Nat × List AV)} (hl : P'.length = P.length) (hne : P ≠ []) (aP : ∀ w ∈ P', w.2.length = 64 ∧ w.1 < D.length) : ShelfAt (h.set pi (.cells (P'.map wcells).flatten)) s di ni pi D N P' pw dn := by
  obtain ⟨ed, en, hs⟩ := S.hs
  obtain ⟨g1, g2, g3, g4⟩ := S.hp hne
  have hpv : pv P' pi = pv P pi := by
    cases P with
    | nil => exact absurd rfl hne
    | cons p P => cases P' with
      | nil => simp at hl
      | cons p' P' => simp [pv]; simpa using hl
  refine ⟨⟨ed, en, ?_⟩, by rw [hc_set_ne g3.symm]; exact S.hd, by rw [hc_set_ne g4.symm]; exact S.hn, fun _ => ⟨hc_set g1, g2, g3, g4⟩, S.aD, S.aN, aP, S.len, S.big, S.sd, S.sn, S.dni⟩
  rw [hc_set_ne g2.symm, hpv]; exact hs

theorem tear_arg (S : ShelfAt h s di ni pi D N P pw dn) {i f : Int} (hif : ¬ (0 ≤ i ∧ i < D.length ∧ 0 ≤ f ∧ f ≤ 64)) : ∀ K : AV → AHeap → Prop, WC B G 10 [.ptr (.own s) 0, .int .i64 i, .int .i64 f] h K ↔ K (.int .i64 (.ofNat 1)) h := by
  obtain ⟨ed, en, hs⟩ := S.hs
  refine WC_iff fun K hk => WC_fun (af := a10) rfl rfl rfl ?_
  rw [args3]
  have hD : D.length < 1000000000 := by have := S.big; omega
  by_cases h1 : 0 ≤ i ∧ i < D.length
  · have e0 : (decide (0 ≤ i) && decide (i < Int.ofNat D.length)) = true := by simp; exact h1
    have e1 : (decide (Int.ofNat 0 ≤ f) && decide (f ≤ Int.ofNat 64)) = false := by
      rw [Bool.and_eq_false_iff]; simp; omega
    simp -implicitDefEqProofs only [c10, a10_0b, a10_1b, a10_2b, a10_3b, a10_4b, a10_5b, a10_6b, a10_7b, a10_8b, a10_9b, a10_10b, a10_11b, a10_12b, a10_13b, a10_14b, a10_15b, a10_16b, a10_17b, a10_18b, a10_19b, a10_20b, a10_21b, a10_22b, a10_23b, a10_24b, a10_25b, WS_skip, WS_ops, WS_seq, WS_block, WS_cond, WS_exit, WS_ret, WB_true, WB_false, RS_nil, RS_seq, RS_seqE, RS_seqR, RS_blk, RS_blkE, RS_blkR, WP_nil, WP_cons, WP_guard, WG_true, WG_false, WX_val, WX_enter, KC_nil, getK_some, QC_normal, QC_ret, QL_normal, QL_exit, QL_ret, nbeq, ibeq, iltn, ilen, ite_true, ite_false, evalOp, wantedA, Opd.ev, evs, Env.get, Env.set, Env.get_set, List.cons.injEq, and_false, false_and, and_self, putE, cond, againOk, getAll, getRes, packed, eqOp, isNilV, scalarK, arithOp, unOpA, takeN, List.drop, true_and, and_true, reduceIte, reduceCtorEq, false_implies, forall_const, iLe_eq, iLt_eq, iEq_eq, decide_true, decide_false, Bool.not_true, Bool.not_false, Bool.true_and, Bool.and_true, Bool.false_and, Bool.and_false, beq_self_eq_true, imp_self, Bool.true_eq_false, Bool.false_eq_true, Nat.zero_add, Nat.add_zero, Nat.zero_mul, Nat.mul_one, Nat.one_mul, Nat.sub_zero, beqT, beqF, has_is hs hD, in_is, e0, e1]
    exact hk
  · have e0 : (decide (0 ≤ i) && decide (i < Int.ofNat D.length)) = false := by
      rw [Bool.and_eq_false_iff]; simp; omega
    simp -implicitDefEqProofs only [c10, a10_0b, a10_1b, a10_2b, a10_3b, a10_4b, a10_5b, a10_6b, a10_7b, a10_8b, a10_9b, a10_10b, a10_11b, a10_12b, a10_13b, a10_14b, a10_15b, a10_16b, a10_17b, a10_18b, a10_19b, a10_20b, a10_21b, a10_22b, a10_23b, a10_24b, a10_25b, WS_skip, WS_ops, WS_seq, WS_block, WS_cond, WS_exit, WS_ret, WB_true, WB_false, RS_nil, RS_seq, RS_seqE, RS_seqR, RS_blk, RS_blkE, RS_blkR, WP_nil, WP_cons, WP_guard, WG_true, WG_false, WX_val, WX_enter, KC_nil, getK_some, QC_normal, QC_ret, QL_normal, QL_exit, QL_ret, nbeq, ibeq, iltn, ilen, ite_true, ite_false, evalOp, wantedA, Opd.ev, evs, Env.get, Env.set, Env.get_set, List.cons.injEq, and_false, false_and, and_self, putE, cond, againOk, getAll, getRes, packed, eqOp, isNilV, scalarK, arithOp, unOpA, takeN, List.drop, true_and, and_true, reduceIte, reduceCtorEq, false_implies, forall_const, iLe_eq, iLt_eq, iEq_eq, decide_true, decide_false, Bool.not_true, Bool.not_false, Bool.true_and, Bool.and_true, Bool.false_and, Bool.and_false, beq_self_eq_true, imp_self, Bool.true_eq_false, Bool.false_eq_true, Nat.zero_add, Nat.add_zero, Nat.zero_mul, Nat.mul_one, Nat.one_mul, Nat.sub_zero, beqT, beqF, has_is hs hD, in_is, e0]
    exact hk

end
end Go.Proofs.Ytohjmflbgohkhaa.E
