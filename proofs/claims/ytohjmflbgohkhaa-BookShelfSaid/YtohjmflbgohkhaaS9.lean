/- What NewShelf does. -/
import Derived.Test.YtohjmflbgohkhaaS8
namespace Go.Proofs.Ytohjmflbgohkhaa.E
set_option linter.all false
open Go

theorem timesL_flat (l : List AV) : ∀ n, timesL n l = (List.replicate n l).flatten
  | 0 => rfl
  | n + 1 => by simp [timesL, timesL_flat l n, List.replicate_succ]

section
variable {B : Base} {h : AHeap}

theorem new_bad {n : Int} (hn : ¬ (64 ≤ n ∧ n ≤ 65536)) : ∀ K : AV → AHeap → Prop, WC B G 6 [.int .i64 n] h K ↔ K (.tuple [.nilptr, .int .i64 (.ofNat 1)]) h := by
  refine WC_iff fun K hk => WC_fun (af := a6) rfl rfl rfl ?_
  rw [args1]
  have e0 : (decide (Int.ofNat 64 ≤ n) && decide (n ≤ Int.ofNat 65536)) = false := by
    rw [Bool.and_eq_false_iff]; simp; omega
  simp -implicitDefEqProofs only [c6, a6_0b, a6_1b, a6_2b, a6_3b, a6_4b, a6_5b, WS_skip, WS_ops, WS_seq, WS_block, WS_cond, WS_exit, WS_ret, WB_true, WB_false, RS_nil, RS_seq, RS_seqE, RS_seqR, RS_blk, RS_blkE, RS_blkR, WP_nil, WP_cons, WP_guard, WG_true, WG_false, WX_val, WX_enter, KC_nil, getK_some, QC_normal, QC_ret, QL_normal, QL_exit, QL_ret, nbeq, ibeq, iltn, ilen, ite_true, ite_false, evalOp, wantedA, Opd.ev, evs, Env.get, Env.set, Env.get_set, List.cons.injEq, and_false, false_and, and_self, putE, cond, againOk, getAll, getRes, packed, eqOp, isNilV, scalarK, arithOp, unOpA, takeN, List.drop, true_and, and_true, reduceIte, reduceCtorEq, false_implies, forall_const, iLe_eq, iLt_eq, iEq_eq, decide_true, decide_false, Bool.not_true, Bool.not_false, Bool.true_and, Bool.and_true, Bool.false_and, Bool.and_false, beq_self_eq_true, imp_self, Bool.true_eq_false, Bool.false_eq_true, Nat.zero_add, Nat.add_zero, Nat.zero_mul, Nat.mul_one, Nat.one_mul, Nat.sub_zero, beqT, beqF, in_is, e0]
  exact hk

theorem new_ok2 {n : Nat} (h1 : 64 ≤ n) (h2 : n ≤ 65536) {K : AV → AHeap → Prop}
    (hk : ∀ h', ShelfAt h' (h.length + 2) h.length (h.length + 1) 0 (List.replicate n zs) (List.replicate n zs) [] (-1) false → Same h h' [] → K (.tuple [.ptr (.own (h.length + 2)) 0, .int .i64 (.ofNat 0)]) h') :
    WC B G 6 [.int .i64 (.ofNat n)] h K := by
  refine WC_fun (af := a6) rfl rfl rfl ?_
  rw [args1]
  have e0 : decide (64 ≤ n) = true := by simpa using h1
  have e1 : decide (n ≤ 65536) = true := by simpa using h2
  have e2 : (Nat.ble n n && roomy (n * 64) && roomy n) = true := by
    have a1 : Nat.ble n n = true := Nat.ble_eq_true_of_le (Nat.le_refl _)
    have a2 : roomy (n * 64) = true := by unfold roomy; exact Nat.ble_eq_true_of_le (by omega)
    have a3 : roomy n = true := by unfold roomy; exact Nat.ble_eq_true_of_le (by omega)
    rw [a1, a2, a3]; rfl
  have ho : RL.out [(3, AV.nilslice), (1, .int .i64 (.ofNat 0)), (1, .bool false)] = [.nilslice, .nilslice, .nilslice, .int .i64 (.ofNat 0), .bool false] := rfl
  simp -implicitDefEqProofs only [c6, a6_0b, a6_1b, a6_2b, a6_3b, a6_4b, a6_5b, WS_skip, WS_ops, WS_seq, WS_block, WS_cond, WS_exit, WS_ret, WB_true, WB_false, RS_nil, RS_seq, RS_seqE, RS_seqR, RS_blk, RS_blkE, RS_blkR, WP_nil, WP_cons, WP_guard, WG_true, WG_false, WX_val, WX_enter, KC_nil, getK_some, QC_normal, QC_ret, QL_normal, QL_exit, QL_ret, nbeq, ibeq, iltn, ilen, ite_true, ite_false, evalOp, wantedA, Opd.ev, evs, Env.get, Env.set, Env.get_set, List.cons.injEq, and_false, false_and, and_self, putE, cond, againOk, getAll, getRes, packed, eqOp, isNilV, scalarK, arithOp, unOpA, takeN, List.drop, true_and, and_true, reduceIte, reduceCtorEq, false_implies, forall_const, iLe_eq, iLt_eq, iEq_eq, decide_true, decide_false, Bool.not_true, Bool.not_false, Bool.true_and, Bool.and_true, Bool.false_and, Bool.and_false, beq_self_eq_true, imp_self, Bool.true_eq_false, Bool.false_eq_true, Nat.zero_add, Nat.add_zero, Nat.zero_mul, Nat.mul_one, Nat.one_mul, Nat.sub_zero, beqT, beqF, in_is, e0, e1, e2, out64, timesL_flat, fillL, ho, AV.cellsOk, splice, List.length_cons, List.length_nil, Nat.reduceAdd]
  have l1 : (h ++ [AObj.cells (List.replicate n zs).flatten]).length = h.length + 1 := by simp
  have l2 : (h ++ [AObj.cells (List.replicate n zs).flatten] ++ [AObj.cells (List.replicate n zs).flatten]).length = h.length + 2 := by simp
  simp only [l1, l2]
  refine hk _ ?_ ?_
  · have al : AllLen 64 (List.replicate n zs) := fun l hl => by rw [(List.mem_replicate.1 hl).2, zs_len]
    refine ⟨⟨none, none, ?_⟩, ?_, ?_, fun h => absurd rfl h, al, al, by simp, rfl, by simp; omega, by omega, by omega, by omega⟩
    · rw [← l2, List.length_replicate]; exact hc_new
    · exact hc_app (hc_app hc_new)
    · rw [← l1]; exact hc_app hc_new
  · exact Same.trans (F1 := []) (Same.trans (F1 := []) (Same.app _ _ _) (Same.app _ _ _) (by simp)) (Same.app _ _ _) (by simp)

end
end Go.Proofs.Ytohjmflbgohkhaa.E
