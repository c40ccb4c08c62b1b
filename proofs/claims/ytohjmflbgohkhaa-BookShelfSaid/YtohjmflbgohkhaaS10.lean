/- BookTorn: the law's own body (under way). -/
import Derived.Test.YtohjmflbgohkhaaS9
namespace Go.Proofs.Ytohjmflbgohkhaa.E
set_option linter.all false
open Go

/- which leaf -/
theorem at_ok (leaf : Int) : ∃ i : Nat, i < 64 ∧ awrap .i64 ((awrap .u64 leaf).tmod (.ofNat 64)) = .ofNat i := by
  have h0 : 0 ≤ awrap .u64 leaf := by
    rw [awrap_eq]
    have : IntKind.u64.wrap leaf = leaf % 18446744073709551616 := rfl
    rw [this]; omega
  generalize awrap .u64 leaf = u at h0
  obtain ⟨n, rfl⟩ := Int.eq_ofNat_of_zero_le h0
  refine ⟨n % 64, Nat.mod_lt _ (by omega), ?_⟩
  rw [awrap_eq, show (Int.tmod (n : Int) (Int.ofNat 64)) = ((n % 64 : Nat) : Int) from rfl]
  exact IntWalk.i64_in _ ⟨by omega, by omega⟩

section
variable {B : Base} {h : AHeap}

theorem shelves_is : ∀ K : AV → AHeap → Prop, WC B G 5 [] h K ↔ K (.bool true) h :=
  WC_iff fun K hk => WC_ext (af := x5) (F := constF (.bool true)) rfl rfl rfl hk

theorem args5 (a b c d e : AV) : envArgs 0 [a, b, c, d, e] .e = .n (.n (.n .e d .e) b .e) a (.n (.n .e e .e) c .e) := rfl

/- a list that is too long: the law asks for its examples alone -/
theorem torn_long {leaf kept frm : Int} {ov nv : AV} {os ns : List AV} (ho : Src B ov os) (hn : Src B nv ns) (hl : 64 < os.length ∨ 64 < ns.length) {K : AV → AHeap → Prop} (hk : K (.bool true) h) :
    WC B G 3 [.int .i64 leaf, ov, nv, .int .i64 kept, .int .i64 frm] h K := by
  refine WC_fun (af := a3) rfl rfl rfl ?_
  rw [args5]
  have e2 : decide (Int.ofNat 64 < 0) = false := rfl
  by_cases h1 : 64 < os.length
  · have d1 : decide (64 < os.length) = true := by simpa using h1
    rcases ho with ⟨rfl, rfl⟩ | ⟨b, o, c, e, rfl, -⟩
    · simp at h1
    · simp -implicitDefEqProofs only [c3, a3_0b, a3_1b, a3_2b, a3_3b, a3_4b, a3_5b, a3_6b, a3_7b, a3_8b, a3_9b, a3_10b, a3_11b, a3_12b, a3_13b, a3_14b, a3_15b, a3_16b, a3_17b, a3_18b, a3_19b, a3_20b, a3_21b, a3_22b, a3_23b, a3_24b, a3_25b, a3_26b, a3_27b, a3_28b, a3_29b, a3_30b, a3_31b, a3_32b, a3_33b, a3_34b, a3_35b, a3_36b, a3_37b, a3_38b, a3_39b, a3_40b, a3_41b, a3_42b, a3_43b, a3_44b, a3_45b, a3_46b, a3_47b, a3_48b, WS_skip, WS_ops, WS_seq, WS_block, WS_cond, WS_exit, WS_ret, WB_true, WB_false, RS_nil, RS_seq, RS_seqE, RS_seqR, RS_blk, RS_blkE, RS_blkR, WP_nil, WP_cons, WP_guard, WG_true, WG_false, WX_val, WX_enter, KC_nil, getK_some, QC_normal, QC_ret, QL_normal, QL_exit, QL_ret, nbeq, ibeq, iltn, ilen, ite_true, ite_false, evalOp, wantedA, Opd.ev, evs, Env.get, Env.set, Env.get_set, List.cons.injEq, and_false, false_and, and_self, putE, cond, againOk, getAll, getRes, packed, eqOp, isNilV, scalarK, arithOp, unOpA, takeN, List.drop, true_and, and_true, reduceIte, reduceCtorEq, false_implies, forall_const, iLe_eq, iLt_eq, iEq_eq, decide_true, decide_false, Bool.not_true, Bool.not_false, Bool.true_and, Bool.and_true, Bool.false_and, Bool.and_false, beq_self_eq_true, imp_self, Bool.true_eq_false, Bool.false_eq_true, Nat.zero_add, Nat.add_zero, Nat.zero_mul, Nat.mul_one, Nat.one_mul, Nat.sub_zero, beqT, beqF, d1, shelves_is]
      exact hk
  · have h2 : 64 < ns.length := hl.resolve_left h1
    have d1 : decide (64 < os.length) = false := by simpa using h1
    have d2 : decide (64 < ns.length) = true := by simpa using h2
    rcases hn with ⟨rfl, rfl⟩ | ⟨b', o', c', e', rfl, -⟩
    · simp at h2
    · rcases ho with ⟨rfl, -⟩ | ⟨b, o, c, e, rfl, -⟩
      · simp -implicitDefEqProofs only [c3, a3_0b, a3_1b, a3_2b, a3_3b, a3_4b, a3_5b, a3_6b, a3_7b, a3_8b, a3_9b, a3_10b, a3_11b, a3_12b, a3_13b, a3_14b, a3_15b, a3_16b, a3_17b, a3_18b, a3_19b, a3_20b, a3_21b, a3_22b, a3_23b, a3_24b, a3_25b, a3_26b, a3_27b, a3_28b, a3_29b, a3_30b, a3_31b, a3_32b, a3_33b, a3_34b, a3_35b, a3_36b, a3_37b, a3_38b, a3_39b, a3_40b, a3_41b, a3_42b, a3_43b, a3_44b, a3_45b, a3_46b, a3_47b, a3_48b, WS_skip, WS_ops, WS_seq, WS_block, WS_cond, WS_exit, WS_ret, WB_true, WB_false, RS_nil, RS_seq, RS_seqE, RS_seqR, RS_blk, RS_blkE, RS_blkR, WP_nil, WP_cons, WP_guard, WG_true, WG_false, WX_val, WX_enter, KC_nil, getK_some, QC_normal, QC_ret, QL_normal, QL_exit, QL_ret, nbeq, ibeq, iltn, ilen, ite_true, ite_false, evalOp, wantedA, Opd.ev, evs, Env.get, Env.set, Env.get_set, List.cons.injEq, and_false, false_and, and_self, putE, cond, againOk, getAll, getRes, packed, eqOp, isNilV, scalarK, arithOp, unOpA, takeN, List.drop, true_and, and_true, reduceIte, reduceCtorEq, false_implies, forall_const, iLe_eq, iLt_eq, iEq_eq, decide_true, decide_false, Bool.not_true, Bool.not_false, Bool.true_and, Bool.and_true, Bool.false_and, Bool.and_false, beq_self_eq_true, imp_self, Bool.true_eq_false, Bool.false_eq_true, Nat.zero_add, Nat.add_zero, Nat.zero_mul, Nat.mul_one, Nat.one_mul, Nat.sub_zero, beqT, beqF, e2, d2, shelves_is]
        exact hk
      · simp -implicitDefEqProofs only [c3, a3_0b, a3_1b, a3_2b, a3_3b, a3_4b, a3_5b, a3_6b, a3_7b, a3_8b, a3_9b, a3_10b, a3_11b, a3_12b, a3_13b, a3_14b, a3_15b, a3_16b, a3_17b, a3_18b, a3_19b, a3_20b, a3_21b, a3_22b, a3_23b, a3_24b, a3_25b, a3_26b, a3_27b, a3_28b, a3_29b, a3_30b, a3_31b, a3_32b, a3_33b, a3_34b, a3_35b, a3_36b, a3_37b, a3_38b, a3_39b, a3_40b, a3_41b, a3_42b, a3_43b, a3_44b, a3_45b, a3_46b, a3_47b, a3_48b, WS_skip, WS_ops, WS_seq, WS_block, WS_cond, WS_exit, WS_ret, WB_true, WB_false, RS_nil, RS_seq, RS_seqE, RS_seqR, RS_blk, RS_blkE, RS_blkR, WP_nil, WP_cons, WP_guard, WG_true, WG_false, WX_val, WX_enter, KC_nil, getK_some, QC_normal, QC_ret, QL_normal, QL_exit, QL_ret, nbeq, ibeq, iltn, ilen, ite_true, ite_false, evalOp, wantedA, Opd.ev, evs, Env.get, Env.set, Env.get_set, List.cons.injEq, and_false, false_and, and_self, putE, cond, againOk, getAll, getRes, packed, eqOp, isNilV, scalarK, arithOp, unOpA, takeN, List.drop, true_and, and_true, reduceIte, reduceCtorEq, false_implies, forall_const, iLe_eq, iLt_eq, iEq_eq, decide_true, decide_false, Bool.not_true, Bool.not_false, Bool.true_and, Bool.and_true, Bool.false_and, Bool.and_false, beq_self_eq_true, imp_self, Bool.true_eq_false, Bool.false_eq_true, Nat.zero_add, Nat.add_zero, Nat.zero_mul, Nat.mul_one, Nat.one_mul, Nat.sub_zero, beqT, beqF, d1, d2, shelves_is]
        exact hk

end
end Go.Proofs.Ytohjmflbgohkhaa.E
