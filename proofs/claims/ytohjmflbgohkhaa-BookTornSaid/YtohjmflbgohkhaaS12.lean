/- BookTorn: the law's own body, where both lists are short. -/
import Derived.Test.YtohjmflbgohkhaaS11
namespace Go.Proofs.Ytohjmflbgohkhaa.E
set_option linter.all false
open Go

section
variable {B : Base} {h : AHeap}

/- from the last Read on -/
set_option maxHeartbeats 1000000 in
theorem torn_end {kept frm tv : Int} {i s di ni pi : Nat} {D N : List (List AV)} {P : List (Nat × List AV)} {pw : Int} {cut : Nat} {ov nv : AV} {os ns l : List AV} (ho : Src B ov os) (hn : Src B nv ns) (S : ShelfAt h s di ni pi D N P pw false)
    (hi : N[i]? = some l) (hb : Bytes l) (htv : tv = 0 ↔ (0 ≤ frm ∧ frm ≤ 64)) (hcut : Int.ofNat cut = if 0 ≤ frm ∧ frm ≤ 64 then frm else 64)
    (hw : ∀ j, j < 64 → l.getD j z8 = wantB kept cut os ns j) {env : Env}
    (e1 : env.get [true] = ov) (e2 : env.get [false] = nv) (e3 : env.get [true, true] = .int .i64 kept) (e4 : env.get [false, true] = .int .i64 frm) (e11 : env.get [true, true, false] = .int .i64 (.ofNat i)) (e12 : env.get [false, true, false] = .ptr (.own s) 0)
    (e14 : env.get [false, false, false] = .int .i64 (.ofNat 0)) (e15 : env.get [true, true, true, true] = .int .i64 (.ofNat 0)) (e16 : env.get [false, true, true, true] = .int .i64 (.ofNat 0)) (e17 : env.get [true, false, true, true] = .int .i64 tv)
    {K : AV → AHeap → Prop} (hk : ∀ h, K (.bool true) h) : WS B G a3_16 [] env h (QC B a3 K) := by
  have hiD : i < D.length := by rw [← S.len]; exact (List.getElem?_eq_some_iff.1 hi).1
  simp -implicitDefEqProofs only [c3, a3_0b, a3_1b, a3_2b, a3_3b, a3_4b, a3_5b, a3_6b, a3_7b, a3_8b, a3_9b, a3_10b, a3_11b, a3_12b, a3_13b, a3_14b, a3_15b, a3_16b, a3_17b, a3_18b, a3_19b, a3_20b, a3_21b, a3_22b, a3_23b, a3_24b, a3_25b, a3_26b, a3_27b, a3_28b, a3_29b, a3_30b, a3_31b, a3_32b, a3_33b, a3_34b, a3_35b, a3_36b, a3_37b, a3_38b, a3_39b, a3_40b, a3_41b, a3_42b, a3_43b, a3_44b, a3_45b, a3_46b, a3_47b, a3_48b, WS_skip, WS_ops, WS_seq, WS_block, WS_cond, WS_exit, WS_ret, WB_true, WB_false, RS_nil, RS_seq, RS_seqE, RS_seqR, RS_blk, RS_blkE, RS_blkR, WP_nil, WP_cons, WP_guard, WG_true, WG_false, WX_val, WX_enter, KC_nil, getK_some, QC_normal, QC_ret, QL_normal, QL_exit, QL_ret, nbeq, ibeq, iltn, ilen, ite_true, ite_false, EV, ER, fill_nil, fill_cons, fillK_some, fillJ_some, AV.cellsOk, wantedA, Opd.ev, evs, Env.get, Env.set, Env.get_set, List.cons.injEq, and_false, false_and, and_self, putE, cond, againOk, getAll, getRes, packed, eqOp, isNilV, scalarK, arithOp, unOpA, takeN, List.drop, true_and, and_true, reduceIte, reduceCtorEq, false_implies, forall_const, iLe_eq, iLt_eq, iEq_eq, decide_true, decide_false, Bool.not_true, Bool.not_false, Bool.true_and, Bool.and_true, Bool.false_and, Bool.and_false, beq_self_eq_true, imp_self, Bool.true_eq_false, Bool.false_eq_true, Nat.zero_add, Nat.add_zero, Nat.zero_mul, Nat.mul_one, Nat.one_mul, Nat.sub_zero, beqT, beqF, e11, e12]
  refine read_ok S hiD hi ?_
  have sm : Same h (h ++ [.cells []] ++ [.cells l]) [] := (Same.app h [.cells []] []).trans (Same.app _ _ []) (by simp)
  have S' := S.keep sm (by simp)
  have hx : hcells (h ++ [.cells []] ++ [.cells l]) (h.length + 1) = some l := by
    have := hc_new (h := h ++ [.cells []]) (c := l)
    simpa using this
  have hl := S.aN.get hi
  have hn : (64 == 64) = true := rfl
  by_cases h1 : 0 ≤ frm
  · have d1 : decide (Int.ofNat 0 ≤ frm) = true := decide_eq_true h1
    by_cases h2 : frm ≤ 64
    · have d2 : decide (frm ≤ Int.ofNat 64) = true := decide_eq_true h2
      have d3 : (tv == Int.ofNat 0) = true := by simpa using htv.2 ⟨h1, h2⟩
      rw [if_pos ⟨h1, h2⟩] at hcut
      simp -implicitDefEqProofs only [c3, a3_0b, a3_1b, a3_2b, a3_3b, a3_4b, a3_5b, a3_6b, a3_7b, a3_8b, a3_9b, a3_10b, a3_11b, a3_12b, a3_13b, a3_14b, a3_15b, a3_16b, a3_17b, a3_18b, a3_19b, a3_20b, a3_21b, a3_22b, a3_23b, a3_24b, a3_25b, a3_27b, a3_28b, a3_29b, a3_30b, a3_31b, a3_32b, a3_33b, a3_34b, a3_35b, a3_36b, a3_37b, a3_38b, a3_39b, a3_40b, a3_41b, a3_42b, a3_43b, a3_44b, a3_45b, a3_46b, a3_47b, a3_48b, WS_skip, WS_ops, WS_seq, WS_block, WS_cond, WS_exit, WS_ret, WB_true, WB_false, RS_nil, RS_seq, RS_seqE, RS_seqR, RS_blk, RS_blkE, RS_blkR, WP_nil, WP_cons, WP_guard, WG_true, WG_false, WX_val, WX_enter, KC_nil, getK_some, QC_normal, QC_ret, QL_normal, QL_exit, QL_ret, nbeq, ibeq, iltn, ilen, ite_true, ite_false, EV, ER, fill_nil, fill_cons, fillK_some, fillJ_some, AV.cellsOk, wantedA, Opd.ev, evs, Env.get, Env.set, Env.get_set, List.cons.injEq, and_false, false_and, and_self, putE, cond, againOk, getAll, getRes, packed, eqOp, isNilV, scalarK, arithOp, unOpA, takeN, List.drop, true_and, and_true, reduceIte, reduceCtorEq, false_implies, forall_const, iLe_eq, iLt_eq, iEq_eq, decide_true, decide_false, Bool.not_true, Bool.not_false, Bool.true_and, Bool.and_true, Bool.false_and, Bool.and_false, beq_self_eq_true, imp_self, Bool.true_eq_false, Bool.false_eq_true, Nat.zero_add, Nat.add_zero, Nat.zero_mul, Nat.mul_one, Nat.one_mul, Nat.sub_zero, beqT, beqF, List.getElem?_cons_zero, List.getElem?_cons_succ, e4, e14, e15, e16, e17, e12, d1, d2, d3, down_is S']
      have hc' := hcut
      simp only [Int.ofNat_eq_natCast] at hc'
      exact torn_loop ho ‹Src B nv ns› hx hl hb hw (by omega) (by simp [Env.get_set, e1]) (by simp [Env.get_set, e2]) (by simp [Env.get_set, e3]) (by simp [Env.get_set]) (by simp [Env.get_set]; exact hcut.symm) (hk _)
    · have d2 : decide (frm ≤ Int.ofNat 64) = false := decide_eq_false h2
      have d3 : (tv == Int.ofNat 0) = false := by
        have : ¬ tv = 0 := fun hh => h2 (htv.1 hh).2
        simpa using this
      rw [if_neg (by omega)] at hcut
      simp -implicitDefEqProofs only [c3, a3_0b, a3_1b, a3_2b, a3_3b, a3_4b, a3_5b, a3_6b, a3_7b, a3_8b, a3_9b, a3_10b, a3_11b, a3_12b, a3_13b, a3_14b, a3_15b, a3_16b, a3_17b, a3_18b, a3_19b, a3_20b, a3_21b, a3_22b, a3_23b, a3_24b, a3_25b, a3_27b, a3_28b, a3_29b, a3_30b, a3_31b, a3_32b, a3_33b, a3_34b, a3_35b, a3_36b, a3_37b, a3_38b, a3_39b, a3_40b, a3_41b, a3_42b, a3_43b, a3_44b, a3_45b, a3_46b, a3_47b, a3_48b, WS_skip, WS_ops, WS_seq, WS_block, WS_cond, WS_exit, WS_ret, WB_true, WB_false, RS_nil, RS_seq, RS_seqE, RS_seqR, RS_blk, RS_blkE, RS_blkR, WP_nil, WP_cons, WP_guard, WG_true, WG_false, WX_val, WX_enter, KC_nil, getK_some, QC_normal, QC_ret, QL_normal, QL_exit, QL_ret, nbeq, ibeq, iltn, ilen, ite_true, ite_false, EV, ER, fill_nil, fill_cons, fillK_some, fillJ_some, AV.cellsOk, wantedA, Opd.ev, evs, Env.get, Env.set, Env.get_set, List.cons.injEq, and_false, false_and, and_self, putE, cond, againOk, getAll, getRes, packed, eqOp, isNilV, scalarK, arithOp, unOpA, takeN, List.drop, true_and, and_true, reduceIte, reduceCtorEq, false_implies, forall_const, iLe_eq, iLt_eq, iEq_eq, decide_true, decide_false, Bool.not_true, Bool.not_false, Bool.true_and, Bool.and_true, Bool.false_and, Bool.and_false, beq_self_eq_true, imp_self, Bool.true_eq_false, Bool.false_eq_true, Nat.zero_add, Nat.add_zero, Nat.zero_mul, Nat.mul_one, Nat.one_mul, Nat.sub_zero, beqT, beqF, List.getElem?_cons_zero, List.getElem?_cons_succ, e4, e14, e15, e16, e17, e12, d1, d2, d3, down_is S']
      have hc' := hcut
      simp only [Int.ofNat_eq_natCast] at hc'
      exact torn_loop ho ‹Src B nv ns› hx hl hb hw (by omega) (by simp [Env.get_set, e1]) (by simp [Env.get_set, e2]) (by simp [Env.get_set, e3]) (by simp [Env.get_set]) (by simp [Env.get_set]; exact hcut.symm) (hk _)
  · have d1 : decide (Int.ofNat 0 ≤ frm) = false := decide_eq_false h1
    have d3 : (tv == Int.ofNat 0) = false := by
      have : ¬ tv = 0 := fun hh => h1 (htv.1 hh).1
      simpa using this
    rw [if_neg (by omega)] at hcut
    simp -implicitDefEqProofs only [c3, a3_0b, a3_1b, a3_2b, a3_3b, a3_4b, a3_5b, a3_6b, a3_7b, a3_8b, a3_9b, a3_10b, a3_11b, a3_12b, a3_13b, a3_14b, a3_15b, a3_16b, a3_17b, a3_18b, a3_19b, a3_20b, a3_21b, a3_22b, a3_23b, a3_24b, a3_25b, a3_27b, a3_28b, a3_29b, a3_30b, a3_31b, a3_32b, a3_33b, a3_34b, a3_35b, a3_36b, a3_37b, a3_38b, a3_39b, a3_40b, a3_41b, a3_42b, a3_43b, a3_44b, a3_45b, a3_46b, a3_47b, a3_48b, WS_skip, WS_ops, WS_seq, WS_block, WS_cond, WS_exit, WS_ret, WB_true, WB_false, RS_nil, RS_seq, RS_seqE, RS_seqR, RS_blk, RS_blkE, RS_blkR, WP_nil, WP_cons, WP_guard, WG_true, WG_false, WX_val, WX_enter, KC_nil, getK_some, QC_normal, QC_ret, QL_normal, QL_exit, QL_ret, nbeq, ibeq, iltn, ilen, ite_true, ite_false, EV, ER, fill_nil, fill_cons, fillK_some, fillJ_some, AV.cellsOk, wantedA, Opd.ev, evs, Env.get, Env.set, Env.get_set, List.cons.injEq, and_false, false_and, and_self, putE, cond, againOk, getAll, getRes, packed, eqOp, isNilV, scalarK, arithOp, unOpA, takeN, List.drop, true_and, and_true, reduceIte, reduceCtorEq, false_implies, forall_const, iLe_eq, iLt_eq, iEq_eq, decide_true, decide_false, Bool.not_true, Bool.not_false, Bool.true_and, Bool.and_true, Bool.false_and, Bool.and_false, beq_self_eq_true, imp_self, Bool.true_eq_false, Bool.false_eq_true, Nat.zero_add, Nat.add_zero, Nat.zero_mul, Nat.mul_one, Nat.one_mul, Nat.sub_zero, beqT, beqF, List.getElem?_cons_zero, List.getElem?_cons_succ, e4, e14, e15, e16, e17, e12, d1, d3, down_is S']
    have hc' := hcut
    simp only [Int.ofNat_eq_natCast] at hc'
    exact torn_loop ho ‹Src B nv ns› hx hl hb hw (by omega) (by simp [Env.get_set, e1]) (by simp [Env.get_set, e2]) (by simp [Env.get_set, e3]) (by simp [Env.get_set]) (by simp [Env.get_set]; exact hcut.symm) (hk _)
end
end Go.Proofs.Ytohjmflbgohkhaa.E
