/- What a shelf's methods do where they refuse; and Stop. -/
import Derived.Test.YtohjmflbgohkhaaS9
namespace Go.Proofs.Ytohjmflbgohkhaa.E
set_option linter.all false
open Go

theorem dec_and {p q : Prop} [Decidable p] [Decidable q] (h : ¬ (p ∧ q)) : (decide p && decide q) = false := by
  rw [Bool.and_eq_false_iff]
  by_cases hp : p
  · right; exact decide_eq_false fun hq => h ⟨hp, hq⟩
  · left; exact decide_eq_false hp

section
variable {B : Base} {h : AHeap} {s di ni pi : Nat} {D N : List (List AV)} {P : List (Nat × List AV)} {pw : Int} {dn : Bool}

/- the power fails -/
theorem use_no (S : ShelfAt h s di ni pi D N P 0 dn) {K : AV → AHeap → Prop}
    (hk : ∀ h', ShelfAt h' s di ni pi D N P 0 true → Same h h' [s] → h'.length = h.length → K (.int .i64 (.ofNat 90)) h') : WC B G 19 [.ptr (.own s) 0] h K := by
  obtain ⟨ed, en, hs⟩ := S.hs
  refine WC_fun (af := a19) rfl rfl rfl ?_
  rw [args1]
  have e0 : ((0 : Int) == Int.ofNat 0) = true := rfl
  have e1 : ((0 : Int) == 0) = true := rfl
  simp -implicitDefEqProofs only [c19, a19_0b, a19_1b, a19_2b, a19_3b, a19_4b, a19_5b, a19_6b, a19_7b, a19_8b, a19_9b, a19_10b, WS_skip, WS_ops, WS_seq, WS_block, WS_cond, WS_exit, WS_ret, WB_true, WB_false, RS_nil, RS_seq, RS_seqE, RS_seqR, RS_blk, RS_blkE, RS_blkR, WP_nil, WP_cons, WP_guard, WG_true, WG_false, WX_val, WX_enter, KC_nil, getK_some, QC_normal, QC_ret, QL_normal, QL_exit, QL_ret, nbeq, ibeq, iltn, ilen, ite_true, ite_false, EV, ER, fill_nil, fill_cons, fillK_some, fillJ_some, CK, KC_cons, again_nil, again_cons, again_guard, againW_T, againW_F, againR_val, AV.same_refl, wantedA, Opd.ev, evs, Env.get, Env.set, Env.get_set, List.cons.injEq, and_false, false_and, and_self, putE, cond, getAll, getRes, packed, eqOp, isNilV, scalarK, arithOp, unOpA, takeN, List.drop, true_and, and_true, reduceIte, reduceCtorEq, false_implies, forall_const, iLe_eq, iLt_eq, iEq_eq, decide_true, decide_false, Bool.not_true, Bool.not_false, Bool.true_and, Bool.and_true, Bool.false_and, Bool.and_false, beq_self_eq_true, imp_self, Bool.true_eq_false, Bool.false_eq_true, Nat.zero_add, Nat.add_zero, Nat.zero_mul, Nat.mul_one, Nat.one_mul, Nat.sub_zero, beqT, beqF, ldOwn hs, stOwn hs, e0, e1, takeN, splice, List.length_cons, List.length_nil]
  have S' := S.put (pw' := 0) (dn' := true) (ed := ed) (en := en) (.inr rfl)
  exact hk _ S' (.set (by simp)) (by simp)

theorem read_down (S : ShelfAt h s di ni pi D N P pw true) {i : Int} : ∀ K : AV → AHeap → Prop, WC B G 11 [.ptr (.own s) 0, .int .i64 i] h K ↔ K (.tuple [.nilslice, .int .i64 (.ofNat 90)]) h := by
  obtain ⟨ed, en, hs⟩ := S.hs
  refine WC_iff fun K hk => WC_fun (af := a11) rfl rfl rfl ?_
  rw [args2]
  have e0 : (Int.ofNat 90 == Int.ofNat 0) = false := rfl
  simp -implicitDefEqProofs only [c11, a11_0b, a11_1b, a11_2b, a11_3b, a11_4b, a11_5b, a11_6b, a11_7b, a11_8b, a11_9b, a11_10b, WS_skip, WS_ops, WS_seq, WS_block, WS_cond, WS_exit, WS_ret, WB_true, WB_false, RS_nil, RS_seq, RS_seqE, RS_seqR, RS_blk, RS_blkE, RS_blkR, WP_nil, WP_cons, WP_guard, WG_true, WG_false, WX_val, WX_enter, KC_nil, getK_some, QC_normal, QC_ret, QL_normal, QL_exit, QL_ret, nbeq, ibeq, iltn, ilen, ite_true, ite_false, EV, ER, fill_nil, fill_cons, fillK_some, fillJ_some, CK, KC_cons, again_nil, again_cons, again_guard, againW_T, againW_F, againR_val, AV.same_refl, wantedA, Opd.ev, evs, Env.get, Env.set, Env.get_set, List.cons.injEq, and_false, false_and, and_self, putE, cond, getAll, getRes, packed, eqOp, isNilV, scalarK, arithOp, unOpA, takeN, List.drop, true_and, and_true, reduceIte, reduceCtorEq, false_implies, forall_const, iLe_eq, iLt_eq, iEq_eq, decide_true, decide_false, Bool.not_true, Bool.not_false, Bool.true_and, Bool.and_true, Bool.false_and, Bool.and_false, beq_self_eq_true, imp_self, Bool.true_eq_false, Bool.false_eq_true, Nat.zero_add, Nat.add_zero, Nat.zero_mul, Nat.mul_one, Nat.one_mul, Nat.sub_zero, beqT, beqF, state_is hs, if_true, e0]
  exact hk

theorem read_arg (S : ShelfAt h s di ni pi D N P pw false) {i : Int} (hi : ¬ (0 ≤ i ∧ i < Int.ofNat D.length)) : ∀ K : AV → AHeap → Prop, WC B G 11 [.ptr (.own s) 0, .int .i64 i] h K ↔ K (.tuple [.nilslice, .int .i64 (.ofNat 1)]) h := by
  obtain ⟨ed, en, hs⟩ := S.hs
  refine WC_iff fun K hk => WC_fun (af := a11) rfl rfl rfl ?_
  rw [args2]
  have hD : D.length < 1000000000 := by have := S.big; omega
  have e0 := dec_and hi
  have e1 : (Int.ofNat 0 == Int.ofNat 0) = true := rfl
  simp -implicitDefEqProofs only [c11, a11_0b, a11_1b, a11_2b, a11_3b, a11_4b, a11_5b, a11_6b, a11_7b, a11_8b, a11_9b, a11_10b, WS_skip, WS_ops, WS_seq, WS_block, WS_cond, WS_exit, WS_ret, WB_true, WB_false, RS_nil, RS_seq, RS_seqE, RS_seqR, RS_blk, RS_blkE, RS_blkR, WP_nil, WP_cons, WP_guard, WG_true, WG_false, WX_val, WX_enter, KC_nil, getK_some, QC_normal, QC_ret, QL_normal, QL_exit, QL_ret, nbeq, ibeq, iltn, ilen, ite_true, ite_false, EV, ER, fill_nil, fill_cons, fillK_some, fillJ_some, CK, KC_cons, again_nil, again_cons, again_guard, againW_T, againW_F, againR_val, AV.same_refl, wantedA, Opd.ev, evs, Env.get, Env.set, Env.get_set, List.cons.injEq, and_false, false_and, and_self, putE, cond, getAll, getRes, packed, eqOp, isNilV, scalarK, arithOp, unOpA, takeN, List.drop, true_and, and_true, reduceIte, reduceCtorEq, false_implies, forall_const, iLe_eq, iLt_eq, iEq_eq, decide_true, decide_false, Bool.not_true, Bool.not_false, Bool.true_and, Bool.and_true, Bool.false_and, Bool.and_false, beq_self_eq_true, imp_self, Bool.true_eq_false, Bool.false_eq_true, Nat.zero_add, Nat.add_zero, Nat.zero_mul, Nat.mul_one, Nat.one_mul, Nat.sub_zero, beqT, beqF, state_is hs, has_is hs hD, e0, e1]
  exact hk

theorem write_down (S : ShelfAt h s di ni pi D N P pw true) {i : Int} {bv : AV} : ∀ K : AV → AHeap → Prop, WC B G 7 [.ptr (.own s) 0, .int .i64 i, bv] h K ↔ K (.int .i64 (.ofNat 90)) h := by
  obtain ⟨ed, en, hs⟩ := S.hs
  refine WC_iff fun K hk => WC_fun (af := a7) rfl rfl rfl ?_
  rw [args3]
  have e0 : (Int.ofNat 90 == Int.ofNat 0) = false := rfl
  simp -implicitDefEqProofs only [c7, a7_0b, a7_1b, a7_2b, a7_3b, a7_4b, a7_5b, a7_6b, a7_7b, a7_8b, a7_9b, a7_10b, a7_11b, a7_12b, a7_13b, a7_14b, a7_15b, a7_16b, a7_17b, a7_18b, a7_19b, a7_20b, a7_21b, a7_22b, a7_23b, WS_skip, WS_ops, WS_seq, WS_block, WS_cond, WS_exit, WS_ret, WB_true, WB_false, RS_nil, RS_seq, RS_seqE, RS_seqR, RS_blk, RS_blkE, RS_blkR, WP_nil, WP_cons, WP_guard, WG_true, WG_false, WX_val, WX_enter, KC_nil, getK_some, QC_normal, QC_ret, QL_normal, QL_exit, QL_ret, nbeq, ibeq, iltn, ilen, ite_true, ite_false, EV, ER, fill_nil, fill_cons, fillK_some, fillJ_some, CK, KC_cons, again_nil, again_cons, again_guard, againW_T, againW_F, againR_val, AV.same_refl, wantedA, Opd.ev, evs, Env.get, Env.set, Env.get_set, List.cons.injEq, and_false, false_and, and_self, putE, cond, getAll, getRes, packed, eqOp, isNilV, scalarK, arithOp, unOpA, takeN, List.drop, true_and, and_true, reduceIte, reduceCtorEq, false_implies, forall_const, iLe_eq, iLt_eq, iEq_eq, decide_true, decide_false, Bool.not_true, Bool.not_false, Bool.true_and, Bool.and_true, Bool.false_and, Bool.and_false, beq_self_eq_true, imp_self, Bool.true_eq_false, Bool.false_eq_true, Nat.zero_add, Nat.add_zero, Nat.zero_mul, Nat.mul_one, Nat.one_mul, Nat.sub_zero, beqT, beqF, state_is hs, if_true, e0]
  exact hk

theorem write_arg (S : ShelfAt h s di ni pi D N P pw false) {i : Int} {bv : AV} (hi : ¬ (0 ≤ i ∧ i < Int.ofNat D.length)) : ∀ K : AV → AHeap → Prop, WC B G 7 [.ptr (.own s) 0, .int .i64 i, bv] h K ↔ K (.int .i64 (.ofNat 1)) h := by
  obtain ⟨ed, en, hs⟩ := S.hs
  refine WC_iff fun K hk => WC_fun (af := a7) rfl rfl rfl ?_
  rw [args3]
  have hD : D.length < 1000000000 := by have := S.big; omega
  have e0 := dec_and hi
  have e1 : (Int.ofNat 0 == Int.ofNat 0) = true := rfl
  simp -implicitDefEqProofs only [c7, a7_0b, a7_1b, a7_2b, a7_3b, a7_4b, a7_5b, a7_6b, a7_7b, a7_8b, a7_9b, a7_10b, a7_11b, a7_12b, a7_13b, a7_14b, a7_15b, a7_16b, a7_17b, a7_18b, a7_19b, a7_20b, a7_21b, a7_22b, a7_23b, WS_skip, WS_ops, WS_seq, WS_block, WS_cond, WS_exit, WS_ret, WB_true, WB_false, RS_nil, RS_seq, RS_seqE, RS_seqR, RS_blk, RS_blkE, RS_blkR, WP_nil, WP_cons, WP_guard, WG_true, WG_false, WX_val, WX_enter, KC_nil, getK_some, QC_normal, QC_ret, QL_normal, QL_exit, QL_ret, nbeq, ibeq, iltn, ilen, ite_true, ite_false, EV, ER, fill_nil, fill_cons, fillK_some, fillJ_some, CK, KC_cons, again_nil, again_cons, again_guard, againW_T, againW_F, againR_val, AV.same_refl, wantedA, Opd.ev, evs, Env.get, Env.set, Env.get_set, List.cons.injEq, and_false, false_and, and_self, putE, cond, getAll, getRes, packed, eqOp, isNilV, scalarK, arithOp, unOpA, takeN, List.drop, true_and, and_true, reduceIte, reduceCtorEq, false_implies, forall_const, iLe_eq, iLt_eq, iEq_eq, decide_true, decide_false, Bool.not_true, Bool.not_false, Bool.true_and, Bool.and_true, Bool.false_and, Bool.and_false, beq_self_eq_true, imp_self, Bool.true_eq_false, Bool.false_eq_true, Nat.zero_add, Nat.add_zero, Nat.zero_mul, Nat.mul_one, Nat.one_mul, Nat.sub_zero, beqT, beqF, state_is hs, has_is hs hD, e0, e1]
  exact hk

theorem src_len' {B : Base} {bv : AV} {cs : List AV} (hb : Src B bv cs) (h : AHeap) : lenR bv h = some (.val (.int .i64 (.ofNat cs.length)) h) := by
  rcases hb with ⟨rfl, rfl⟩ | ⟨b, o, c, e, rfl, -⟩ <;> rfl

theorem write_long (S : ShelfAt h s di ni pi D N P pw false) {i : Nat} {bv : AV} {cs : List AV} (hi : i < D.length) (hb : Src B bv cs) (hl : 64 < cs.length) : ∀ K : AV → AHeap → Prop, WC B G 7 [.ptr (.own s) 0, .int .i64 (.ofNat i), bv] h K ↔ K (.int .i64 (.ofNat 2)) h := by
  obtain ⟨ed, en, hs⟩ := S.hs
  refine WC_iff fun K hk => WC_fun (af := a7) rfl rfl rfl ?_
  rw [args3]
  have hD : D.length < 1000000000 := by have := S.big; omega
  have e00 : decide (0 ≤ Int.ofNat i) = true := by simp
  have e01 : decide (i < D.length) = true := by simpa using hi
  have e1 : (Int.ofNat 0 == Int.ofNat 0) = true := rfl
  have e2 : decide (64 < cs.length) = true := by simpa using hl
  simp -implicitDefEqProofs only [c7, a7_0b, a7_1b, a7_2b, a7_3b, a7_4b, a7_5b, a7_6b, a7_7b, a7_8b, a7_9b, a7_10b, a7_11b, a7_12b, a7_13b, a7_14b, a7_15b, a7_16b, a7_17b, a7_18b, a7_19b, a7_20b, a7_21b, a7_22b, a7_23b, WS_skip, WS_ops, WS_seq, WS_block, WS_cond, WS_exit, WS_ret, WB_true, WB_false, RS_nil, RS_seq, RS_seqE, RS_seqR, RS_blk, RS_blkE, RS_blkR, WP_nil, WP_cons, WP_guard, WG_true, WG_false, WX_val, WX_enter, KC_nil, getK_some, QC_normal, QC_ret, QL_normal, QL_exit, QL_ret, nbeq, ibeq, iltn, ilen, ite_true, ite_false, EV, ER, fill_nil, fill_cons, fillK_some, fillJ_some, CK, KC_cons, again_nil, again_cons, again_guard, againW_T, againW_F, againR_val, AV.same_refl, wantedA, Opd.ev, evs, Env.get, Env.set, Env.get_set, List.cons.injEq, and_false, false_and, and_self, putE, cond, getAll, getRes, packed, eqOp, isNilV, scalarK, arithOp, unOpA, takeN, List.drop, true_and, and_true, reduceIte, reduceCtorEq, false_implies, forall_const, iLe_eq, iLt_eq, iEq_eq, decide_true, decide_false, Bool.not_true, Bool.not_false, Bool.true_and, Bool.and_true, Bool.false_and, Bool.and_false, beq_self_eq_true, imp_self, Bool.true_eq_false, Bool.false_eq_true, Nat.zero_add, Nat.add_zero, Nat.zero_mul, Nat.mul_one, Nat.one_mul, Nat.sub_zero, beqT, beqF, state_is hs, has_is hs hD, e00, e01, e1, src_len' hb, e2]
  exact hk

theorem write_power (S : ShelfAt h s di ni pi D N P 0 false) {i : Nat} {bv : AV} {cs : List AV} (hi : i < D.length) (hb : Src B bv cs) (hl : cs.length ≤ 64) {K : AV → AHeap → Prop}
    (hk : ∀ h', ShelfAt h' s di ni pi D N P 0 true → Same h h' [s] → h'.length = h.length → K (.int .i64 (.ofNat 90)) h') : WC B G 7 [.ptr (.own s) 0, .int .i64 (.ofNat i), bv] h K := by
  obtain ⟨ed, en, hs⟩ := S.hs
  refine WC_fun (af := a7) rfl rfl rfl ?_
  rw [args3]
  have hD : D.length < 1000000000 := by have := S.big; omega
  have e00 : decide (0 ≤ Int.ofNat i) = true := by simp
  have e01 : decide (i < D.length) = true := by simpa using hi
  have e1 : (Int.ofNat 0 == Int.ofNat 0) = true := rfl
  have e2 : decide (64 < cs.length) = false := by simp; omega
  have e3 : (Int.ofNat 90 == Int.ofNat 0) = false := rfl
  simp -implicitDefEqProofs only [c7, a7_0b, a7_1b, a7_2b, a7_3b, a7_4b, a7_5b, a7_6b, a7_7b, a7_8b, a7_9b, a7_10b, a7_11b, a7_12b, a7_13b, a7_14b, a7_15b, a7_16b, a7_17b, a7_18b, a7_19b, a7_20b, a7_21b, a7_22b, a7_23b, WS_skip, WS_ops, WS_seq, WS_block, WS_cond, WS_exit, WS_ret, WB_true, WB_false, RS_nil, RS_seq, RS_seqE, RS_seqR, RS_blk, RS_blkE, RS_blkR, WP_nil, WP_cons, WP_guard, WG_true, WG_false, WX_val, WX_enter, KC_nil, getK_some, QC_normal, QC_ret, QL_normal, QL_exit, QL_ret, nbeq, ibeq, iltn, ilen, ite_true, ite_false, EV, ER, fill_nil, fill_cons, fillK_some, fillJ_some, CK, KC_cons, again_nil, again_cons, again_guard, againW_T, againW_F, againR_val, AV.same_refl, wantedA, Opd.ev, evs, Env.get, Env.set, Env.get_set, List.cons.injEq, and_false, false_and, and_self, putE, cond, getAll, getRes, packed, eqOp, isNilV, scalarK, arithOp, unOpA, takeN, List.drop, true_and, and_true, reduceIte, reduceCtorEq, false_implies, forall_const, iLe_eq, iLt_eq, iEq_eq, decide_true, decide_false, Bool.not_true, Bool.not_false, Bool.true_and, Bool.and_true, Bool.false_and, Bool.and_false, beq_self_eq_true, imp_self, Bool.true_eq_false, Bool.false_eq_true, Nat.zero_add, Nat.add_zero, Nat.zero_mul, Nat.mul_one, Nat.one_mul, Nat.sub_zero, beqT, beqF, state_is hs, has_is hs hD, e00, e01, e1, src_len' hb, e2]
  refine use_no S fun h' S' sm hl => ?_
  simp -implicitDefEqProofs only [c7, a7_0b, a7_1b, a7_2b, a7_3b, a7_4b, a7_5b, a7_6b, a7_7b, a7_8b, a7_9b, a7_10b, a7_11b, a7_12b, a7_13b, a7_14b, a7_15b, a7_16b, a7_17b, a7_18b, a7_19b, a7_20b, a7_21b, a7_22b, a7_23b, WS_skip, WS_ops, WS_seq, WS_block, WS_cond, WS_exit, WS_ret, WB_true, WB_false, RS_nil, RS_seq, RS_seqE, RS_seqR, RS_blk, RS_blkE, RS_blkR, WP_nil, WP_cons, WP_guard, WG_true, WG_false, WX_val, WX_enter, KC_nil, getK_some, QC_normal, QC_ret, QL_normal, QL_exit, QL_ret, nbeq, ibeq, iltn, ilen, ite_true, ite_false, EV, ER, fill_nil, fill_cons, fillK_some, fillJ_some, CK, KC_cons, again_nil, again_cons, again_guard, againW_T, againW_F, againR_val, AV.same_refl, wantedA, Opd.ev, evs, Env.get, Env.set, Env.get_set, List.cons.injEq, and_false, false_and, and_self, putE, cond, getAll, getRes, packed, eqOp, isNilV, scalarK, arithOp, unOpA, takeN, List.drop, true_and, and_true, reduceIte, reduceCtorEq, false_implies, forall_const, iLe_eq, iLt_eq, iEq_eq, decide_true, decide_false, Bool.not_true, Bool.not_false, Bool.true_and, Bool.and_true, Bool.false_and, Bool.and_false, beq_self_eq_true, imp_self, Bool.true_eq_false, Bool.false_eq_true, Nat.zero_add, Nat.add_zero, Nat.zero_mul, Nat.mul_one, Nat.one_mul, Nat.sub_zero, beqT, beqF, e3]
  exact hk h' S' sm hl

theorem press_down (S : ShelfAt h s di ni pi D N P pw true) : ∀ K : AV → AHeap → Prop, WC B G 8 [.ptr (.own s) 0] h K ↔ K (.int .i64 (.ofNat 90)) h := by
  obtain ⟨ed, en, hs⟩ := S.hs
  refine WC_iff fun K hk => WC_fun (af := a8) rfl rfl rfl ?_
  rw [args1]
  have e0 : (Int.ofNat 90 == Int.ofNat 0) = false := rfl
  simp -implicitDefEqProofs only [c8, a8_0b, a8_1b, a8_2b, a8_3b, a8_4b, a8_5b, a8_6b, a8_7b, a8_8b, a8_9b, a8_10b, a8_11b, a8_12b, a8_13b, a8_14b, a8_15b, a8_16b, a8_17b, a8_18b, a8_19b, a8_20b, a8_21b, a8_22b, a8_23b, a8_24b, WS_skip, WS_ops, WS_seq, WS_block, WS_cond, WS_exit, WS_ret, WB_true, WB_false, RS_nil, RS_seq, RS_seqE, RS_seqR, RS_blk, RS_blkE, RS_blkR, WP_nil, WP_cons, WP_guard, WG_true, WG_false, WX_val, WX_enter, KC_nil, getK_some, QC_normal, QC_ret, QL_normal, QL_exit, QL_ret, nbeq, ibeq, iltn, ilen, ite_true, ite_false, EV, ER, fill_nil, fill_cons, fillK_some, fillJ_some, CK, KC_cons, again_nil, again_cons, again_guard, againW_T, againW_F, againR_val, AV.same_refl, wantedA, Opd.ev, evs, Env.get, Env.set, Env.get_set, List.cons.injEq, and_false, false_and, and_self, putE, cond, getAll, getRes, packed, eqOp, isNilV, scalarK, arithOp, unOpA, takeN, List.drop, true_and, and_true, reduceIte, reduceCtorEq, false_implies, forall_const, iLe_eq, iLt_eq, iEq_eq, decide_true, decide_false, Bool.not_true, Bool.not_false, Bool.true_and, Bool.and_true, Bool.false_and, Bool.and_false, beq_self_eq_true, imp_self, Bool.true_eq_false, Bool.false_eq_true, Nat.zero_add, Nat.add_zero, Nat.zero_mul, Nat.mul_one, Nat.one_mul, Nat.sub_zero, beqT, beqF, state_is hs, if_true, e0]
  exact hk

theorem press_power (S : ShelfAt h s di ni pi D N P 0 false) {K : AV → AHeap → Prop}
    (hk : ∀ h', ShelfAt h' s di ni pi D N P 0 true → Same h h' [s] → h'.length = h.length → K (.int .i64 (.ofNat 90)) h') : WC B G 8 [.ptr (.own s) 0] h K := by
  obtain ⟨ed, en, hs⟩ := S.hs
  refine WC_fun (af := a8) rfl rfl rfl ?_
  rw [args1]
  have e1 : (Int.ofNat 0 == Int.ofNat 0) = true := rfl
  have e3 : (Int.ofNat 90 == Int.ofNat 0) = false := rfl
  simp -implicitDefEqProofs only [c8, a8_0b, a8_1b, a8_2b, a8_3b, a8_4b, a8_5b, a8_6b, a8_7b, a8_8b, a8_9b, a8_10b, a8_11b, a8_12b, a8_13b, a8_14b, a8_15b, a8_16b, a8_17b, a8_18b, a8_19b, a8_20b, a8_21b, a8_22b, a8_23b, a8_24b, WS_skip, WS_ops, WS_seq, WS_block, WS_cond, WS_exit, WS_ret, WB_true, WB_false, RS_nil, RS_seq, RS_seqE, RS_seqR, RS_blk, RS_blkE, RS_blkR, WP_nil, WP_cons, WP_guard, WG_true, WG_false, WX_val, WX_enter, KC_nil, getK_some, QC_normal, QC_ret, QL_normal, QL_exit, QL_ret, nbeq, ibeq, iltn, ilen, ite_true, ite_false, EV, ER, fill_nil, fill_cons, fillK_some, fillJ_some, CK, KC_cons, again_nil, again_cons, again_guard, againW_T, againW_F, againR_val, AV.same_refl, wantedA, Opd.ev, evs, Env.get, Env.set, Env.get_set, List.cons.injEq, and_false, false_and, and_self, putE, cond, getAll, getRes, packed, eqOp, isNilV, scalarK, arithOp, unOpA, takeN, List.drop, true_and, and_true, reduceIte, reduceCtorEq, false_implies, forall_const, iLe_eq, iLt_eq, iEq_eq, decide_true, decide_false, Bool.not_true, Bool.not_false, Bool.true_and, Bool.and_true, Bool.false_and, Bool.and_false, beq_self_eq_true, imp_self, Bool.true_eq_false, Bool.false_eq_true, Nat.zero_add, Nat.add_zero, Nat.zero_mul, Nat.mul_one, Nat.one_mul, Nat.sub_zero, beqT, beqF, state_is hs, e1]
  refine use_no S fun h' S' sm hl => ?_
  simp -implicitDefEqProofs only [c8, a8_0b, a8_1b, a8_2b, a8_3b, a8_4b, a8_5b, a8_6b, a8_7b, a8_8b, a8_9b, a8_10b, a8_11b, a8_12b, a8_13b, a8_14b, a8_15b, a8_16b, a8_17b, a8_18b, a8_19b, a8_20b, a8_21b, a8_22b, a8_23b, a8_24b, WS_skip, WS_ops, WS_seq, WS_block, WS_cond, WS_exit, WS_ret, WB_true, WB_false, RS_nil, RS_seq, RS_seqE, RS_seqR, RS_blk, RS_blkE, RS_blkR, WP_nil, WP_cons, WP_guard, WG_true, WG_false, WX_val, WX_enter, KC_nil, getK_some, QC_normal, QC_ret, QL_normal, QL_exit, QL_ret, nbeq, ibeq, iltn, ilen, ite_true, ite_false, EV, ER, fill_nil, fill_cons, fillK_some, fillJ_some, CK, KC_cons, again_nil, again_cons, again_guard, againW_T, againW_F, againR_val, AV.same_refl, wantedA, Opd.ev, evs, Env.get, Env.set, Env.get_set, List.cons.injEq, and_false, false_and, and_self, putE, cond, getAll, getRes, packed, eqOp, isNilV, scalarK, arithOp, unOpA, takeN, List.drop, true_and, and_true, reduceIte, reduceCtorEq, false_implies, forall_const, iLe_eq, iLt_eq, iEq_eq, decide_true, decide_false, Bool.not_true, Bool.not_false, Bool.true_and, Bool.and_true, Bool.false_and, Bool.and_false, beq_self_eq_true, imp_self, Bool.true_eq_false, Bool.false_eq_true, Nat.zero_add, Nat.add_zero, Nat.zero_mul, Nat.mul_one, Nat.one_mul, Nat.sub_zero, beqT, beqF, e3]
  exact hk h' S' sm hl

theorem stop_down (S : ShelfAt h s di ni pi D N P pw true) {n : Int} : ∀ K : AV → AHeap → Prop, WC B G 27 [.ptr (.own s) 0, .int .i64 n] h K ↔ K (.int .i64 (.ofNat 90)) h := by
  obtain ⟨ed, en, hs⟩ := S.hs
  refine WC_iff fun K hk => WC_fun (af := a27) rfl rfl rfl ?_
  rw [args2]
  have e0 : (Int.ofNat 90 == Int.ofNat 0) = false := rfl
  simp -implicitDefEqProofs only [c27, a27_0b, a27_1b, a27_2b, a27_3b, a27_4b, a27_5b, a27_6b, a27_7b, a27_8b, a27_9b, a27_10b, a27_11b, WS_skip, WS_ops, WS_seq, WS_block, WS_cond, WS_exit, WS_ret, WB_true, WB_false, RS_nil, RS_seq, RS_seqE, RS_seqR, RS_blk, RS_blkE, RS_blkR, WP_nil, WP_cons, WP_guard, WG_true, WG_false, WX_val, WX_enter, KC_nil, getK_some, QC_normal, QC_ret, QL_normal, QL_exit, QL_ret, nbeq, ibeq, iltn, ilen, ite_true, ite_false, EV, ER, fill_nil, fill_cons, fillK_some, fillJ_some, CK, KC_cons, again_nil, again_cons, again_guard, againW_T, againW_F, againR_val, AV.same_refl, wantedA, Opd.ev, evs, Env.get, Env.set, Env.get_set, List.cons.injEq, and_false, false_and, and_self, putE, cond, getAll, getRes, packed, eqOp, isNilV, scalarK, arithOp, unOpA, takeN, List.drop, true_and, and_true, reduceIte, reduceCtorEq, false_implies, forall_const, iLe_eq, iLt_eq, iEq_eq, decide_true, decide_false, Bool.not_true, Bool.not_false, Bool.true_and, Bool.and_true, Bool.false_and, Bool.and_false, beq_self_eq_true, imp_self, Bool.true_eq_false, Bool.false_eq_true, Nat.zero_add, Nat.add_zero, Nat.zero_mul, Nat.mul_one, Nat.one_mul, Nat.sub_zero, beqT, beqF, state_is hs, if_true, e0]
  exact hk

theorem stop_arg (S : ShelfAt h s di ni pi D N P pw false) {n : Int} (hn : n < 0) : ∀ K : AV → AHeap → Prop, WC B G 27 [.ptr (.own s) 0, .int .i64 n] h K ↔ K (.int .i64 (.ofNat 1)) h := by
  obtain ⟨ed, en, hs⟩ := S.hs
  refine WC_iff fun K hk => WC_fun (af := a27) rfl rfl rfl ?_
  rw [args2]
  have e0 : (Int.ofNat 0 == Int.ofNat 0) = true := rfl
  have e1 : decide (n < Int.ofNat 0) = true := decide_eq_true hn
  simp -implicitDefEqProofs only [c27, a27_0b, a27_1b, a27_2b, a27_3b, a27_4b, a27_5b, a27_6b, a27_7b, a27_8b, a27_9b, a27_10b, a27_11b, WS_skip, WS_ops, WS_seq, WS_block, WS_cond, WS_exit, WS_ret, WB_true, WB_false, RS_nil, RS_seq, RS_seqE, RS_seqR, RS_blk, RS_blkE, RS_blkR, WP_nil, WP_cons, WP_guard, WG_true, WG_false, WX_val, WX_enter, KC_nil, getK_some, QC_normal, QC_ret, QL_normal, QL_exit, QL_ret, nbeq, ibeq, iltn, ilen, ite_true, ite_false, EV, ER, fill_nil, fill_cons, fillK_some, fillJ_some, CK, KC_cons, again_nil, again_cons, again_guard, againW_T, againW_F, againR_val, AV.same_refl, wantedA, Opd.ev, evs, Env.get, Env.set, Env.get_set, List.cons.injEq, and_false, false_and, and_self, putE, cond, getAll, getRes, packed, eqOp, isNilV, scalarK, arithOp, unOpA, takeN, List.drop, true_and, and_true, reduceIte, reduceCtorEq, false_implies, forall_const, iLe_eq, iLt_eq, iEq_eq, decide_true, decide_false, Bool.not_true, Bool.not_false, Bool.true_and, Bool.and_true, Bool.false_and, Bool.and_false, beq_self_eq_true, imp_self, Bool.true_eq_false, Bool.false_eq_true, Nat.zero_add, Nat.add_zero, Nat.zero_mul, Nat.mul_one, Nat.one_mul, Nat.sub_zero, beqT, beqF, state_is hs, e0, e1]
  exact hk

theorem stop_ok (S : ShelfAt h s di ni pi D N P pw false) {n : Int} (hn : ¬ n < 0) {K : AV → AHeap → Prop}
    (hk : ∀ h', ShelfAt h' s di ni pi D N P n false → Same h h' [s] → h'.length = h.length → K (.int .i64 (.ofNat 0)) h') : WC B G 27 [.ptr (.own s) 0, .int .i64 n] h K := by
  obtain ⟨ed, en, hs⟩ := S.hs
  refine WC_fun (af := a27) rfl rfl rfl ?_
  rw [args2]
  have e0 : (Int.ofNat 0 == Int.ofNat 0) = true := rfl
  have e1 : decide (n < Int.ofNat 0) = false := decide_eq_false hn
  simp -implicitDefEqProofs only [c27, a27_0b, a27_1b, a27_2b, a27_3b, a27_4b, a27_5b, a27_6b, a27_7b, a27_8b, a27_9b, a27_10b, a27_11b, WS_skip, WS_ops, WS_seq, WS_block, WS_cond, WS_exit, WS_ret, WB_true, WB_false, RS_nil, RS_seq, RS_seqE, RS_seqR, RS_blk, RS_blkE, RS_blkR, WP_nil, WP_cons, WP_guard, WG_true, WG_false, WX_val, WX_enter, KC_nil, getK_some, QC_normal, QC_ret, QL_normal, QL_exit, QL_ret, nbeq, ibeq, iltn, ilen, ite_true, ite_false, EV, ER, fill_nil, fill_cons, fillK_some, fillJ_some, CK, KC_cons, again_nil, again_cons, again_guard, againW_T, againW_F, againR_val, AV.same_refl, wantedA, Opd.ev, evs, Env.get, Env.set, Env.get_set, List.cons.injEq, and_false, false_and, and_self, putE, cond, getAll, getRes, packed, eqOp, isNilV, scalarK, arithOp, unOpA, takeN, List.drop, true_and, and_true, reduceIte, reduceCtorEq, false_implies, forall_const, iLe_eq, iLt_eq, iEq_eq, decide_true, decide_false, Bool.not_true, Bool.not_false, Bool.true_and, Bool.and_true, Bool.false_and, Bool.and_false, beq_self_eq_true, imp_self, Bool.true_eq_false, Bool.false_eq_true, Nat.zero_add, Nat.add_zero, Nat.zero_mul, Nat.mul_one, Nat.one_mul, Nat.sub_zero, beqT, beqF, state_is hs, e0, e1, stOwn hs, splice, List.length_cons, List.length_nil]
  have S' := S.put (pw' := n) (dn' := false) (ed := ed) (en := en) (.inr rfl)
  exact hk _ S' (.set (by simp)) (by simp)
end
end Go.Proofs.Ytohjmflbgohkhaa.E
