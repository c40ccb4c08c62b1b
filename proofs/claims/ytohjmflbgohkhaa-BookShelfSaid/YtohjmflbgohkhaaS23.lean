/- BookShelf: the other operations of the script. -/
import Derived.Test.YtohjmflbgohkhaaS22
namespace Go.Proofs.Ytohjmflbgohkhaa.E
set_option linter.all false
open Go

section
variable {B : Base} {h : AHeap} {s di ni pi m dd q : Nat} {DS : List (List Nat)} {PS : List (Nat × List Nat)} {pw : Int} {dn : Bool}

set_option maxHeartbeats 2000000 in
theorem step_press (A : Both h s di ni pi m dd q DS PS pw dn) (hP : PS.length < 1000) {kind : Nat} {i n : Int} {bv kv : AV} (hk0 : kind % 6 = 2) {K : AV → AHeap → Prop}
    (hk : ∀ h', Next h.length s m DS.length (PS.length + 1) h' → K (.bool true) h') :
    WC B G 15 [.ptr (.own s) 0, .ptr (.own m) 0, .agg [.int .u8 (.ofNat kind), .int .i64 i, bv, .int .i64 n, kv]] h K := by
  refine WC_fun (af := a15) rfl rfl rfl ?_
  rw [args3]
  have sm0 := Same.app h [.cells [.int .u8 (.ofNat kind), .int .i64 i, bv, .int .i64 n, kv]] []
  have A0 := A.keep sm0
  have hx : hcells (h ++ [.cells [.int .u8 (.ofNat kind), .int .i64 i, bv, .int .i64 n, kv]]) h.length = some _ := hc_new
  have hl0 : h.length ≤ (h ++ [AObj.cells [.int .u8 (.ofNat kind), .int .i64 i, bv, .int .i64 n, kv]]).length := by simp
  have e6 : (Int.ofNat 6 == 0) = false := rfl
  have ek : (Int.ofNat kind).tmod (Int.ofNat 6) = .ofNat 2 := by
    show ((kind % 6 : Nat) : Int) = _; rw [hk0]; rfl
  have k0 : (Int.ofNat 2 == Int.ofNat 0) = false := rfl
  have k1 : (Int.ofNat 2 == Int.ofNat 1) = false := rfl
  have k2 : (Int.ofNat 2 == Int.ofNat 2) = true := rfl
  have k3 : (Int.ofNat 2 == Int.ofNat 3) = false := rfl
  have k4 : (Int.ofNat 2 == Int.ofNat 4) = false := rfl
  simp -implicitDefEqProofs only [c15, a15_0b, a15_1b, a15_2b, a15_3b, a15_4b, a15_5b, a15_6b, a15_7b, a15_8b, a15_9b, a15_10b, a15_11b, a15_12b, a15_13b, a15_14b, a15_15b, a15_16b, a15_17b, a15_18b, a15_19b, a15_20b, a15_21b, a15_22b, a15_23b, WS_skip, WS_ops, WS_seq, WS_block, WS_cond, WS_exit, WS_ret, WB_true, WB_false, RS_nil, RS_seq, RS_seqE, RS_seqR, RS_blk, RS_blkE, RS_blkR, WP_nil, WP_cons, WP_guard, WG_true, WG_false, WX_val, WX_enter, KC_nil, getK_some, QC_normal, QC_ret, QL_normal, QL_exit, QL_ret, nbeq, ibeq, iltn, ilen, ite_true, ite_false, EV, ER, fill_nil, fill_cons, fillK_some, fillJ_some, CK, KC_cons, again_nil, again_cons, again_guard, againW_T, againW_F, againR_val, AV.same_refl, wantedA, Opd.ev, evs, Env.get, Env.set, Env.get_set, List.cons.injEq, and_false, false_and, and_self, putE, cond, getAll, getRes, packed, eqOp, isNilV, scalarK, arithOp, unOpA, takeN, List.drop, true_and, and_true, reduceIte, reduceCtorEq, false_implies, forall_const, iLe_eq, iLt_eq, iEq_eq, decide_true, decide_false, Bool.not_true, Bool.not_false, Bool.true_and, Bool.and_true, Bool.false_and, Bool.and_false, beq_self_eq_true, imp_self, Bool.true_eq_false, Bool.false_eq_true, Nat.zero_add, Nat.add_zero, Nat.zero_mul, Nat.mul_one, Nat.one_mul, Nat.sub_zero, beqT, beqF]
  have hxl := hc_lt hx
  have lt := A.lt
  generalize h ++ [AObj.cells [.int .u8 (.ofNat kind), .int .i64 i, bv, .int .i64 n, kv]] = h0 at sm0 A0 hx hl0 hxl
  have e0 := beqI 0
  have e1 := beqI 1
  have e2 := beqI 2
  have e90 := beqI 90
  have hm := A0.M.hm
  have dI := down_is (B := B) A0.S
  cases dn with
  | true =>
    simp -implicitDefEqProofs only [c15, a15_0b, a15_1b, a15_2b, a15_3b, a15_4b, a15_5b, a15_6b, a15_7b, a15_8b, a15_9b, a15_10b, a15_11b, a15_12b, a15_13b, a15_14b, a15_15b, a15_16b, a15_17b, a15_18b, a15_19b, a15_20b, a15_21b, a15_22b, a15_23b, WS_skip, WS_ops, WS_seq, WS_block, WS_cond, WS_exit, WS_ret, WB_true, WB_false, RS_nil, RS_seq, RS_seqE, RS_seqR, RS_blk, RS_blkE, RS_blkR, WP_nil, WP_cons, WP_guard, WG_true, WG_false, WX_val, WX_enter, KC_nil, getK_some, QC_normal, QC_ret, QL_normal, QL_exit, QL_ret, nbeq, ibeq, iltn, ilen, ite_true, ite_false, EV, ER, fill_nil, fill_cons, fillK_some, fillJ_some, CK, KC_cons, again_nil, again_cons, again_guard, againW_T, againW_F, againR_val, AV.same_refl, wantedA, Opd.ev, evs, Env.get, Env.set, Env.get_set, List.cons.injEq, and_false, false_and, and_self, putE, cond, getAll, getRes, packed, eqOp, isNilV, scalarK, arithOp, unOpA, takeN, List.drop, true_and, and_true, reduceIte, reduceCtorEq, false_implies, forall_const, iLe_eq, iLt_eq, iEq_eq, decide_true, decide_false, Bool.not_true, Bool.not_false, Bool.true_and, Bool.and_true, Bool.false_and, Bool.and_false, beq_self_eq_true, imp_self, Bool.true_eq_false, Bool.false_eq_true, Nat.zero_add, Nat.add_zero, Nat.zero_mul, Nat.mul_one, Nat.one_mul, Nat.sub_zero, beqT, beqF, ldOwn hx, takeN, e6, ek, k0, k1, k2, k3, k4, e90, press_down A0.S, mpress_down A0.M, dI, ldOwn hm]
    exact hk _ ⟨_, _, _, _, _, _, _, _, _, A0, rfl, by omega, hl0⟩
  | false =>
    by_cases hpw : pw = 0
    · subst hpw
      simp -implicitDefEqProofs only [c15, a15_0b, a15_1b, a15_2b, a15_3b, a15_4b, a15_5b, a15_6b, a15_7b, a15_8b, a15_9b, a15_10b, a15_11b, a15_12b, a15_13b, a15_14b, a15_15b, a15_16b, a15_17b, a15_18b, a15_19b, a15_20b, a15_21b, a15_22b, a15_23b, WS_skip, WS_ops, WS_seq, WS_block, WS_cond, WS_exit, WS_ret, WB_true, WB_false, RS_nil, RS_seq, RS_seqE, RS_seqR, RS_blk, RS_blkE, RS_blkR, WP_nil, WP_cons, WP_guard, WG_true, WG_false, WX_val, WX_enter, KC_nil, getK_some, QC_normal, QC_ret, QL_normal, QL_exit, QL_ret, nbeq, ibeq, iltn, ilen, ite_true, ite_false, EV, ER, fill_nil, fill_cons, fillK_some, fillJ_some, CK, KC_cons, again_nil, again_cons, again_guard, againW_T, againW_F, againR_val, AV.same_refl, wantedA, Opd.ev, evs, Env.get, Env.set, Env.get_set, List.cons.injEq, and_false, false_and, and_self, putE, cond, getAll, getRes, packed, eqOp, isNilV, scalarK, arithOp, unOpA, takeN, List.drop, true_and, and_true, reduceIte, reduceCtorEq, false_implies, forall_const, iLe_eq, iLt_eq, iEq_eq, decide_true, decide_false, Bool.not_true, Bool.not_false, Bool.true_and, Bool.and_true, Bool.false_and, Bool.and_false, beq_self_eq_true, imp_self, Bool.true_eq_false, Bool.false_eq_true, Nat.zero_add, Nat.add_zero, Nat.zero_mul, Nat.mul_one, Nat.one_mul, Nat.sub_zero, beqT, beqF, ldOwn hx, takeN, e6, ek, k0, k1, k2, k3, k4]
      refine press_power A0.S fun h1 S1 sm1 hl1 => ?_
      have M1 := A0.M.keep sm1 (by simp; exact ⟨A.a1.1, A.a2.1, fun h => (A.a3 h).1⟩)
      simp -implicitDefEqProofs only [c15, a15_0b, a15_1b, a15_2b, a15_3b, a15_4b, a15_5b, a15_6b, a15_7b, a15_8b, a15_9b, a15_10b, a15_11b, a15_12b, a15_13b, a15_14b, a15_15b, a15_16b, a15_17b, a15_18b, a15_19b, a15_20b, a15_21b, a15_22b, a15_23b, WS_skip, WS_ops, WS_seq, WS_block, WS_cond, WS_exit, WS_ret, WB_true, WB_false, RS_nil, RS_seq, RS_seqE, RS_seqR, RS_blk, RS_blkE, RS_blkR, WP_nil, WP_cons, WP_guard, WG_true, WG_false, WX_val, WX_enter, KC_nil, getK_some, QC_normal, QC_ret, QL_normal, QL_exit, QL_ret, nbeq, ibeq, iltn, ilen, ite_true, ite_false, EV, ER, fill_nil, fill_cons, fillK_some, fillJ_some, CK, KC_cons, again_nil, again_cons, again_guard, againW_T, againW_F, againR_val, AV.same_refl, wantedA, Opd.ev, evs, Env.get, Env.set, Env.get_set, List.cons.injEq, and_false, false_and, and_self, putE, cond, getAll, getRes, packed, eqOp, isNilV, scalarK, arithOp, unOpA, takeN, List.drop, true_and, and_true, reduceIte, reduceCtorEq, false_implies, forall_const, iLe_eq, iLt_eq, iEq_eq, decide_true, decide_false, Bool.not_true, Bool.not_false, Bool.true_and, Bool.and_true, Bool.false_and, Bool.and_false, beq_self_eq_true, imp_self, Bool.true_eq_false, Bool.false_eq_true, Nat.zero_add, Nat.add_zero, Nat.zero_mul, Nat.mul_one, Nat.one_mul, Nat.sub_zero, beqT, beqF, ldOwn hx, takeN, e6, ek, k0, k1, k2, k3, k4]
      refine mpress_power M1 fun h2 M2 sm2 hl2 => ?_
      have A2 := A0.mk1 S1 M2 sm2 (by simp) (by omega) (.inl rfl) (.inl rfl) (fun h => .inl ⟨h, rfl⟩) rfl (fun h => .inl ⟨h, rfl⟩) A.sD A.sP A.rng A.pos
      have hm2 := M2.hm
      simp -implicitDefEqProofs only [c15, a15_0b, a15_1b, a15_2b, a15_3b, a15_4b, a15_5b, a15_6b, a15_7b, a15_8b, a15_9b, a15_10b, a15_11b, a15_12b, a15_13b, a15_14b, a15_15b, a15_16b, a15_17b, a15_18b, a15_19b, a15_20b, a15_21b, a15_22b, a15_23b, WS_skip, WS_ops, WS_seq, WS_block, WS_cond, WS_exit, WS_ret, WB_true, WB_false, RS_nil, RS_seq, RS_seqE, RS_seqR, RS_blk, RS_blkE, RS_blkR, WP_nil, WP_cons, WP_guard, WG_true, WG_false, WX_val, WX_enter, KC_nil, getK_some, QC_normal, QC_ret, QL_normal, QL_exit, QL_ret, nbeq, ibeq, iltn, ilen, ite_true, ite_false, EV, ER, fill_nil, fill_cons, fillK_some, fillJ_some, CK, KC_cons, again_nil, again_cons, again_guard, againW_T, againW_F, againR_val, AV.same_refl, wantedA, Opd.ev, evs, Env.get, Env.set, Env.get_set, List.cons.injEq, and_false, false_and, and_self, putE, cond, getAll, getRes, packed, eqOp, isNilV, scalarK, arithOp, unOpA, takeN, List.drop, true_and, and_true, reduceIte, reduceCtorEq, false_implies, forall_const, iLe_eq, iLt_eq, iEq_eq, decide_true, decide_false, Bool.not_true, Bool.not_false, Bool.true_and, Bool.and_true, Bool.false_and, Bool.and_false, beq_self_eq_true, imp_self, Bool.true_eq_false, Bool.false_eq_true, Nat.zero_add, Nat.add_zero, Nat.zero_mul, Nat.mul_one, Nat.one_mul, Nat.sub_zero, beqT, beqF, ldOwn hx, takeN, e6, ek, k0, k1, k2, k3, k4, e90, down_is (B := B) A2.S, ldOwn hm2]
      exact hk _ ⟨_, _, _, _, _, _, _, _, _, A2, rfl, by omega, by omega⟩
    · simp -implicitDefEqProofs only [c15, a15_0b, a15_1b, a15_2b, a15_3b, a15_4b, a15_5b, a15_6b, a15_7b, a15_8b, a15_9b, a15_10b, a15_11b, a15_12b, a15_13b, a15_14b, a15_15b, a15_16b, a15_17b, a15_18b, a15_19b, a15_20b, a15_21b, a15_22b, a15_23b, WS_skip, WS_ops, WS_seq, WS_block, WS_cond, WS_exit, WS_ret, WB_true, WB_false, RS_nil, RS_seq, RS_seqE, RS_seqR, RS_blk, RS_blkE, RS_blkR, WP_nil, WP_cons, WP_guard, WG_true, WG_false, WX_val, WX_enter, KC_nil, getK_some, QC_normal, QC_ret, QL_normal, QL_exit, QL_ret, nbeq, ibeq, iltn, ilen, ite_true, ite_false, EV, ER, fill_nil, fill_cons, fillK_some, fillJ_some, CK, KC_cons, again_nil, again_cons, again_guard, againW_T, againW_F, againR_val, AV.same_refl, wantedA, Opd.ev, evs, Env.get, Env.set, Env.get_set, List.cons.injEq, and_false, false_and, and_self, putE, cond, getAll, getRes, packed, eqOp, isNilV, scalarK, arithOp, unOpA, takeN, List.drop, true_and, and_true, reduceIte, reduceCtorEq, false_implies, forall_const, iLe_eq, iLt_eq, iEq_eq, decide_true, decide_false, Bool.not_true, Bool.not_false, Bool.true_and, Bool.and_true, Bool.false_and, Bool.and_false, beq_self_eq_true, imp_self, Bool.true_eq_false, Bool.false_eq_true, Nat.zero_add, Nat.add_zero, Nat.zero_mul, Nat.mul_one, Nat.one_mul, Nat.sub_zero, beqT, beqF, ldOwn hx, takeN, e6, ek, k0, k1, k2, k3, k4]
      refine press_ok A0.S hpw A.rng (by rw [encP_len]; omega) fun h1 S1 sm1 => ?_
      have M1 := A0.M.keep sm1 (by simp; exact ⟨⟨A.a1.1, A.a1.2.1⟩, ⟨A.a2.1, A.a2.2.1⟩, fun h => ⟨(A.a3 h).1, (A.a3 h).2.1⟩⟩)
      simp -implicitDefEqProofs only [c15, a15_0b, a15_1b, a15_2b, a15_3b, a15_4b, a15_5b, a15_6b, a15_7b, a15_8b, a15_9b, a15_10b, a15_11b, a15_12b, a15_13b, a15_14b, a15_15b, a15_16b, a15_17b, a15_18b, a15_19b, a15_20b, a15_21b, a15_22b, a15_23b, WS_skip, WS_ops, WS_seq, WS_block, WS_cond, WS_exit, WS_ret, WB_true, WB_false, RS_nil, RS_seq, RS_seqE, RS_seqR, RS_blk, RS_blkE, RS_blkR, WP_nil, WP_cons, WP_guard, WG_true, WG_false, WX_val, WX_enter, KC_nil, getK_some, QC_normal, QC_ret, QL_normal, QL_exit, QL_ret, nbeq, ibeq, iltn, ilen, ite_true, ite_false, EV, ER, fill_nil, fill_cons, fillK_some, fillJ_some, CK, KC_cons, again_nil, again_cons, again_guard, againW_T, againW_F, againR_val, AV.same_refl, wantedA, Opd.ev, evs, Env.get, Env.set, Env.get_set, List.cons.injEq, and_false, false_and, and_self, putE, cond, getAll, getRes, packed, eqOp, isNilV, scalarK, arithOp, unOpA, takeN, List.drop, true_and, and_true, reduceIte, reduceCtorEq, false_implies, forall_const, iLe_eq, iLt_eq, iEq_eq, decide_true, decide_false, Bool.not_true, Bool.not_false, Bool.true_and, Bool.and_true, Bool.false_and, Bool.and_false, beq_self_eq_true, imp_self, Bool.true_eq_false, Bool.false_eq_true, Nat.zero_add, Nat.add_zero, Nat.zero_mul, Nat.mul_one, Nat.one_mul, Nat.sub_zero, beqT, beqF, ldOwn hx, takeN, e6, ek, k0, k1, k2, k3, k4]
      refine mpress_ok M1 hpw A.rng (by omega) fun h2 M2 sm2 => ?_
      rw [laid_enc] at S1
      have sD : ∀ t ∈ laidG DS PS, Small t := fun t ht => by
        obtain ⟨x, hx, he⟩ := List.getElem_of_mem ht
        rw [laidG_len] at hx
        obtain ⟨u, hu, hsu, -⟩ := A.seen hx
        rw [List.getElem?_eq_getElem (by rw [laidG_len]; exact hx), he] at hu
        cases hu; exact hsu
      have A2 := A0.mk1 (DS' := laidG DS PS) (PS' := []) S1 M2 sm2 (fun x hx => by simp at hx; rcases hx with h | h <;> simp [h]) sm1.1 (.inl rfl) (.inl rfl) (fun h => absurd rfl h) rfl (fun h => absurd rfl h) sD (by simp) (by have := A.rng; split <;> omega) (by rw [laidG_len]; exact A.pos)
      have hm2 := M2.hm
      simp -implicitDefEqProofs only [c15, a15_0b, a15_1b, a15_2b, a15_3b, a15_4b, a15_5b, a15_6b, a15_7b, a15_8b, a15_9b, a15_10b, a15_11b, a15_12b, a15_13b, a15_14b, a15_15b, a15_16b, a15_17b, a15_18b, a15_19b, a15_20b, a15_21b, a15_22b, a15_23b, WS_skip, WS_ops, WS_seq, WS_block, WS_cond, WS_exit, WS_ret, WB_true, WB_false, RS_nil, RS_seq, RS_seqE, RS_seqR, RS_blk, RS_blkE, RS_blkR, WP_nil, WP_cons, WP_guard, WG_true, WG_false, WX_val, WX_enter, KC_nil, getK_some, QC_normal, QC_ret, QL_normal, QL_exit, QL_ret, nbeq, ibeq, iltn, ilen, ite_true, ite_false, EV, ER, fill_nil, fill_cons, fillK_some, fillJ_some, CK, KC_cons, again_nil, again_cons, again_guard, againW_T, againW_F, againR_val, AV.same_refl, wantedA, Opd.ev, evs, Env.get, Env.set, Env.get_set, List.cons.injEq, and_false, false_and, and_self, putE, cond, getAll, getRes, packed, eqOp, isNilV, scalarK, arithOp, unOpA, takeN, List.drop, true_and, and_true, reduceIte, reduceCtorEq, false_implies, forall_const, iLe_eq, iLt_eq, iEq_eq, decide_true, decide_false, Bool.not_true, Bool.not_false, Bool.true_and, Bool.and_true, Bool.false_and, Bool.and_false, beq_self_eq_true, imp_self, Bool.true_eq_false, Bool.false_eq_true, Nat.zero_add, Nat.add_zero, Nat.zero_mul, Nat.mul_one, Nat.one_mul, Nat.sub_zero, beqT, beqF, ldOwn hx, takeN, e6, ek, k0, k1, k2, k3, k4, e0, down_is (B := B) A2.S, ldOwn hm2]
      have := sm1.1
      have := sm2.1
      exact hk _ ⟨_, _, _, _, _, _, _, _, _, A2, laidG_len _ _, by simp, by omega⟩

set_option maxHeartbeats 2000000 in
theorem step_stop (A : Both h s di ni pi m dd q DS PS pw dn) (hP : PS.length < 1000) {kind : Nat} {i n : Int} {bv kv : AV} (hn : n < 2 ^ 63) (hk0 : kind % 6 = 3) {K : AV → AHeap → Prop}
    (hk : ∀ h', Next h.length s m DS.length (PS.length + 1) h' → K (.bool true) h') :
    WC B G 15 [.ptr (.own s) 0, .ptr (.own m) 0, .agg [.int .u8 (.ofNat kind), .int .i64 i, bv, .int .i64 n, kv]] h K := by
  refine WC_fun (af := a15) rfl rfl rfl ?_
  rw [args3]
  have sm0 := Same.app h [.cells [.int .u8 (.ofNat kind), .int .i64 i, bv, .int .i64 n, kv]] []
  have A0 := A.keep sm0
  have hx : hcells (h ++ [.cells [.int .u8 (.ofNat kind), .int .i64 i, bv, .int .i64 n, kv]]) h.length = some _ := hc_new
  have hl0 : h.length ≤ (h ++ [AObj.cells [.int .u8 (.ofNat kind), .int .i64 i, bv, .int .i64 n, kv]]).length := by simp
  have e6 : (Int.ofNat 6 == 0) = false := rfl
  have ek : (Int.ofNat kind).tmod (Int.ofNat 6) = .ofNat 3 := by
    show ((kind % 6 : Nat) : Int) = _; rw [hk0]; rfl
  have k0 : (Int.ofNat 3 == Int.ofNat 0) = false := rfl
  have k1 : (Int.ofNat 3 == Int.ofNat 1) = false := rfl
  have k2 : (Int.ofNat 3 == Int.ofNat 2) = false := rfl
  have k3 : (Int.ofNat 3 == Int.ofNat 3) = true := rfl
  have k4 : (Int.ofNat 3 == Int.ofNat 4) = false := rfl
  simp -implicitDefEqProofs only [c15, a15_0b, a15_1b, a15_2b, a15_3b, a15_4b, a15_5b, a15_6b, a15_7b, a15_8b, a15_9b, a15_10b, a15_11b, a15_12b, a15_13b, a15_14b, a15_15b, a15_16b, a15_17b, a15_18b, a15_19b, a15_20b, a15_21b, a15_22b, a15_23b, WS_skip, WS_ops, WS_seq, WS_block, WS_cond, WS_exit, WS_ret, WB_true, WB_false, RS_nil, RS_seq, RS_seqE, RS_seqR, RS_blk, RS_blkE, RS_blkR, WP_nil, WP_cons, WP_guard, WG_true, WG_false, WX_val, WX_enter, KC_nil, getK_some, QC_normal, QC_ret, QL_normal, QL_exit, QL_ret, nbeq, ibeq, iltn, ilen, ite_true, ite_false, EV, ER, fill_nil, fill_cons, fillK_some, fillJ_some, CK, KC_cons, again_nil, again_cons, again_guard, againW_T, againW_F, againR_val, AV.same_refl, wantedA, Opd.ev, evs, Env.get, Env.set, Env.get_set, List.cons.injEq, and_false, false_and, and_self, putE, cond, getAll, getRes, packed, eqOp, isNilV, scalarK, arithOp, unOpA, takeN, List.drop, true_and, and_true, reduceIte, reduceCtorEq, false_implies, forall_const, iLe_eq, iLt_eq, iEq_eq, decide_true, decide_false, Bool.not_true, Bool.not_false, Bool.true_and, Bool.and_true, Bool.false_and, Bool.and_false, beq_self_eq_true, imp_self, Bool.true_eq_false, Bool.false_eq_true, Nat.zero_add, Nat.add_zero, Nat.zero_mul, Nat.mul_one, Nat.one_mul, Nat.sub_zero, beqT, beqF]
  have hxl := hc_lt hx
  have lt := A.lt
  generalize h ++ [AObj.cells [.int .u8 (.ofNat kind), .int .i64 i, bv, .int .i64 n, kv]] = h0 at sm0 A0 hx hl0 hxl
  have e0 := beqI 0
  have e1 := beqI 1
  have e2 := beqI 2
  have e90 := beqI 90
  have hm := A0.M.hm
  have dI := down_is (B := B) A0.S
  cases dn with
  | true =>
    simp -implicitDefEqProofs only [c15, a15_0b, a15_1b, a15_2b, a15_3b, a15_4b, a15_5b, a15_6b, a15_7b, a15_8b, a15_9b, a15_10b, a15_11b, a15_12b, a15_13b, a15_14b, a15_15b, a15_16b, a15_17b, a15_18b, a15_19b, a15_20b, a15_21b, a15_22b, a15_23b, WS_skip, WS_ops, WS_seq, WS_block, WS_cond, WS_exit, WS_ret, WB_true, WB_false, RS_nil, RS_seq, RS_seqE, RS_seqR, RS_blk, RS_blkE, RS_blkR, WP_nil, WP_cons, WP_guard, WG_true, WG_false, WX_val, WX_enter, KC_nil, getK_some, QC_normal, QC_ret, QL_normal, QL_exit, QL_ret, nbeq, ibeq, iltn, ilen, ite_true, ite_false, EV, ER, fill_nil, fill_cons, fillK_some, fillJ_some, CK, KC_cons, again_nil, again_cons, again_guard, againW_T, againW_F, againR_val, AV.same_refl, wantedA, Opd.ev, evs, Env.get, Env.set, Env.get_set, List.cons.injEq, and_false, false_and, and_self, putE, cond, getAll, getRes, packed, eqOp, isNilV, scalarK, arithOp, unOpA, takeN, List.drop, true_and, and_true, reduceIte, reduceCtorEq, false_implies, forall_const, iLe_eq, iLt_eq, iEq_eq, decide_true, decide_false, Bool.not_true, Bool.not_false, Bool.true_and, Bool.and_true, Bool.false_and, Bool.and_false, beq_self_eq_true, imp_self, Bool.true_eq_false, Bool.false_eq_true, Nat.zero_add, Nat.add_zero, Nat.zero_mul, Nat.mul_one, Nat.one_mul, Nat.sub_zero, beqT, beqF, ldOwn hx, takeN, e6, ek, k0, k1, k2, k3, k4, e90, stop_down A0.S, mstop_down A0.M, dI, ldOwn hm]
    exact hk _ ⟨_, _, _, _, _, _, _, _, _, A0, rfl, by omega, hl0⟩
  | false =>
    by_cases hn0 : n < 0
    · simp -implicitDefEqProofs only [c15, a15_0b, a15_1b, a15_2b, a15_3b, a15_4b, a15_5b, a15_6b, a15_7b, a15_8b, a15_9b, a15_10b, a15_11b, a15_12b, a15_13b, a15_14b, a15_15b, a15_16b, a15_17b, a15_18b, a15_19b, a15_20b, a15_21b, a15_22b, a15_23b, WS_skip, WS_ops, WS_seq, WS_block, WS_cond, WS_exit, WS_ret, WB_true, WB_false, RS_nil, RS_seq, RS_seqE, RS_seqR, RS_blk, RS_blkE, RS_blkR, WP_nil, WP_cons, WP_guard, WG_true, WG_false, WX_val, WX_enter, KC_nil, getK_some, QC_normal, QC_ret, QL_normal, QL_exit, QL_ret, nbeq, ibeq, iltn, ilen, ite_true, ite_false, EV, ER, fill_nil, fill_cons, fillK_some, fillJ_some, CK, KC_cons, again_nil, again_cons, again_guard, againW_T, againW_F, againR_val, AV.same_refl, wantedA, Opd.ev, evs, Env.get, Env.set, Env.get_set, List.cons.injEq, and_false, false_and, and_self, putE, cond, getAll, getRes, packed, eqOp, isNilV, scalarK, arithOp, unOpA, takeN, List.drop, true_and, and_true, reduceIte, reduceCtorEq, false_implies, forall_const, iLe_eq, iLt_eq, iEq_eq, decide_true, decide_false, Bool.not_true, Bool.not_false, Bool.true_and, Bool.and_true, Bool.false_and, Bool.and_false, beq_self_eq_true, imp_self, Bool.true_eq_false, Bool.false_eq_true, Nat.zero_add, Nat.add_zero, Nat.zero_mul, Nat.mul_one, Nat.one_mul, Nat.sub_zero, beqT, beqF, ldOwn hx, takeN, e6, ek, k0, k1, k2, k3, k4, e1, stop_arg A0.S hn0, mstop_arg A0.M hn0, dI, ldOwn hm]
      exact hk _ ⟨_, _, _, _, _, _, _, _, _, A0, rfl, by omega, hl0⟩
    · simp -implicitDefEqProofs only [c15, a15_0b, a15_1b, a15_2b, a15_3b, a15_4b, a15_5b, a15_6b, a15_7b, a15_8b, a15_9b, a15_10b, a15_11b, a15_12b, a15_13b, a15_14b, a15_15b, a15_16b, a15_17b, a15_18b, a15_19b, a15_20b, a15_21b, a15_22b, a15_23b, WS_skip, WS_ops, WS_seq, WS_block, WS_cond, WS_exit, WS_ret, WB_true, WB_false, RS_nil, RS_seq, RS_seqE, RS_seqR, RS_blk, RS_blkE, RS_blkR, WP_nil, WP_cons, WP_guard, WG_true, WG_false, WX_val, WX_enter, KC_nil, getK_some, QC_normal, QC_ret, QL_normal, QL_exit, QL_ret, nbeq, ibeq, iltn, ilen, ite_true, ite_false, EV, ER, fill_nil, fill_cons, fillK_some, fillJ_some, CK, KC_cons, again_nil, again_cons, again_guard, againW_T, againW_F, againR_val, AV.same_refl, wantedA, Opd.ev, evs, Env.get, Env.set, Env.get_set, List.cons.injEq, and_false, false_and, and_self, putE, cond, getAll, getRes, packed, eqOp, isNilV, scalarK, arithOp, unOpA, takeN, List.drop, true_and, and_true, reduceIte, reduceCtorEq, false_implies, forall_const, iLe_eq, iLt_eq, iEq_eq, decide_true, decide_false, Bool.not_true, Bool.not_false, Bool.true_and, Bool.and_true, Bool.false_and, Bool.and_false, beq_self_eq_true, imp_self, Bool.true_eq_false, Bool.false_eq_true, Nat.zero_add, Nat.add_zero, Nat.zero_mul, Nat.mul_one, Nat.one_mul, Nat.sub_zero, beqT, beqF, ldOwn hx, takeN, e6, ek, k0, k1, k2, k3, k4]
      refine stop_ok A0.S hn0 fun h1 S1 sm1 hl1 => ?_
      have hx1 := sm1.cells hx (by simp; omega)
      have M1 := A0.M.keep sm1 (by simp; exact ⟨A.a1.1, A.a2.1, fun h => (A.a3 h).1⟩)
      simp -implicitDefEqProofs only [c15, a15_0b, a15_1b, a15_2b, a15_3b, a15_4b, a15_5b, a15_6b, a15_7b, a15_8b, a15_9b, a15_10b, a15_11b, a15_12b, a15_13b, a15_14b, a15_15b, a15_16b, a15_17b, a15_18b, a15_19b, a15_20b, a15_21b, a15_22b, a15_23b, WS_skip, WS_ops, WS_seq, WS_block, WS_cond, WS_exit, WS_ret, WB_true, WB_false, RS_nil, RS_seq, RS_seqE, RS_seqR, RS_blk, RS_blkE, RS_blkR, WP_nil, WP_cons, WP_guard, WG_true, WG_false, WX_val, WX_enter, KC_nil, getK_some, QC_normal, QC_ret, QL_normal, QL_exit, QL_ret, nbeq, ibeq, iltn, ilen, ite_true, ite_false, EV, ER, fill_nil, fill_cons, fillK_some, fillJ_some, CK, KC_cons, again_nil, again_cons, again_guard, againW_T, againW_F, againR_val, AV.same_refl, wantedA, Opd.ev, evs, Env.get, Env.set, Env.get_set, List.cons.injEq, and_false, false_and, and_self, putE, cond, getAll, getRes, packed, eqOp, isNilV, scalarK, arithOp, unOpA, takeN, List.drop, true_and, and_true, reduceIte, reduceCtorEq, false_implies, forall_const, iLe_eq, iLt_eq, iEq_eq, decide_true, decide_false, Bool.not_true, Bool.not_false, Bool.true_and, Bool.and_true, Bool.false_and, Bool.and_false, beq_self_eq_true, imp_self, Bool.true_eq_false, Bool.false_eq_true, Nat.zero_add, Nat.add_zero, Nat.zero_mul, Nat.mul_one, Nat.one_mul, Nat.sub_zero, beqT, beqF, ldOwn hx, takeN, e6, ek, k0, k1, k2, k3, k4, ldOwn hx1]
      refine mstop_ok M1 hn0 fun h2 M2 sm2 hl2 => ?_
      have A2 := A0.mk1 S1 M2 sm2 (by simp) (by omega) (.inl rfl) (.inl rfl) (fun h => .inl ⟨h, rfl⟩) rfl (fun h => .inl ⟨h, rfl⟩) A.sD A.sP ⟨by omega, hn⟩ A.pos
      have hm2 := M2.hm
      simp -implicitDefEqProofs only [c15, a15_0b, a15_1b, a15_2b, a15_3b, a15_4b, a15_5b, a15_6b, a15_7b, a15_8b, a15_9b, a15_10b, a15_11b, a15_12b, a15_13b, a15_14b, a15_15b, a15_16b, a15_17b, a15_18b, a15_19b, a15_20b, a15_21b, a15_22b, a15_23b, WS_skip, WS_ops, WS_seq, WS_block, WS_cond, WS_exit, WS_ret, WB_true, WB_false, RS_nil, RS_seq, RS_seqE, RS_seqR, RS_blk, RS_blkE, RS_blkR, WP_nil, WP_cons, WP_guard, WG_true, WG_false, WX_val, WX_enter, KC_nil, getK_some, QC_normal, QC_ret, QL_normal, QL_exit, QL_ret, nbeq, ibeq, iltn, ilen, ite_true, ite_false, EV, ER, fill_nil, fill_cons, fillK_some, fillJ_some, CK, KC_cons, again_nil, again_cons, again_guard, againW_T, againW_F, againR_val, AV.same_refl, wantedA, Opd.ev, evs, Env.get, Env.set, Env.get_set, List.cons.injEq, and_false, false_and, and_self, putE, cond, getAll, getRes, packed, eqOp, isNilV, scalarK, arithOp, unOpA, takeN, List.drop, true_and, and_true, reduceIte, reduceCtorEq, false_implies, forall_const, iLe_eq, iLt_eq, iEq_eq, decide_true, decide_false, Bool.not_true, Bool.not_false, Bool.true_and, Bool.and_true, Bool.false_and, Bool.and_false, beq_self_eq_true, imp_self, Bool.true_eq_false, Bool.false_eq_true, Nat.zero_add, Nat.add_zero, Nat.zero_mul, Nat.mul_one, Nat.one_mul, Nat.sub_zero, beqT, beqF, ldOwn hx, takeN, e6, ek, k0, k1, k2, k3, k4, e0, down_is (B := B) A2.S, ldOwn hm2]
      exact hk _ ⟨_, _, _, _, _, _, _, _, _, A2, rfl, by omega, by omega⟩

theorem small_crash (ks : List Int) : ∀ (PS : List (Nat × List Nat)) (i : Nat) (DS : List (List Nat)), (∀ t ∈ DS, Small t) → (∀ w ∈ PS, Small w.2) → ∀ t ∈ crashedN ks i PS DS, Small t
  | [], i, DS, hD, _, t, ht => hD t ht
  | w :: PS, i, DS, hD, hP, t, ht => by
    refine small_crash ks PS (i + 1) (crash1N ks DS i w) (fun u hu => ?_) (fun x hx => hP x (by simp [hx])) t ht
    rcases List.mem_or_eq_of_mem_set hu with h1 | h1
    · exact hD u h1
    · rw [h1]
      intro c hc
      rcases List.mem_append.1 hc with h2 | h2
      · exact hP w (by simp) c (List.mem_of_mem_take h2)
      · have h3 := List.mem_of_mem_drop h2
        rw [List.getD_eq_getElem?_getD] at h3
        cases hg : DS[w.1]? with
        | none => rw [hg] at h3; simp at h3
        | some u => rw [hg] at h3; exact hD u (List.mem_of_getElem? hg) c h3

set_option maxHeartbeats 2000000 in
theorem step_crash (A : Both h s di ni pi m dd q DS PS pw dn) (hP : PS.length < 1000) {kind : Nat} {i n : Int} {bv kv : AV} {ks : List Int} (hks : ∀ h', Ints B h' kv ks) (hkl : ks.length < 1000000000) (hk0 : kind % 6 = 4) {K : AV → AHeap → Prop}
    (hk : ∀ h', Next h.length s m DS.length (PS.length + 1) h' → K (.bool true) h') :
    WC B G 15 [.ptr (.own s) 0, .ptr (.own m) 0, .agg [.int .u8 (.ofNat kind), .int .i64 i, bv, .int .i64 n, kv]] h K := by
  refine WC_fun (af := a15) rfl rfl rfl ?_
  rw [args3]
  have sm0 := Same.app h [.cells [.int .u8 (.ofNat kind), .int .i64 i, bv, .int .i64 n, kv]] []
  have A0 := A.keep sm0
  have hx : hcells (h ++ [.cells [.int .u8 (.ofNat kind), .int .i64 i, bv, .int .i64 n, kv]]) h.length = some _ := hc_new
  have hl0 : h.length ≤ (h ++ [AObj.cells [.int .u8 (.ofNat kind), .int .i64 i, bv, .int .i64 n, kv]]).length := by simp
  have e6 : (Int.ofNat 6 == 0) = false := rfl
  have ek : (Int.ofNat kind).tmod (Int.ofNat 6) = .ofNat 4 := by
    show ((kind % 6 : Nat) : Int) = _; rw [hk0]; rfl
  have k0 : (Int.ofNat 4 == Int.ofNat 0) = false := rfl
  have k1 : (Int.ofNat 4 == Int.ofNat 1) = false := rfl
  have k2 : (Int.ofNat 4 == Int.ofNat 2) = false := rfl
  have k3 : (Int.ofNat 4 == Int.ofNat 3) = false := rfl
  have k4 : (Int.ofNat 4 == Int.ofNat 4) = true := rfl
  simp -implicitDefEqProofs only [c15, a15_0b, a15_1b, a15_2b, a15_3b, a15_4b, a15_5b, a15_6b, a15_7b, a15_8b, a15_9b, a15_10b, a15_11b, a15_12b, a15_13b, a15_14b, a15_15b, a15_16b, a15_17b, a15_18b, a15_19b, a15_20b, a15_21b, a15_22b, a15_23b, WS_skip, WS_ops, WS_seq, WS_block, WS_cond, WS_exit, WS_ret, WB_true, WB_false, RS_nil, RS_seq, RS_seqE, RS_seqR, RS_blk, RS_blkE, RS_blkR, WP_nil, WP_cons, WP_guard, WG_true, WG_false, WX_val, WX_enter, KC_nil, getK_some, QC_normal, QC_ret, QL_normal, QL_exit, QL_ret, nbeq, ibeq, iltn, ilen, ite_true, ite_false, EV, ER, fill_nil, fill_cons, fillK_some, fillJ_some, CK, KC_cons, again_nil, again_cons, again_guard, againW_T, againW_F, againR_val, AV.same_refl, wantedA, Opd.ev, evs, Env.get, Env.set, Env.get_set, List.cons.injEq, and_false, false_and, and_self, putE, cond, getAll, getRes, packed, eqOp, isNilV, scalarK, arithOp, unOpA, takeN, List.drop, true_and, and_true, reduceIte, reduceCtorEq, false_implies, forall_const, iLe_eq, iLt_eq, iEq_eq, decide_true, decide_false, Bool.not_true, Bool.not_false, Bool.true_and, Bool.and_true, Bool.false_and, Bool.and_false, beq_self_eq_true, imp_self, Bool.true_eq_false, Bool.false_eq_true, Nat.zero_add, Nat.add_zero, Nat.zero_mul, Nat.mul_one, Nat.one_mul, Nat.sub_zero, beqT, beqF]
  have hxl := hc_lt hx
  have lt := A.lt
  generalize h ++ [AObj.cells [.int .u8 (.ofNat kind), .int .i64 i, bv, .int .i64 n, kv]] = h0 at sm0 A0 hx hl0 hxl
  have e0 := beqI 0
  have e1 := beqI 1
  have e2 := beqI 2
  have e90 := beqI 90
  have hm := A0.M.hm
  simp -implicitDefEqProofs only [c15, a15_0b, a15_1b, a15_2b, a15_3b, a15_4b, a15_5b, a15_6b, a15_7b, a15_8b, a15_9b, a15_10b, a15_11b, a15_12b, a15_13b, a15_14b, a15_15b, a15_16b, a15_17b, a15_18b, a15_19b, a15_20b, a15_21b, a15_22b, a15_23b, WS_skip, WS_ops, WS_seq, WS_block, WS_cond, WS_exit, WS_ret, WB_true, WB_false, RS_nil, RS_seq, RS_seqE, RS_seqR, RS_blk, RS_blkE, RS_blkR, WP_nil, WP_cons, WP_guard, WG_true, WG_false, WX_val, WX_enter, KC_nil, getK_some, QC_normal, QC_ret, QL_normal, QL_exit, QL_ret, nbeq, ibeq, iltn, ilen, ite_true, ite_false, EV, ER, fill_nil, fill_cons, fillK_some, fillJ_some, CK, KC_cons, again_nil, again_cons, again_guard, againW_T, againW_F, againR_val, AV.same_refl, wantedA, Opd.ev, evs, Env.get, Env.set, Env.get_set, List.cons.injEq, and_false, false_and, and_self, putE, cond, getAll, getRes, packed, eqOp, isNilV, scalarK, arithOp, unOpA, takeN, List.drop, true_and, and_true, reduceIte, reduceCtorEq, false_implies, forall_const, iLe_eq, iLt_eq, iEq_eq, decide_true, decide_false, Bool.not_true, Bool.not_false, Bool.true_and, Bool.and_true, Bool.false_and, Bool.and_false, beq_self_eq_true, imp_self, Bool.true_eq_false, Bool.false_eq_true, Nat.zero_add, Nat.add_zero, Nat.zero_mul, Nat.mul_one, Nat.one_mul, Nat.sub_zero, beqT, beqF, ldOwn hx, takeN, e6, ek, k0, k1, k2, k3, k4]
  refine crash_ok A0.S (by rw [encP_len]; omega) (ks := ks) (fun h' _ => hks h') hkl (by rw [encD_len]; exact A.pos) fun h1 ni1 S1 sm1 hn1 => ?_
  have hx1 := sm1.cells hx (by simp; omega)
  have M1 := A0.M.keep sm1 (by simp; exact ⟨⟨A.a1.1, A.a1.2.1⟩, ⟨A.a2.1, A.a2.2.1⟩, fun h => ⟨(A.a3 h).1, (A.a3 h).2.1⟩⟩)
  simp -implicitDefEqProofs only [c15, a15_0b, a15_1b, a15_2b, a15_3b, a15_4b, a15_5b, a15_6b, a15_7b, a15_8b, a15_9b, a15_10b, a15_11b, a15_12b, a15_13b, a15_14b, a15_15b, a15_16b, a15_17b, a15_18b, a15_19b, a15_20b, a15_21b, a15_22b, a15_23b, WS_skip, WS_ops, WS_seq, WS_block, WS_cond, WS_exit, WS_ret, WB_true, WB_false, RS_nil, RS_seq, RS_seqE, RS_seqR, RS_blk, RS_blkE, RS_blkR, WP_nil, WP_cons, WP_guard, WG_true, WG_false, WX_val, WX_enter, KC_nil, getK_some, QC_normal, QC_ret, QL_normal, QL_exit, QL_ret, nbeq, ibeq, iltn, ilen, ite_true, ite_false, EV, ER, fill_nil, fill_cons, fillK_some, fillJ_some, CK, KC_cons, again_nil, again_cons, again_guard, againW_T, againW_F, againR_val, AV.same_refl, wantedA, Opd.ev, evs, Env.get, Env.set, Env.get_set, List.cons.injEq, and_false, false_and, and_self, putE, cond, getAll, getRes, packed, eqOp, isNilV, scalarK, arithOp, unOpA, takeN, List.drop, true_and, and_true, reduceIte, reduceCtorEq, false_implies, forall_const, iLe_eq, iLt_eq, iEq_eq, decide_true, decide_false, Bool.not_true, Bool.not_false, Bool.true_and, Bool.and_true, Bool.false_and, Bool.and_false, beq_self_eq_true, imp_self, Bool.true_eq_false, Bool.false_eq_true, Nat.zero_add, Nat.add_zero, Nat.zero_mul, Nat.mul_one, Nat.one_mul, Nat.sub_zero, beqT, beqF, ldOwn hx, takeN, e6, ek, k0, k1, k2, k3, k4, ldOwn hx1]
  refine mcrash_ok M1 (by omega) hks hkl fun h2 M2 sm2 => ?_
  rw [crash_enc] at S1
  have A2 := A0.mk1 (DS' := crashedN ks 0 PS DS) (PS' := []) S1 M2 sm2 (fun x hx => by simp at hx; rcases hx with h | h <;> simp [h]) sm1.1 (.inl rfl) (.inr hn1) (fun h => absurd rfl h) rfl (fun h => absurd rfl h) (small_crash ks PS 0 DS A.sD A.sP) (by simp) (by omega) (by rw [crashedN_len]; exact A.pos)
  have hm2 := M2.hm
  simp -implicitDefEqProofs only [c15, a15_0b, a15_1b, a15_2b, a15_3b, a15_4b, a15_5b, a15_6b, a15_7b, a15_8b, a15_9b, a15_10b, a15_11b, a15_12b, a15_13b, a15_14b, a15_15b, a15_16b, a15_17b, a15_18b, a15_19b, a15_20b, a15_21b, a15_22b, a15_23b, WS_skip, WS_ops, WS_seq, WS_block, WS_cond, WS_exit, WS_ret, WB_true, WB_false, RS_nil, RS_seq, RS_seqE, RS_seqR, RS_blk, RS_blkE, RS_blkR, WP_nil, WP_cons, WP_guard, WG_true, WG_false, WX_val, WX_enter, KC_nil, getK_some, QC_normal, QC_ret, QL_normal, QL_exit, QL_ret, nbeq, ibeq, iltn, ilen, ite_true, ite_false, EV, ER, fill_nil, fill_cons, fillK_some, fillJ_some, CK, KC_cons, again_nil, again_cons, again_guard, againW_T, againW_F, againR_val, AV.same_refl, wantedA, Opd.ev, evs, Env.get, Env.set, Env.get_set, List.cons.injEq, and_false, false_and, and_self, putE, cond, getAll, getRes, packed, eqOp, isNilV, scalarK, arithOp, unOpA, takeN, List.drop, true_and, and_true, reduceIte, reduceCtorEq, false_implies, forall_const, iLe_eq, iLt_eq, iEq_eq, decide_true, decide_false, Bool.not_true, Bool.not_false, Bool.true_and, Bool.and_true, Bool.false_and, Bool.and_false, beq_self_eq_true, imp_self, Bool.true_eq_false, Bool.false_eq_true, Nat.zero_add, Nat.add_zero, Nat.zero_mul, Nat.mul_one, Nat.one_mul, Nat.sub_zero, beqT, beqF, ldOwn hx, takeN, e6, ek, k0, k1, k2, k3, k4, e0, down_is (B := B) A2.S, ldOwn hm2]
  have := sm1.1
  have := sm2.1
  exact hk _ ⟨_, _, _, _, _, _, _, _, _, A2, crashedN_len _ _ _ _, by simp, by omega⟩

set_option maxHeartbeats 2000000 in
theorem step_tear (A : Both h s di ni pi m dd q DS PS pw dn) (hP : PS.length < 1000) {kind : Nat} {i n : Int} {bv kv : AV} (hk0 : kind % 6 = 5) {K : AV → AHeap → Prop}
    (hk : ∀ h', Next h.length s m DS.length (PS.length + 1) h' → K (.bool true) h') :
    WC B G 15 [.ptr (.own s) 0, .ptr (.own m) 0, .agg [.int .u8 (.ofNat kind), .int .i64 i, bv, .int .i64 n, kv]] h K := by
  refine WC_fun (af := a15) rfl rfl rfl ?_
  rw [args3]
  have sm0 := Same.app h [.cells [.int .u8 (.ofNat kind), .int .i64 i, bv, .int .i64 n, kv]] []
  have A0 := A.keep sm0
  have hx : hcells (h ++ [.cells [.int .u8 (.ofNat kind), .int .i64 i, bv, .int .i64 n, kv]]) h.length = some _ := hc_new
  have hl0 : h.length ≤ (h ++ [AObj.cells [.int .u8 (.ofNat kind), .int .i64 i, bv, .int .i64 n, kv]]).length := by simp
  have e6 : (Int.ofNat 6 == 0) = false := rfl
  have ek : (Int.ofNat kind).tmod (Int.ofNat 6) = .ofNat 5 := by
    show ((kind % 6 : Nat) : Int) = _; rw [hk0]; rfl
  have k0 : (Int.ofNat 5 == Int.ofNat 0) = false := rfl
  have k1 : (Int.ofNat 5 == Int.ofNat 1) = false := rfl
  have k2 : (Int.ofNat 5 == Int.ofNat 2) = false := rfl
  have k3 : (Int.ofNat 5 == Int.ofNat 3) = false := rfl
  have k4 : (Int.ofNat 5 == Int.ofNat 4) = false := rfl
  simp -implicitDefEqProofs only [c15, a15_0b, a15_1b, a15_2b, a15_3b, a15_4b, a15_5b, a15_6b, a15_7b, a15_8b, a15_9b, a15_10b, a15_11b, a15_12b, a15_13b, a15_14b, a15_15b, a15_16b, a15_17b, a15_18b, a15_19b, a15_20b, a15_21b, a15_22b, a15_23b, WS_skip, WS_ops, WS_seq, WS_block, WS_cond, WS_exit, WS_ret, WB_true, WB_false, RS_nil, RS_seq, RS_seqE, RS_seqR, RS_blk, RS_blkE, RS_blkR, WP_nil, WP_cons, WP_guard, WG_true, WG_false, WX_val, WX_enter, KC_nil, getK_some, QC_normal, QC_ret, QL_normal, QL_exit, QL_ret, nbeq, ibeq, iltn, ilen, ite_true, ite_false, EV, ER, fill_nil, fill_cons, fillK_some, fillJ_some, CK, KC_cons, again_nil, again_cons, again_guard, againW_T, againW_F, againR_val, AV.same_refl, wantedA, Opd.ev, evs, Env.get, Env.set, Env.get_set, List.cons.injEq, and_false, false_and, and_self, putE, cond, getAll, getRes, packed, eqOp, isNilV, scalarK, arithOp, unOpA, takeN, List.drop, true_and, and_true, reduceIte, reduceCtorEq, false_implies, forall_const, iLe_eq, iLt_eq, iEq_eq, decide_true, decide_false, Bool.not_true, Bool.not_false, Bool.true_and, Bool.and_true, Bool.false_and, Bool.and_false, beq_self_eq_true, imp_self, Bool.true_eq_false, Bool.false_eq_true, Nat.zero_add, Nat.add_zero, Nat.zero_mul, Nat.mul_one, Nat.one_mul, Nat.sub_zero, beqT, beqF]
  have hxl := hc_lt hx
  have lt := A.lt
  generalize h ++ [AObj.cells [.int .u8 (.ofNat kind), .int .i64 i, bv, .int .i64 n, kv]] = h0 at sm0 A0 hx hl0 hxl
  have e0 := beqI 0
  have e1 := beqI 1
  have e2 := beqI 2
  have e90 := beqI 90
  have hm := A0.M.hm
  have dI := down_is (B := B) A0.S
  by_cases hif : 0 ≤ i ∧ i < Int.ofNat DS.length ∧ 0 ≤ n ∧ n ≤ 64
  · obtain ⟨j, hj, rfl⟩ := valid_nat ⟨hif.1, hif.2.1⟩
    obtain ⟨f, hf, rfl⟩ : ∃ f : Nat, f ≤ 64 ∧ n = Int.ofNat f := by
      obtain ⟨f, rfl⟩ := Int.eq_ofNat_of_zero_le hif.2.2.1
      exact ⟨f, by omega, rfl⟩
    obtain ⟨u, hu⟩ : ∃ u, DS[j]? = some u := ⟨_, List.getElem?_eq_getElem hj⟩
    obtain ⟨t, ht, hst, htl⟩ := A.seen hj
    have hul := A.M.aD u (List.mem_of_getElem? hu)
    simp -implicitDefEqProofs only [c15, a15_0b, a15_1b, a15_2b, a15_3b, a15_4b, a15_5b, a15_6b, a15_7b, a15_8b, a15_9b, a15_10b, a15_11b, a15_12b, a15_13b, a15_14b, a15_15b, a15_16b, a15_17b, a15_18b, a15_19b, a15_20b, a15_21b, a15_22b, a15_23b, WS_skip, WS_ops, WS_seq, WS_block, WS_cond, WS_exit, WS_ret, WB_true, WB_false, RS_nil, RS_seq, RS_seqE, RS_seqR, RS_blk, RS_blkE, RS_blkR, WP_nil, WP_cons, WP_guard, WG_true, WG_false, WX_val, WX_enter, KC_nil, getK_some, QC_normal, QC_ret, QL_normal, QL_exit, QL_ret, nbeq, ibeq, iltn, ilen, ite_true, ite_false, EV, ER, fill_nil, fill_cons, fillK_some, fillJ_some, CK, KC_cons, again_nil, again_cons, again_guard, againW_T, againW_F, againR_val, AV.same_refl, wantedA, Opd.ev, evs, Env.get, Env.set, Env.get_set, List.cons.injEq, and_false, false_and, and_self, putE, cond, getAll, getRes, packed, eqOp, isNilV, scalarK, arithOp, unOpA, takeN, List.drop, true_and, and_true, reduceIte, reduceCtorEq, false_implies, forall_const, iLe_eq, iLt_eq, iEq_eq, decide_true, decide_false, Bool.not_true, Bool.not_false, Bool.true_and, Bool.and_true, Bool.false_and, Bool.and_false, beq_self_eq_true, imp_self, Bool.true_eq_false, Bool.false_eq_true, Nat.zero_add, Nat.add_zero, Nat.zero_mul, Nat.mul_one, Nat.one_mul, Nat.sub_zero, beqT, beqF, ldOwn hx, takeN, e6, ek, k0, k1, k2, k3, k4]
    refine tear_ok A0.S (i := j) (f := f) (encD_get hu) (encD_get ht) hf (by rw [encP_len]; omega) fun h1 S1 sm1 => ?_
    have hx1 := sm1.cells hx (by
      have := A.lt
      rw [pf_enc]
      by_cases hne : PS = []
      · simp [hne]; omega
      · rw [if_neg hne]; have := this.2.2.2.1 hne; simp; omega)
    have M1 := A0.M.keep sm1 (by
      rw [pf_enc]
      by_cases hne : PS = []
      · simp [hne]; exact ⟨⟨A.a1.1, A.a1.2.1, A.a1.2.2.1⟩, A.a2.1, A.a2.2.1, A.a2.2.2.1⟩
      · rw [if_neg hne]; simp; exact ⟨⟨A.a1.1, A.a1.2.1, A.a1.2.2.1, A.a1.2.2.2 hne⟩, ⟨A.a2.1, A.a2.2.1, A.a2.2.2.1, A.a2.2.2.2 hne⟩, fun h => A.a3 h⟩)
    simp -implicitDefEqProofs only [c15, a15_0b, a15_1b, a15_2b, a15_3b, a15_4b, a15_5b, a15_6b, a15_7b, a15_8b, a15_9b, a15_10b, a15_11b, a15_12b, a15_13b, a15_14b, a15_15b, a15_16b, a15_17b, a15_18b, a15_19b, a15_20b, a15_21b, a15_22b, a15_23b, WS_skip, WS_ops, WS_seq, WS_block, WS_cond, WS_exit, WS_ret, WB_true, WB_false, RS_nil, RS_seq, RS_seqE, RS_seqR, RS_blk, RS_blkE, RS_blkR, WP_nil, WP_cons, WP_guard, WG_true, WG_false, WX_val, WX_enter, KC_nil, getK_some, QC_normal, QC_ret, QL_normal, QL_exit, QL_ret, nbeq, ibeq, iltn, ilen, ite_true, ite_false, EV, ER, fill_nil, fill_cons, fillK_some, fillJ_some, CK, KC_cons, again_nil, again_cons, again_guard, againW_T, againW_F, againR_val, AV.same_refl, wantedA, Opd.ev, evs, Env.get, Env.set, Env.get_set, List.cons.injEq, and_false, false_and, and_self, putE, cond, getAll, getRes, packed, eqOp, isNilV, scalarK, arithOp, unOpA, takeN, List.drop, true_and, and_true, reduceIte, reduceCtorEq, false_implies, forall_const, iLe_eq, iLt_eq, iEq_eq, decide_true, decide_false, Bool.not_true, Bool.not_false, Bool.true_and, Bool.and_true, Bool.false_and, Bool.and_false, beq_self_eq_true, imp_self, Bool.true_eq_false, Bool.false_eq_true, Nat.zero_add, Nat.add_zero, Nat.zero_mul, Nat.mul_one, Nat.one_mul, Nat.sub_zero, beqT, beqF, ldOwn hx, takeN, e6, ek, k0, k1, k2, k3, k4, ldOwn hx1]
    refine mtear_ok M1 (by omega) hu hf fun h2 M2 sm2 => ?_
    have hne' : PS.map (tearN j f) ≠ [] → PS ≠ [] := by cases PS <;> simp
    have eS : ShelfAt h1 s di ni pi (encD (DS.set j (tearS f u))) (encD (laidG (DS.set j (tearS f u)) (PS.map (tearN j f)))) (encP (PS.map (tearN j f))) pw dn := by
      rw [laid_tear (fun w hw => (A.M.aP w hw).2) hu ht, encD_set, encD_set, bc_tear hul hf, bc_tear htl hf, ← tear_encP hf fun w hw => (A.M.aP w hw).1]
      exact S1
    have A2 := A0.mk1 eS M2 sm2 (fun x hx => by
      rw [qf_if] at hx
      by_cases hne : PS = []
      · rw [if_pos hne] at hx; simp at hx; rcases hx with h | h <;> simp [h]
      · rw [if_neg hne] at hx; simp at hx; rcases hx with h | h | h
        · exact .inl h
        · exact .inr (.inl h)
        · exact .inr (.inr ⟨hne, h⟩)) sm1.1 (.inl rfl) (.inl rfl) (fun h => .inl ⟨hne' h, rfl⟩) rfl (fun h => .inl ⟨hne' h, rfl⟩) (fun x hx => by
        rcases List.mem_or_eq_of_mem_set hx with h1 | h1
        · exact A.sD x h1
        · rw [h1]; exact small_tear (A.sD u (List.mem_of_getElem? hu))) (fun w hw => by
        obtain ⟨x, hx, rfl⟩ := List.mem_map.1 hw
        unfold tearN
        split
        · exact small_tear (A.sP x hx)
        · exact A.sP x hx) A.rng (by simpa using A.pos)
    have hm2 := M2.hm
    simp -implicitDefEqProofs only [c15, a15_0b, a15_1b, a15_2b, a15_3b, a15_4b, a15_5b, a15_6b, a15_7b, a15_8b, a15_9b, a15_10b, a15_11b, a15_12b, a15_13b, a15_14b, a15_15b, a15_16b, a15_17b, a15_18b, a15_19b, a15_20b, a15_21b, a15_22b, a15_23b, WS_skip, WS_ops, WS_seq, WS_block, WS_cond, WS_exit, WS_ret, WB_true, WB_false, RS_nil, RS_seq, RS_seqE, RS_seqR, RS_blk, RS_blkE, RS_blkR, WP_nil, WP_cons, WP_guard, WG_true, WG_false, WX_val, WX_enter, KC_nil, getK_some, QC_normal, QC_ret, QL_normal, QL_exit, QL_ret, nbeq, ibeq, iltn, ilen, ite_true, ite_false, EV, ER, fill_nil, fill_cons, fillK_some, fillJ_some, CK, KC_cons, again_nil, again_cons, again_guard, againW_T, againW_F, againR_val, AV.same_refl, wantedA, Opd.ev, evs, Env.get, Env.set, Env.get_set, List.cons.injEq, and_false, false_and, and_self, putE, cond, getAll, getRes, packed, eqOp, isNilV, scalarK, arithOp, unOpA, takeN, List.drop, true_and, and_true, reduceIte, reduceCtorEq, false_implies, forall_const, iLe_eq, iLt_eq, iEq_eq, decide_true, decide_false, Bool.not_true, Bool.not_false, Bool.true_and, Bool.and_true, Bool.false_and, Bool.and_false, beq_self_eq_true, imp_self, Bool.true_eq_false, Bool.false_eq_true, Nat.zero_add, Nat.add_zero, Nat.zero_mul, Nat.mul_one, Nat.one_mul, Nat.sub_zero, beqT, beqF, ldOwn hx, takeN, e6, ek, k0, k1, k2, k3, k4, e0, down_is (B := B) A2.S, ldOwn hm2]
    have := sm1.1
    have := sm2.1
    exact hk _ ⟨_, _, _, _, _, _, _, _, _, A2, by simp, by simp, by omega⟩
  · have hif' : ¬ (0 ≤ i ∧ i < (encD DS).length ∧ 0 ≤ n ∧ n ≤ 64) := by rw [encD_len]; exact hif
    simp -implicitDefEqProofs only [c15, a15_0b, a15_1b, a15_2b, a15_3b, a15_4b, a15_5b, a15_6b, a15_7b, a15_8b, a15_9b, a15_10b, a15_11b, a15_12b, a15_13b, a15_14b, a15_15b, a15_16b, a15_17b, a15_18b, a15_19b, a15_20b, a15_21b, a15_22b, a15_23b, WS_skip, WS_ops, WS_seq, WS_block, WS_cond, WS_exit, WS_ret, WB_true, WB_false, RS_nil, RS_seq, RS_seqE, RS_seqR, RS_blk, RS_blkE, RS_blkR, WP_nil, WP_cons, WP_guard, WG_true, WG_false, WX_val, WX_enter, KC_nil, getK_some, QC_normal, QC_ret, QL_normal, QL_exit, QL_ret, nbeq, ibeq, iltn, ilen, ite_true, ite_false, EV, ER, fill_nil, fill_cons, fillK_some, fillJ_some, CK, KC_cons, again_nil, again_cons, again_guard, againW_T, againW_F, againR_val, AV.same_refl, wantedA, Opd.ev, evs, Env.get, Env.set, Env.get_set, List.cons.injEq, and_false, false_and, and_self, putE, cond, getAll, getRes, packed, eqOp, isNilV, scalarK, arithOp, unOpA, takeN, List.drop, true_and, and_true, reduceIte, reduceCtorEq, false_implies, forall_const, iLe_eq, iLt_eq, iEq_eq, decide_true, decide_false, Bool.not_true, Bool.not_false, Bool.true_and, Bool.and_true, Bool.false_and, Bool.and_false, beq_self_eq_true, imp_self, Bool.true_eq_false, Bool.false_eq_true, Nat.zero_add, Nat.add_zero, Nat.zero_mul, Nat.mul_one, Nat.one_mul, Nat.sub_zero, beqT, beqF, ldOwn hx, takeN, e6, ek, k0, k1, k2, k3, k4, e1, tear_arg A0.S hif', mtear_arg A0.M hif, dI, ldOwn hm]
    exact hk _ ⟨_, _, _, _, _, _, _, _, _, A0, rfl, by omega, hl0⟩
end
end Go.Proofs.Ytohjmflbgohkhaa.E
