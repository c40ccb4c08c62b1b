/- BookTorn: the law's own body, whole. -/
import Derived.Test.YtohjmflbgohkhaaS12
namespace Go.Proofs.Ytohjmflbgohkhaa.E
set_option linter.all false
open Go

theorem pad_get (cs : List AV) (j : Nat) : (pad cs).getD j z8 = if j < cs.length then cs.getD j z8 else z8 := by
  unfold pad
  by_cases h : j < cs.length
  · rw [if_pos h]; simp [List.getD_eq_getElem?_getD, List.getElem?_append_left h]
  · rw [if_neg h]
    simp only [List.getD_eq_getElem?_getD, List.getElem?_append_right (Nat.le_of_not_lt h), List.getElem?_replicate]
    split <;> rfl

def mixed (k : Nat) (os ns : List AV) : List AV := (pad ns).take k ++ (pad os).drop k

theorem mixed_len {k : Nat} {os ns : List AV} (hk : k ≤ 64) (ho : os.length ≤ 64) (hn : ns.length ≤ 64) : (mixed k os ns).length = 64 := by
  simp [mixed, pad_len ho, pad_len hn]; omega

theorem mixed_get {k : Nat} {os ns : List AV} (hk : k ≤ 64) (ho : os.length ≤ 64) (hn : ns.length ≤ 64) (j : Nat) :
    (mixed k os ns).getD j z8 = if j < k then (pad ns).getD j z8 else (pad os).getD j z8 := by
  unfold mixed
  have h1 : ((pad ns).take k).length = k := by simp [pad_len hn]; omega
  by_cases h : j < k
  · rw [if_pos h]
    simp only [List.getD_eq_getElem?_getD, List.getElem?_append_left (by omega : j < ((pad ns).take k).length), List.getElem?_take_of_lt h]
  · rw [if_neg h]
    simp only [List.getD_eq_getElem?_getD, List.getElem?_append_right (by omega : ((pad ns).take k).length ≤ j), h1, List.getElem?_drop, show k + (j - k) = j by omega]

theorem keepN1 (kept : Int) : keepN [kept] 0 = (min (max kept 0) 64).toNat := rfl

theorem want_mixed {kept : Int} {os ns : List AV} (ho : os.length ≤ 64) (hn : ns.length ≤ 64) (j : Nat) (hj : j < 64) :
    (mixed (keepN [kept] 0) os ns).getD j z8 = wantB kept 64 os ns j := by
  have hk := keepN_le [kept] 0
  rw [mixed_get hk ho hn, pad_get, pad_get]
  unfold wantB
  have e : j < keepN [kept] 0 ↔ Int.ofNat j < kept := by rw [keepN1]; simp only [Int.ofNat_eq_natCast]; omega
  by_cases h1 : Int.ofNat j < kept
  · rw [if_pos (e.2 h1), if_neg (c := kept ≤ Int.ofNat j ∧ _) (by omega)]
    by_cases h2 : j < ns.length
    · rw [if_pos h2, if_pos ⟨h1, h2, hj⟩]
    · rw [if_neg h2, if_neg (by omega)]
  · rw [if_neg (fun hh => h1 (e.1 hh)), if_neg (c := Int.ofNat j < kept ∧ _) (by omega)]
    by_cases h2 : j < os.length
    · rw [if_pos h2, if_pos ⟨by omega, h2, hj⟩]
    · rw [if_neg h2, if_neg (by omega)]

theorem tear_get {f : Nat} {l : List AV} (hf : f ≤ 64) (hl : l.length = 64) (j : Nat) : (tearL f l).getD j z8 = if j < f then l.getD j z8 else z8 := by
  unfold tearL
  have h1 : (l.take f).length = f := by simp; omega
  by_cases h : j < f
  · rw [if_pos h]
    simp only [List.getD_eq_getElem?_getD, List.getElem?_append_left (by omega : j < (l.take f).length), List.getElem?_take_of_lt h]
  · rw [if_neg h]
    simp only [List.getD_eq_getElem?_getD, List.getElem?_append_right (by omega : (l.take f).length ≤ j), List.getElem?_replicate]
    split <;> rfl

theorem want_cut {kept : Int} {os ns : List AV} {f : Nat} (hf : f ≤ 64) (j : Nat) (hj : j < 64) :
    (if j < f then wantB kept 64 os ns j else z8) = wantB kept f os ns j := by
  unfold wantB
  by_cases h : j < f
  · rw [if_pos h]; simp only [h, hj]
  · rw [if_neg h, if_neg (by omega), if_neg (by omega)]

theorem bytes_pad {cs : List AV} (h : Bytes cs) : Bytes (pad cs) := by
  intro c hc
  rcases List.mem_append.1 hc with h1 | h1
  · exact h c h1
  · exact ⟨0, List.eq_of_mem_replicate h1⟩
theorem bytes_mixed {k : Nat} {os ns : List AV} (ho : Bytes os) (hn : Bytes ns) : Bytes (mixed k os ns) := by
  intro c hc
  rcases List.mem_append.1 hc with h1 | h1
  · exact bytes_pad hn c (List.mem_of_mem_take h1)
  · exact bytes_pad ho c (List.mem_of_mem_drop h1)
theorem bytes_tear {f : Nat} {l : List AV} (h : Bytes l) : Bytes (tearL f l) := by
  intro c hc
  rcases List.mem_append.1 hc with h1 | h1
  · exact h c (List.mem_of_mem_take h1)
  · exact ⟨0, List.eq_of_mem_replicate h1⟩

section
variable {B : Base} {h : AHeap}

set_option maxHeartbeats 1000000 in
theorem torn_short {leaf kept frm : Int} {ov nv : AV} {os ns : List AV} (ho : Src B ov os) (hn : Src B nv ns) (hlo : os.length ≤ 64) (hln : ns.length ≤ 64) (hbo : Bytes os) (hbn : Bytes ns) {K : AV → AHeap → Prop} (hk : ∀ h, K (.bool true) h) :
    WC B G 3 [.int .i64 leaf, ov, nv, .int .i64 kept, .int .i64 frm] h K := by
  refine WC_fun (af := a3) rfl rfl rfl ?_
  rw [args5]
  have e3 : (Int.ofNat 64 == 0) = false := rfl
  have e4 : (Int.ofNat 0 == Int.ofNat 0) = true := rfl
  have d1 : decide (64 < os.length) = false := by simp; omega
  have d2 : decide (64 < ns.length) = false := by simp; omega
  obtain ⟨i, hi, hat⟩ := at_ok leaf
  have lo := src_len ho h
  have ln := src_len hn h
  simp -implicitDefEqProofs only [c3, a3_0b, a3_1b, a3_2b, a3_3b, a3_4b, a3_5b, a3_6b, a3_7b, a3_8b, a3_9b, a3_10b, a3_11b, a3_12b, a3_13b, a3_14b, a3_15b, a3_16b, a3_17b, a3_18b, a3_19b, a3_20b, a3_21b, a3_22b, a3_23b, a3_24b, a3_25b, a3_26b, a3_27b, a3_28b, a3_29b, a3_30b, a3_31b, a3_32b, a3_33b, a3_34b, a3_35b, a3_36b, a3_37b, a3_38b, a3_39b, a3_40b, a3_41b, a3_42b, a3_43b, a3_44b, a3_45b, a3_46b, a3_47b, a3_48b, WS_skip, WS_ops, WS_seq, WS_block, WS_cond, WS_exit, WS_ret, WB_true, WB_false, RS_nil, RS_seq, RS_seqE, RS_seqR, RS_blk, RS_blkE, RS_blkR, WP_nil, WP_cons, WP_guard, WG_true, WG_false, WX_val, WX_enter, KC_nil, getK_some, QC_normal, QC_ret, QL_normal, QL_exit, QL_ret, nbeq, ibeq, iltn, ilen, ite_true, ite_false, EV, ER, fill_nil, fill_cons, fillK_some, fillJ_some, AV.cellsOk, wantedA, Opd.ev, evs, Env.get, Env.set, Env.get_set, List.cons.injEq, and_false, false_and, and_self, putE, cond, againOk, getAll, getRes, packed, eqOp, isNilV, scalarK, arithOp, unOpA, takeN, List.drop, true_and, and_true, reduceIte, reduceCtorEq, false_implies, forall_const, iLe_eq, iLt_eq, iEq_eq, decide_true, decide_false, Bool.not_true, Bool.not_false, Bool.true_and, Bool.and_true, Bool.false_and, Bool.and_false, beq_self_eq_true, imp_self, Bool.true_eq_false, Bool.false_eq_true, Nat.zero_add, Nat.add_zero, Nat.zero_mul, Nat.mul_one, Nat.one_mul, Nat.sub_zero, beqT, beqF, lo, ln, d1, d2, e3, hat]
  refine new_ok2 (n := 64) (by omega) (by omega) fun h1 S1 sm1 => ?_
  simp -implicitDefEqProofs only [c3, a3_0b, a3_1b, a3_2b, a3_3b, a3_4b, a3_5b, a3_6b, a3_7b, a3_8b, a3_9b, a3_10b, a3_11b, a3_12b, a3_13b, a3_14b, a3_15b, a3_16b, a3_17b, a3_18b, a3_19b, a3_20b, a3_21b, a3_22b, a3_23b, a3_24b, a3_25b, a3_26b, a3_27b, a3_28b, a3_29b, a3_30b, a3_31b, a3_32b, a3_33b, a3_34b, a3_35b, a3_36b, a3_37b, a3_38b, a3_39b, a3_40b, a3_41b, a3_42b, a3_43b, a3_44b, a3_45b, a3_46b, a3_47b, a3_48b, WS_skip, WS_ops, WS_seq, WS_block, WS_cond, WS_exit, WS_ret, WB_true, WB_false, RS_nil, RS_seq, RS_seqE, RS_seqR, RS_blk, RS_blkE, RS_blkR, WP_nil, WP_cons, WP_guard, WG_true, WG_false, WX_val, WX_enter, KC_nil, getK_some, QC_normal, QC_ret, QL_normal, QL_exit, QL_ret, nbeq, ibeq, iltn, ilen, ite_true, ite_false, EV, ER, fill_nil, fill_cons, fillK_some, fillJ_some, AV.cellsOk, wantedA, Opd.ev, evs, Env.get, Env.set, Env.get_set, List.cons.injEq, and_false, false_and, and_self, putE, cond, againOk, getAll, getRes, packed, eqOp, isNilV, scalarK, arithOp, unOpA, takeN, List.drop, true_and, and_true, reduceIte, reduceCtorEq, false_implies, forall_const, iLe_eq, iLt_eq, iEq_eq, decide_true, decide_false, Bool.not_true, Bool.not_false, Bool.true_and, Bool.and_true, Bool.false_and, Bool.and_false, beq_self_eq_true, imp_self, Bool.true_eq_false, Bool.false_eq_true, Nat.zero_add, Nat.add_zero, Nat.zero_mul, Nat.mul_one, Nat.one_mul, Nat.sub_zero, beqT, beqF, e4, List.getElem?_cons_zero, List.getElem?_cons_succ]
  refine write_ok S1 (i := i) (by simpa using hi) (by decide) (by decide) ho hlo (by simp) fun h2 pi2 S2 sm2 _ => ?_
  simp only [show ¬ (0 : Int) < -1 by decide, if_false, List.nil_append] at S2
  simp -implicitDefEqProofs only [c3, a3_0b, a3_1b, a3_2b, a3_3b, a3_4b, a3_5b, a3_6b, a3_7b, a3_8b, a3_9b, a3_10b, a3_11b, a3_12b, a3_13b, a3_14b, a3_15b, a3_16b, a3_17b, a3_18b, a3_19b, a3_20b, a3_21b, a3_22b, a3_23b, a3_24b, a3_25b, a3_26b, a3_27b, a3_28b, a3_29b, a3_30b, a3_31b, a3_32b, a3_33b, a3_34b, a3_35b, a3_36b, a3_37b, a3_38b, a3_39b, a3_40b, a3_41b, a3_42b, a3_43b, a3_44b, a3_45b, a3_46b, a3_47b, a3_48b, WS_skip, WS_ops, WS_seq, WS_block, WS_cond, WS_exit, WS_ret, WB_true, WB_false, RS_nil, RS_seq, RS_seqE, RS_seqR, RS_blk, RS_blkE, RS_blkR, WP_nil, WP_cons, WP_guard, WG_true, WG_false, WX_val, WX_enter, KC_nil, getK_some, QC_normal, QC_ret, QL_normal, QL_exit, QL_ret, nbeq, ibeq, iltn, ilen, ite_true, ite_false, EV, ER, fill_nil, fill_cons, fillK_some, fillJ_some, AV.cellsOk, wantedA, Opd.ev, evs, Env.get, Env.set, Env.get_set, List.cons.injEq, and_false, false_and, and_self, putE, cond, againOk, getAll, getRes, packed, eqOp, isNilV, scalarK, arithOp, unOpA, takeN, List.drop, true_and, and_true, reduceIte, reduceCtorEq, false_implies, forall_const, iLe_eq, iLt_eq, iEq_eq, decide_true, decide_false, Bool.not_true, Bool.not_false, Bool.true_and, Bool.and_true, Bool.false_and, Bool.and_false, beq_self_eq_true, imp_self, Bool.true_eq_false, Bool.false_eq_true, Nat.zero_add, Nat.add_zero, Nat.zero_mul, Nat.mul_one, Nat.one_mul, Nat.sub_zero, beqT, beqF]
  refine press_ok S2 (by decide) (by decide) (by simp) fun h3 S3 sm3 => ?_
  simp only [show ¬ (0 : Int) < -1 by decide, if_false, laid, List.foldl_cons, List.foldl_nil] at S3
  simp -implicitDefEqProofs only [c3, a3_0b, a3_1b, a3_2b, a3_3b, a3_4b, a3_5b, a3_6b, a3_7b, a3_8b, a3_9b, a3_10b, a3_11b, a3_12b, a3_13b, a3_14b, a3_15b, a3_16b, a3_17b, a3_18b, a3_19b, a3_20b, a3_21b, a3_22b, a3_23b, a3_24b, a3_25b, a3_26b, a3_27b, a3_28b, a3_29b, a3_30b, a3_31b, a3_32b, a3_33b, a3_34b, a3_35b, a3_36b, a3_37b, a3_38b, a3_39b, a3_40b, a3_41b, a3_42b, a3_43b, a3_44b, a3_45b, a3_46b, a3_47b, a3_48b, WS_skip, WS_ops, WS_seq, WS_block, WS_cond, WS_exit, WS_ret, WB_true, WB_false, RS_nil, RS_seq, RS_seqE, RS_seqR, RS_blk, RS_blkE, RS_blkR, WP_nil, WP_cons, WP_guard, WG_true, WG_false, WX_val, WX_enter, KC_nil, getK_some, QC_normal, QC_ret, QL_normal, QL_exit, QL_ret, nbeq, ibeq, iltn, ilen, ite_true, ite_false, EV, ER, fill_nil, fill_cons, fillK_some, fillJ_some, AV.cellsOk, wantedA, Opd.ev, evs, Env.get, Env.set, Env.get_set, List.cons.injEq, and_false, false_and, and_self, putE, cond, againOk, getAll, getRes, packed, eqOp, isNilV, scalarK, arithOp, unOpA, takeN, List.drop, true_and, and_true, reduceIte, reduceCtorEq, false_implies, forall_const, iLe_eq, iLt_eq, iEq_eq, decide_true, decide_false, Bool.not_true, Bool.not_false, Bool.true_and, Bool.and_true, Bool.false_and, Bool.and_false, beq_self_eq_true, imp_self, Bool.true_eq_false, Bool.false_eq_true, Nat.zero_add, Nat.add_zero, Nat.zero_mul, Nat.mul_one, Nat.one_mul, Nat.sub_zero, beqT, beqF]
  refine write_ok S3 (i := i) (by simpa using hi) (by decide) (by decide) hn hln (by simp) fun h4 pi4 S4 sm4 _ => ?_
  simp only [show ¬ (0 : Int) < -1 by decide, if_false, List.nil_append, List.set_set] at S4
  have hz : timesL 1 (RL.out [(1, .int .i64 (.ofNat 0))]) = [.int .i64 (.ofNat 0)] := rfl
  simp -implicitDefEqProofs only [c3, a3_0b, a3_1b, a3_2b, a3_3b, a3_4b, a3_5b, a3_6b, a3_7b, a3_8b, a3_9b, a3_10b, a3_11b, a3_12b, a3_13b, a3_14b, a3_15b, a3_16b, a3_17b, a3_18b, a3_19b, a3_20b, a3_21b, a3_22b, a3_23b, a3_24b, a3_25b, a3_26b, a3_27b, a3_28b, a3_29b, a3_30b, a3_31b, a3_32b, a3_33b, a3_34b, a3_35b, a3_36b, a3_37b, a3_38b, a3_39b, a3_40b, a3_41b, a3_42b, a3_43b, a3_44b, a3_45b, a3_46b, a3_47b, a3_48b, WS_skip, WS_ops, WS_seq, WS_block, WS_cond, WS_exit, WS_ret, WB_true, WB_false, RS_nil, RS_seq, RS_seqE, RS_seqR, RS_blk, RS_blkE, RS_blkR, WP_nil, WP_cons, WP_guard, WG_true, WG_false, WX_val, WX_enter, KC_nil, getK_some, QC_normal, QC_ret, QL_normal, QL_exit, QL_ret, nbeq, ibeq, iltn, ilen, ite_true, ite_false, EV, ER, fill_nil, fill_cons, fillK_some, fillJ_some, AV.cellsOk, wantedA, Opd.ev, evs, Env.get, Env.set, Env.get_set, List.cons.injEq, and_false, false_and, and_self, putE, cond, againOk, getAll, getRes, packed, eqOp, isNilV, scalarK, arithOp, unOpA, takeN, List.drop, true_and, and_true, reduceIte, reduceCtorEq, false_implies, forall_const, iLe_eq, iLt_eq, iEq_eq, decide_true, decide_false, Bool.not_true, Bool.not_false, Bool.true_and, Bool.and_true, Bool.false_and, Bool.and_false, beq_self_eq_true, imp_self, Bool.true_eq_false, Bool.false_eq_true, Nat.zero_add, Nat.add_zero, Nat.zero_mul, Nat.mul_one, Nat.one_mul, Nat.sub_zero, beqT, beqF, hz, splice, List.length_cons, List.length_nil]
  have sm5 : Same h4 (h4 ++ [.cells [.int .i64 kept]]) [] := Same.app _ _ _
  have S5 := S4.keep sm5 (by simp)
  obtain ⟨_, _, hs4⟩ := S4.hs
  have hlt1 := hc_lt hs4
  have hlt2 := hc_lt S4.hd
  refine crash_ok S5 (ks := [kept]) (by simp) (fun h' sm => .inr ⟨.own h4.length, 0, 1, none, rfl, ?_⟩) (by simp) (by simp) fun h6 ni6 S6 sm6 _ => ?_
  · intro j k hj
    have hc : hcells h' h4.length = some [.int .i64 kept] := sm.cells hc_new (by simp; omega)
    cases j with
    | zero => simp at hj; subst hj; rw [ldOwn hc]; rfl
    | succ j => simp at hj
  generalize hN : crashed [kept] 0 [(i, pad ns)] ((List.replicate 64 zs).set i (pad os)) = N at S6
  have hl5 : N[i]? = some (mixed (keepN [kept] 0) os ns) := by
    rw [← hN]
    simp [crashed, crash1, mixed, List.getD_eq_getElem?_getD, hi]
  have hlen : N.length = 64 := by rw [← hN, crashed_len]; simp
  have hml := mixed_len (keepN_le [kept] 0) hlo hln
  simp -implicitDefEqProofs only [c3, a3_0b, a3_1b, a3_2b, a3_3b, a3_4b, a3_5b, a3_6b, a3_7b, a3_8b, a3_9b, a3_10b, a3_11b, a3_12b, a3_13b, a3_14b, a3_15b, a3_17b, a3_18b, a3_19b, a3_20b, a3_21b, a3_22b, a3_23b, a3_24b, a3_25b, a3_26b, a3_27b, a3_28b, a3_29b, a3_30b, a3_31b, a3_32b, a3_33b, a3_34b, a3_35b, a3_36b, a3_37b, a3_38b, a3_39b, a3_40b, a3_41b, a3_42b, a3_43b, a3_44b, a3_45b, a3_46b, a3_47b, a3_48b, WS_skip, WS_ops, WS_seq, WS_block, WS_cond, WS_exit, WS_ret, WB_true, WB_false, RS_nil, RS_seq, RS_seqE, RS_seqR, RS_blk, RS_blkE, RS_blkR, WP_nil, WP_cons, WP_guard, WG_true, WG_false, WX_val, WX_enter, KC_nil, getK_some, QC_normal, QC_ret, QL_normal, QL_exit, QL_ret, nbeq, ibeq, iltn, ilen, ite_true, ite_false, EV, ER, fill_nil, fill_cons, fillK_some, fillJ_some, AV.cellsOk, wantedA, Opd.ev, evs, Env.get, Env.set, Env.get_set, List.cons.injEq, and_false, false_and, and_self, putE, cond, againOk, getAll, getRes, packed, eqOp, isNilV, scalarK, arithOp, unOpA, takeN, List.drop, true_and, and_true, reduceIte, reduceCtorEq, false_implies, forall_const, iLe_eq, iLt_eq, iEq_eq, decide_true, decide_false, Bool.not_true, Bool.not_false, Bool.true_and, Bool.and_true, Bool.false_and, Bool.and_false, beq_self_eq_true, imp_self, Bool.true_eq_false, Bool.false_eq_true, Nat.zero_add, Nat.add_zero, Nat.zero_mul, Nat.mul_one, Nat.one_mul, Nat.sub_zero, beqT, beqF]
  by_cases hf : 0 ≤ frm ∧ frm ≤ 64
  · obtain ⟨f, rfl⟩ := Int.eq_ofNat_of_zero_le hf.1
    have hf2 : f ≤ 64 := by omega
    refine tear_ok (f := f) S6 hl5 hl5 hf2 (by simp) fun h7 S7 sm7 => ?_
    simp -implicitDefEqProofs only [c3, a3_0b, a3_1b, a3_2b, a3_3b, a3_4b, a3_5b, a3_6b, a3_7b, a3_8b, a3_9b, a3_10b, a3_11b, a3_12b, a3_13b, a3_14b, a3_15b, a3_17b, a3_18b, a3_19b, a3_20b, a3_21b, a3_22b, a3_23b, a3_24b, a3_25b, a3_26b, a3_27b, a3_28b, a3_29b, a3_30b, a3_31b, a3_32b, a3_33b, a3_34b, a3_35b, a3_36b, a3_37b, a3_38b, a3_39b, a3_40b, a3_41b, a3_42b, a3_43b, a3_44b, a3_45b, a3_46b, a3_47b, a3_48b, WS_skip, WS_ops, WS_seq, WS_block, WS_cond, WS_exit, WS_ret, WB_true, WB_false, RS_nil, RS_seq, RS_seqE, RS_seqR, RS_blk, RS_blkE, RS_blkR, WP_nil, WP_cons, WP_guard, WG_true, WG_false, WX_val, WX_enter, KC_nil, getK_some, QC_normal, QC_ret, QL_normal, QL_exit, QL_ret, nbeq, ibeq, iltn, ilen, ite_true, ite_false, EV, ER, fill_nil, fill_cons, fillK_some, fillJ_some, AV.cellsOk, wantedA, Opd.ev, evs, Env.get, Env.set, Env.get_set, List.cons.injEq, and_false, false_and, and_self, putE, cond, againOk, getAll, getRes, packed, eqOp, isNilV, scalarK, arithOp, unOpA, takeN, List.drop, true_and, and_true, reduceIte, reduceCtorEq, false_implies, forall_const, iLe_eq, iLt_eq, iEq_eq, decide_true, decide_false, Bool.not_true, Bool.not_false, Bool.true_and, Bool.and_true, Bool.false_and, Bool.and_false, beq_self_eq_true, imp_self, Bool.true_eq_false, Bool.false_eq_true, Nat.zero_add, Nat.add_zero, Nat.zero_mul, Nat.mul_one, Nat.one_mul, Nat.sub_zero, beqT, beqF]
    refine torn_end (cut := f) (tv := 0) ho hn S7 (l := tearL f (mixed (keepN [kept] 0) os ns)) (by simp [hlen, hi]) (bytes_tear (bytes_mixed hbo hbn)) (by simpa using hf) (by rw [if_pos hf]; rfl) ?_ rfl rfl rfl rfl rfl rfl rfl rfl rfl rfl hk
    intro j hj
    rw [tear_get hf2 hml, want_mixed hlo hln j hj]
    exact want_cut hf2 j hj
  · have hif : ¬ (0 ≤ Int.ofNat i ∧ Int.ofNat i < N.length ∧ 0 ≤ frm ∧ frm ≤ 64) := fun hh => hf hh.2.2
    rw [tear_arg S6 hif]
    simp -implicitDefEqProofs only [c3, a3_0b, a3_1b, a3_2b, a3_3b, a3_4b, a3_5b, a3_6b, a3_7b, a3_8b, a3_9b, a3_10b, a3_11b, a3_12b, a3_13b, a3_14b, a3_15b, a3_17b, a3_18b, a3_19b, a3_20b, a3_21b, a3_22b, a3_23b, a3_24b, a3_25b, a3_26b, a3_27b, a3_28b, a3_29b, a3_30b, a3_31b, a3_32b, a3_33b, a3_34b, a3_35b, a3_36b, a3_37b, a3_38b, a3_39b, a3_40b, a3_41b, a3_42b, a3_43b, a3_44b, a3_45b, a3_46b, a3_47b, a3_48b, WS_skip, WS_ops, WS_seq, WS_block, WS_cond, WS_exit, WS_ret, WB_true, WB_false, RS_nil, RS_seq, RS_seqE, RS_seqR, RS_blk, RS_blkE, RS_blkR, WP_nil, WP_cons, WP_guard, WG_true, WG_false, WX_val, WX_enter, KC_nil, getK_some, QC_normal, QC_ret, QL_normal, QL_exit, QL_ret, nbeq, ibeq, iltn, ilen, ite_true, ite_false, EV, ER, fill_nil, fill_cons, fillK_some, fillJ_some, AV.cellsOk, wantedA, Opd.ev, evs, Env.get, Env.set, Env.get_set, List.cons.injEq, and_false, false_and, and_self, putE, cond, againOk, getAll, getRes, packed, eqOp, isNilV, scalarK, arithOp, unOpA, takeN, List.drop, true_and, and_true, reduceIte, reduceCtorEq, false_implies, forall_const, iLe_eq, iLt_eq, iEq_eq, decide_true, decide_false, Bool.not_true, Bool.not_false, Bool.true_and, Bool.and_true, Bool.false_and, Bool.and_false, beq_self_eq_true, imp_self, Bool.true_eq_false, Bool.false_eq_true, Nat.zero_add, Nat.add_zero, Nat.zero_mul, Nat.mul_one, Nat.one_mul, Nat.sub_zero, beqT, beqF]
    refine torn_end (cut := 64) (tv := 1) ho hn S6 hl5 (bytes_mixed hbo hbn) (by simp; omega) (by rw [if_neg hf]; rfl) (want_mixed hlo hln) rfl rfl rfl rfl rfl rfl rfl rfl rfl rfl hk
end
end Go.Proofs.Ytohjmflbgohkhaa.E
