/- What Tear does, where it does anything. -/
import Derived.Test.YtohjmflbgohkhaaS7
namespace Go.Proofs.Ytohjmflbgohkhaa.E
set_option linter.all false
open Go

theorem tornP_succ {i f j : Nat} {P : List (Nat × List AV)} {w} (hPj : P[j]? = some w) : tornP i f (j + 1) P = (tornP i f j P).set j (tearW i f w) := by
  obtain ⟨hlt, he⟩ := List.getElem?_eq_some_iff.1 hPj
  have e1 : P.take (j + 1) = P.take j ++ [w] := by rw [List.take_succ, hPj]; rfl
  have e2 : P.drop j = w :: P.drop (j + 1) := by rw [List.drop_eq_getElem_cons hlt, he]
  have hl : ((P.take j).map (tearW i f)).length = j := by simp; omega
  unfold tornP
  rw [e1, e2, List.map_append, List.set_append_right _ _ (by omega), hl]
  simp

section
variable {B : Base} {h : AHeap} {s di ni pi : Nat} {D N : List (List AV)} {P : List (Nat × List AV)} {pw : Int} {dn : Bool}

set_option maxHeartbeats 1000000 in
theorem tear_ok (S : ShelfAt h s di ni pi D N P pw dn) {i f : Nat} {dl nl : List AV} (hd : D[i]? = some dl) (hn : N[i]? = some nl) (hf : f ≤ 64) (hP : P.length < 1000000) {K : AV → AHeap → Prop}
    (hk : ∀ h', ShelfAt h' s di ni pi (D.set i (tearL f dl)) (N.set i (tearL f nl)) (P.map (tearW i f)) pw dn → Same h h' (s :: di :: ni :: pf P pi) → K (.int .i64 (.ofNat 0)) h') :
    WC B G 10 [.ptr (.own s) 0, .int .i64 (.ofNat i), .int .i64 (.ofNat f)] h K := by
  obtain ⟨ed, en, hs⟩ := S.hs
  refine WC_fun (af := a10) rfl rfl rfl ?_
  rw [args3]
  have hi : i < D.length := (List.getElem?_eq_some_iff.1 hd).1
  have hdl := S.aD.get hd
  have hnl := S.aN.get hn
  have e00 : decide (0 ≤ Int.ofNat i) = true := by simp
  have e01 : decide (i < D.length) = true := by simpa using hi
  have e02 : decide (f ≤ 64) = true := by simpa using hf
  have e03 : decide (0 ≤ f) = true := by simp
  have hD : D.length < 1000000000 := by have := S.big; omega
  have ir := inRange_ok hi
  have spn := flat_splice (n := 64) (ls := N) (i := i) (o := f) (vs := timesL (64 - f) [z8]) (r := tearL f nl) S.aN hn (splice_tear hf hnl)
  have spd := flat_splice (n := 64) (ls := D) (i := i) (o := f) (vs := timesL (64 - f) [z8]) (r := tearL f dl) S.aD hd (splice_tear hf hdl)
  have t1 := tear_is (B := B) S.hn hf spn
  have S2 := S.setN (N' := N.set i (tearL f nl)) (by simp) (S.aN.set (tearL_len hf hnl))
  have sm2 : Same h (h.set ni (.cells (N.set i (tearL f nl)).flatten)) (s :: di :: ni :: pf P pi) := Same.set (by simp)
  simp -implicitDefEqProofs only [c10, a10_0b, a10_1b, a10_2b, a10_3b, a10_4b, a10_5b, a10_6b, a10_7b, a10_8b, a10_9b, a10_10b, a10_11b, a10_12b, a10_13b, a10_14b, a10_15b, a10_16b, a10_17b, a10_18b, a10_19b, a10_20b, a10_21b, a10_22b, a10_23b, a10_24b, a10_25b, WS_skip, WS_ops, WS_seq, WS_block, WS_cond, WS_exit, WS_ret, WB_true, WB_false, RS_nil, RS_seq, RS_seqE, RS_seqR, RS_blk, RS_blkE, RS_blkR, WP_nil, WP_cons, WP_guard, WG_true, WG_false, WX_val, WX_enter, KC_nil, getK_some, QC_normal, QC_ret, QL_normal, QL_exit, QL_ret, nbeq, ibeq, iltn, ilen, ite_true, ite_false, evalOp, wantedA, Opd.ev, evs, Env.get, Env.set, Env.get_set, List.cons.injEq, and_false, false_and, and_self, putE, cond, againOk, getAll, getRes, packed, eqOp, isNilV, scalarK, arithOp, unOpA, takeN, List.drop, true_and, and_true, reduceIte, reduceCtorEq, false_implies, forall_const, iLe_eq, iLt_eq, iEq_eq, decide_true, decide_false, Bool.not_true, Bool.not_false, Bool.true_and, Bool.and_true, Bool.false_and, Bool.and_false, beq_self_eq_true, imp_self, Bool.true_eq_false, Bool.false_eq_true, Nat.zero_add, Nat.add_zero, Nat.zero_mul, Nat.mul_one, Nat.one_mul, Nat.sub_zero, beqT, beqF, has_is hs hD, in_is, e00, e01, e02, e03, ldOwn hs, ir, t1]
  generalize h.set ni (.cells (N.set i (tearL f nl)).flatten) = h2 at S2 sm2 ⊢
  obtain ⟨ed2, en2, hs2⟩ := S2.hs
  have t2 := tear_is (B := B) S2.hd hf spd
  have S3 := S2.setD (D' := D.set i (tearL f dl)) (by simp) (S.aD.set (tearL_len hf hdl))
  have sm3 : Same h (h2.set di (.cells (D.set i (tearL f dl)).flatten)) (s :: di :: ni :: pf P pi) := Same.trans (F1 := s :: di :: ni :: pf P pi) sm2 (Same.set (by simp)) fun j hj => .inl hj
  simp -implicitDefEqProofs only [c10, a10_0b, a10_1b, a10_2b, a10_3b, a10_4b, a10_5b, a10_6b, a10_7b, a10_8b, a10_9b, a10_10b, a10_11b, a10_12b, a10_13b, a10_14b, a10_15b, a10_16b, a10_17b, a10_18b, a10_19b, a10_20b, a10_21b, a10_22b, a10_23b, a10_24b, a10_25b, WS_skip, WS_ops, WS_seq, WS_block, WS_cond, WS_exit, WS_ret, WB_true, WB_false, RS_nil, RS_seq, RS_seqE, RS_seqR, RS_blk, RS_blkE, RS_blkR, WP_nil, WP_cons, WP_guard, WG_true, WG_false, WX_val, WX_enter, KC_nil, getK_some, QC_normal, QC_ret, QL_normal, QL_exit, QL_ret, nbeq, ibeq, iltn, ilen, ite_true, ite_false, evalOp, wantedA, Opd.ev, evs, Env.get, Env.set, Env.get_set, List.cons.injEq, and_false, false_and, and_self, putE, cond, againOk, getAll, getRes, packed, eqOp, isNilV, scalarK, arithOp, unOpA, takeN, List.drop, true_and, and_true, reduceIte, reduceCtorEq, false_implies, forall_const, iLe_eq, iLt_eq, iEq_eq, decide_true, decide_false, Bool.not_true, Bool.not_false, Bool.true_and, Bool.and_true, Bool.false_and, Bool.and_false, beq_self_eq_true, imp_self, Bool.true_eq_false, Bool.false_eq_true, Nat.zero_add, Nat.add_zero, Nat.zero_mul, Nat.mul_one, Nat.one_mul, Nat.sub_zero, beqT, beqF, ldOwn hs2, ir, t2]
  generalize h2.set di (.cells (D.set i (tearL f dl)).flatten) = h3 at S3 sm3 ⊢
  obtain ⟨ed3, en3, hs3⟩ := S3.hs
  have hlen : evalOp B .e h3 (.len (.c (pv P pi))) = some (.val (.int .i64 (.ofNat P.length)) h3) := by
    cases P <;> rfl
  simp -implicitDefEqProofs only [c10, a10_0b, a10_1b, a10_2b, a10_3b, a10_4b, a10_5b, a10_6b, a10_7b, a10_8b, a10_9b, a10_10b, a10_11b, a10_12b, a10_13b, a10_14b, a10_15b, a10_16b, a10_17b, a10_18b, a10_19b, a10_20b, a10_21b, a10_22b, a10_23b, a10_24b, a10_25b, WS_skip, WS_ops, WS_seq, WS_block, WS_cond, WS_exit, WS_ret, WB_true, WB_false, RS_nil, RS_seq, RS_seqE, RS_seqR, RS_blk, RS_blkE, RS_blkR, WP_nil, WP_cons, WP_guard, WG_true, WG_false, WX_val, WX_enter, KC_nil, getK_some, QC_normal, QC_ret, QL_normal, QL_exit, QL_ret, nbeq, ibeq, iltn, ilen, ite_true, ite_false, evalOp, wantedA, Opd.ev, evs, Env.get, Env.set, Env.get_set, List.cons.injEq, and_false, false_and, and_self, putE, cond, againOk, getAll, getRes, packed, eqOp, isNilV, scalarK, arithOp, unOpA, takeN, List.drop, true_and, and_true, reduceIte, reduceCtorEq, false_implies, forall_const, iLe_eq, iLt_eq, iEq_eq, decide_true, decide_false, Bool.not_true, Bool.not_false, Bool.true_and, Bool.and_true, Bool.false_and, Bool.and_false, beq_self_eq_true, imp_self, Bool.true_eq_false, Bool.false_eq_true, Nat.zero_add, Nat.add_zero, Nat.zero_mul, Nat.mul_one, Nat.one_mul, Nat.sub_zero, beqT, beqF, ldOwn hs3]
  change WX B G (evalOp B .e h3 (.len (.c (pv P pi)))) _ _ _ _ _ _ _
  rw [hlen]
  simp -implicitDefEqProofs only [c10, a10_0b, a10_1b, a10_2b, a10_3b, a10_4b, a10_5b, a10_6b, a10_7b, a10_8b, a10_9b, a10_10b, a10_11b, a10_12b, a10_13b, a10_14b, a10_15b, a10_16b, a10_17b, a10_18b, a10_19b, a10_20b, a10_21b, a10_22b, a10_23b, a10_24b, a10_25b, WS_skip, WS_ops, WS_seq, WS_block, WS_cond, WS_exit, WS_ret, WB_true, WB_false, RS_nil, RS_seq, RS_seqE, RS_seqR, RS_blk, RS_blkE, RS_blkR, WP_nil, WP_cons, WP_guard, WG_true, WG_false, WX_val, WX_enter, KC_nil, getK_some, QC_normal, QC_ret, QL_normal, QL_exit, QL_ret, nbeq, ibeq, iltn, ilen, ite_true, ite_false, evalOp, wantedA, Opd.ev, evs, Env.get, Env.set, Env.get_set, List.cons.injEq, and_false, false_and, and_self, putE, cond, againOk, getAll, getRes, packed, eqOp, isNilV, scalarK, arithOp, unOpA, takeN, List.drop, true_and, and_true, reduceIte, reduceCtorEq, false_implies, forall_const, iLe_eq, iLt_eq, iEq_eq, decide_true, decide_false, Bool.not_true, Bool.not_false, Bool.true_and, Bool.and_true, Bool.false_and, Bool.and_false, beq_self_eq_true, imp_self, Bool.true_eq_false, Bool.false_eq_true, Nat.zero_add, Nat.add_zero, Nat.zero_mul, Nat.mul_one, Nat.one_mul, Nat.sub_zero, beqT, beqF]
  refine WS_loop (k := P.length) (fun k env h' => ∃ j, k = P.length - j ∧ j ≤ P.length ∧ env.get [] = .ptr (.own s) 0 ∧ env.get [true] = .int .i64 (.ofNat i) ∧ env.get [false] = .int .i64 (.ofNat f) ∧ env.get [true, true, true, false, true] = .int .i64 (.ofNat P.length) ∧
    env.get [false, true, true, false, true] = .int .i64 (.ofNat j) ∧ ShelfAt h' s di ni pi (D.set i (tearL f dl)) (N.set i (tearL f nl)) (tornP i f j P) pw dn ∧ Same h h' (s :: di :: ni :: pf P pi)) ?_ ?_
  · refine ⟨0, by simp, by simp, rfl, rfl, rfl, rfl, rfl, ?_, sm3⟩
    simpa [tornP] using S3
  · rintro k env h1 ⟨j, rfl, hj, g0, gi, gf, g2, g3, S1, sm1⟩
    obtain ⟨ed1, en1, hs1⟩ := S1.hs
    by_cases hlt : j < P.length
    · have hd1 : decide (j < P.length) = true := by simpa using hlt
      have hne : P ≠ [] := by rintro rfl; simp at hlt
      have hne1 : tornP i f j P ≠ [] := fun e => by have := tornP_len i f j P; rw [e] at this; simp at this; omega
      have hpv : pv (tornP i f j P) pi = .slice (.own pi) 0 P.length P.length (some 65) := by
        have hl := tornP_len i f j P
        revert hl hne1
        cases tornP i f j P with
        | nil => intro h; exact absurd rfl h
        | cons x r => intro _ hl; simp only [pv, hl]
      have hPj : P[j]? = some P[j] := List.getElem?_eq_getElem hlt
      generalize P[j] = w at hPj
      have hTj : (tornP i f j P)[j]? = some w := by
        unfold tornP
        rw [List.getElem?_append_right (by simp; omega)]
        simp [hPj, Nat.min_eq_left (Nat.le_of_lt hlt)]
      obtain ⟨hw, hwD⟩ := S1.aP w (List.mem_of_getElem? hTj)
      have hp1 := (S1.hp hne1).1
      have ld : takeN 65 (((tornP i f j P).map wcells).flatten.drop (j * 65)) = some (.int .i64 (.ofNat w.1) :: w.2) :=
        flat_get (n := 65) (ls := (tornP i f j P).map wcells) (i := j) (l := wcells w) (wflat_len fun w hw => (S1.aP w hw).1) (by simp [hTj])
      have ld1 : takeN 1 (((tornP i f j P).map wcells).flatten.drop (j * 65)) = some [.int .i64 (.ofNat w.1)] := by
        have := (takeN_eq ld)
        rw [takeN_some (by omega)]
        have h2 := congrArg (List.take 1) this.1
        rw [List.take_take] at h2
        simpa using h2.symm
      have irj := inRange_ok hlt
      have hw1 : awrap .i64 (iAdd (.ofNat j) (.ofNat 1)) = .ofNat (j + 1) := by
        rw [awrap_eq, show iAdd (.ofNat j) (.ofNat 1) = ((j + 1 : Nat) : Int) from rfl]
        exact IntWalk.i64_in _ ⟨by omega, by omega⟩
      by_cases hwi : w.1 = i
      · have hd2 : decide (w.1 = i) = true := by simpa using hwi
        have stw : splice (wcells w) (1 + f) (timesL (64 - f) [z8]) = some (wcells (tearW i f w)) := by
          have := splice_tear hf hw
          rw [Nat.add_comm]
          simp only [wcells, tearW, hwi, if_true, splice, this]
        have spw := flat_splice (n := 65) (ls := (tornP i f j P).map wcells) (i := j) (o := 1 + f) (vs := timesL (64 - f) [z8]) (r := wcells (tearW i f w)) (wflat_len fun w hw => (S1.aP w hw).1) (by simp [hTj]) stw
        rw [← Nat.add_assoc, ← List.map_set] at spw
        have t3 := tear_is (B := B) hp1 hf spw
        simp -implicitDefEqProofs only [c10, a10_0b, a10_1b, a10_2b, a10_3b, a10_4b, a10_5b, a10_6b, a10_7b, a10_8b, a10_9b, a10_10b, a10_11b, a10_12b, a10_13b, a10_14b, a10_15b, a10_16b, a10_17b, a10_18b, a10_19b, a10_20b, a10_21b, a10_22b, a10_23b, a10_24b, a10_25b, WS_skip, WS_ops, WS_seq, WS_block, WS_cond, WS_exit, WS_ret, WB_true, WB_false, RS_nil, RS_seq, RS_seqE, RS_seqR, RS_blk, RS_blkE, RS_blkR, WP_nil, WP_cons, WP_guard, WG_true, WG_false, WX_val, WX_enter, KC_nil, getK_some, QC_normal, QC_ret, QL_normal, QL_exit, QL_ret, nbeq, ibeq, iltn, ilen, ite_true, ite_false, evalOp, wantedA, Opd.ev, evs, Env.get, Env.set, Env.get_set, List.cons.injEq, and_false, false_and, and_self, putE, cond, againOk, getAll, getRes, packed, eqOp, isNilV, scalarK, arithOp, unOpA, takeN, List.drop, true_and, and_true, reduceIte, reduceCtorEq, false_implies, forall_const, iLe_eq, iLt_eq, iEq_eq, decide_true, decide_false, Bool.not_true, Bool.not_false, Bool.true_and, Bool.and_true, Bool.false_and, Bool.and_false, beq_self_eq_true, imp_self, Bool.true_eq_false, Bool.false_eq_true, Nat.zero_add, Nat.add_zero, Nat.zero_mul, Nat.mul_one, Nat.one_mul, Nat.sub_zero, beqT, beqF, g0, gi, gf, g2, g3, hpv, hd1, irj, ldOwn hs1, ldOwn hp1, ld1, hd2, t3, hw1]
        have S4 := S1.setP (P' := (tornP i f j P).set j (tearW i f w)) (by simp) hne1 (fun x hx => by
          rcases List.mem_or_eq_of_mem_set hx with h1 | h1
          · exact S1.aP x h1
          · rw [h1, tearW, if_pos hwi]; exact ⟨tearL_len hf hw, hwD⟩)
        refine ⟨P.length - (j + 1), by omega, j + 1, rfl, by omega, rfl, ?_, Same.trans (F1 := s :: di :: ni :: pf P pi) sm1 (Same.set (by cases P with | nil => exact absurd rfl hne | cons p r => simp [pf])) fun j hj => .inl hj⟩
        rw [tornP_succ hPj]; exact S4
      · have hd2 : decide (w.1 = i) = false := by simpa using hwi
        simp -implicitDefEqProofs only [c10, a10_0b, a10_1b, a10_2b, a10_3b, a10_4b, a10_5b, a10_6b, a10_7b, a10_8b, a10_9b, a10_10b, a10_11b, a10_12b, a10_13b, a10_14b, a10_15b, a10_16b, a10_17b, a10_18b, a10_19b, a10_20b, a10_21b, a10_22b, a10_23b, a10_24b, a10_25b, WS_skip, WS_ops, WS_seq, WS_block, WS_cond, WS_exit, WS_ret, WB_true, WB_false, RS_nil, RS_seq, RS_seqE, RS_seqR, RS_blk, RS_blkE, RS_blkR, WP_nil, WP_cons, WP_guard, WG_true, WG_false, WX_val, WX_enter, KC_nil, getK_some, QC_normal, QC_ret, QL_normal, QL_exit, QL_ret, nbeq, ibeq, iltn, ilen, ite_true, ite_false, evalOp, wantedA, Opd.ev, evs, Env.get, Env.set, Env.get_set, List.cons.injEq, and_false, false_and, and_self, putE, cond, againOk, getAll, getRes, packed, eqOp, isNilV, scalarK, arithOp, unOpA, takeN, List.drop, true_and, and_true, reduceIte, reduceCtorEq, false_implies, forall_const, iLe_eq, iLt_eq, iEq_eq, decide_true, decide_false, Bool.not_true, Bool.not_false, Bool.true_and, Bool.and_true, Bool.false_and, Bool.and_false, beq_self_eq_true, imp_self, Bool.true_eq_false, Bool.false_eq_true, Nat.zero_add, Nat.add_zero, Nat.zero_mul, Nat.mul_one, Nat.one_mul, Nat.sub_zero, beqT, beqF, g0, gi, gf, g2, g3, hpv, hd1, irj, ldOwn hs1, ldOwn hp1, ld1, hd2, hw1]
        refine ⟨P.length - (j + 1), by omega, j + 1, rfl, by omega, rfl, ?_, sm1⟩
        have e1 : tornP i f (j + 1) P = tornP i f j P := by
          rw [tornP_succ hPj, tearW, if_neg hwi]
          apply List.ext_getElem?
          intro m
          by_cases hm : j = m
          · subst hm; rw [hTj, List.getElem?_set_self (List.getElem?_eq_some_iff.1 hTj).1]
          · rw [List.getElem?_set_ne hm]
        rw [e1]; exact S1
    · have hd1 : decide (j < P.length) = false := by simpa using hlt
      have hjj : j = P.length := by omega
      subst hjj
      simp -implicitDefEqProofs only [c10, a10_0b, a10_1b, a10_2b, a10_3b, a10_4b, a10_5b, a10_6b, a10_7b, a10_8b, a10_9b, a10_10b, a10_11b, a10_12b, a10_13b, a10_14b, a10_15b, a10_16b, a10_17b, a10_18b, a10_19b, a10_20b, a10_21b, a10_22b, a10_23b, a10_24b, a10_25b, WS_skip, WS_ops, WS_seq, WS_block, WS_cond, WS_exit, WS_ret, WB_true, WB_false, RS_nil, RS_seq, RS_seqE, RS_seqR, RS_blk, RS_blkE, RS_blkR, WP_nil, WP_cons, WP_guard, WG_true, WG_false, WX_val, WX_enter, KC_nil, getK_some, QC_normal, QC_ret, QL_normal, QL_exit, QL_ret, nbeq, ibeq, iltn, ilen, ite_true, ite_false, evalOp, wantedA, Opd.ev, evs, Env.get, Env.set, Env.get_set, List.cons.injEq, and_false, false_and, and_self, putE, cond, againOk, getAll, getRes, packed, eqOp, isNilV, scalarK, arithOp, unOpA, takeN, List.drop, true_and, and_true, reduceIte, reduceCtorEq, false_implies, forall_const, iLe_eq, iLt_eq, iEq_eq, decide_true, decide_false, Bool.not_true, Bool.not_false, Bool.true_and, Bool.and_true, Bool.false_and, Bool.and_false, beq_self_eq_true, imp_self, Bool.true_eq_false, Bool.false_eq_true, Nat.zero_add, Nat.add_zero, Nat.zero_mul, Nat.mul_one, Nat.one_mul, Nat.sub_zero, beqT, beqF, g0, gi, gf, g2, g3, hd1]
      refine hk h1 ?_ sm1
      simpa [tornP] using S1
end
end Go.Proofs.Ytohjmflbgohkhaa.E
