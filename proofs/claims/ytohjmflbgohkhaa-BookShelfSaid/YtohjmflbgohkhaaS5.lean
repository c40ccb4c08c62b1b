/- What Press does. -/
import Derived.Test.YtohjmflbgohkhaaS4
namespace Go.Proofs.Ytohjmflbgohkhaa.E
set_option linter.all false
open Go

def laid (D : List (List AV)) (P : List (Nat × List AV)) : List (List AV) := P.foldl (fun D w => D.set w.1 w.2) D

theorem laid_len (P : List (Nat × List AV)) : ∀ D : List (List AV), (laid D P).length = D.length := by
  induction P with
  | nil => intro D; rfl
  | cons w P ih => intro D; show (laid (D.set w.1 w.2) P).length = _; rw [ih]; simp
theorem laid_snoc (D : List (List AV)) (P : List (Nat × List AV)) (w) : laid D (P ++ [w]) = (laid D P).set w.1 w.2 := by simp [laid]

section
variable {B : Base} {h : AHeap} {s di ni pi : Nat} {D N : List (List AV)} {P : List (Nat × List AV)} {pw : Int} {dn : Bool}

theorem ShelfAt.setD (S : ShelfAt h s di ni pi D N P pw dn) {D' : List (List AV)} (hl : D'.length = D.length) (aD : AllLen 64 D') : ShelfAt (h.set di (.cells D'.flatten)) s di ni pi D' N P pw dn := by
  obtain ⟨ed, en, hs⟩ := S.hs
  refine ⟨⟨ed, en, ?_⟩, hc_set S.hd, by rw [hc_set_ne S.dni]; exact S.hn, fun hne => ?_, aD, S.aN, fun w hw => ?_, by rw [hl]; exact S.len, by rw [hl]; exact S.big, S.sd, S.sn, S.dni⟩
  · rw [hc_set_ne S.sd.symm, hl]; exact hs
  · obtain ⟨g1, g2, g3, g4⟩ := S.hp hne
    exact ⟨by rw [hc_set_ne g3]; exact g1, g2, g3, g4⟩
  · rw [hl]; exact S.aP w hw

set_option maxHeartbeats 1000000 in
theorem press_ok (S : ShelfAt h s di ni pi D N P pw false) (hpw : pw ≠ 0) (hr : -1 ≤ pw ∧ pw < 2 ^ 63) (hP : P.length < 1000000) {K : AV → AHeap → Prop}
    (hk : ∀ h', ShelfAt h' s di ni pi (laid D P) N [] (if 0 < pw then pw - 1 else pw) false → Same h h' [s, di] → K (.int .i64 (.ofNat 0)) h') : WC B G 8 [.ptr (.own s) 0] h K := by
  obtain ⟨ed, en, hs⟩ := S.hs
  refine WC_fun (af := a8) rfl rfl rfl ?_
  rw [args1]
  simp -implicitDefEqProofs only [c8, a8_0b, a8_1b, a8_2b, a8_3b, a8_4b, a8_5b, a8_6b, a8_7b, a8_8b, a8_9b, a8_10b, a8_11b, a8_12b, a8_13b, a8_14b, a8_15b, a8_16b, a8_17b, a8_18b, a8_19b, a8_20b, a8_21b, a8_22b, a8_23b, a8_24b, WS_skip, WS_ops, WS_seq, WS_block, WS_cond, WS_exit, WS_ret, WB_true, WB_false, RS_nil, RS_seq, RS_seqE, RS_seqR, RS_blk, RS_blkE, RS_blkR, WP_nil, WP_cons, WP_guard, WG_true, WG_false, WX_val, WX_enter, KC_nil, getK_some, QC_normal, QC_ret, QL_normal, QL_exit, QL_ret, nbeq, ibeq, iltn, ilen, ite_true, ite_false, evalOp, wantedA, Opd.ev, evs, Env.get, Env.set, Env.get_set, List.cons.injEq, and_false, false_and, and_self, putE, cond, againOk, getAll, getRes, packed, eqOp, isNilV, scalarK, arithOp, unOpA, takeN, List.drop, true_and, and_true, reduceIte, reduceCtorEq, false_implies, forall_const, iLe_eq, iLt_eq, iEq_eq, decide_true, decide_false, Bool.not_true, Bool.not_false, Bool.true_and, Bool.and_true, Bool.false_and, Bool.and_false, beq_self_eq_true, imp_self, Bool.true_eq_false, Bool.false_eq_true, Nat.zero_add, Nat.add_zero, Nat.zero_mul, Nat.mul_one, Nat.one_mul, Nat.sub_zero, beqT, beqF, state_is hs]
  refine use_ok S hpw hr fun h0 S0 hsm hl0 => ?_
  obtain ⟨ed0, en0, hs0⟩ := S0.hs
  have hlen : evalOp B .e h0 (.len (.c (pv P pi))) = some (.val (.int .i64 (.ofNat P.length)) h0) := by
    cases P <;> rfl
  simp -implicitDefEqProofs only [c8, a8_0b, a8_1b, a8_2b, a8_3b, a8_4b, a8_5b, a8_6b, a8_7b, a8_8b, a8_9b, a8_10b, a8_11b, a8_12b, a8_13b, a8_14b, a8_15b, a8_16b, a8_17b, a8_18b, a8_19b, a8_20b, a8_21b, a8_22b, a8_23b, a8_24b, WS_skip, WS_ops, WS_seq, WS_block, WS_cond, WS_exit, WS_ret, WB_true, WB_false, RS_nil, RS_seq, RS_seqE, RS_seqR, RS_blk, RS_blkE, RS_blkR, WP_nil, WP_cons, WP_guard, WG_true, WG_false, WX_val, WX_enter, KC_nil, getK_some, QC_normal, QC_ret, QL_normal, QL_exit, QL_ret, nbeq, ibeq, iltn, ilen, ite_true, ite_false, evalOp, wantedA, Opd.ev, evs, Env.get, Env.set, Env.get_set, List.cons.injEq, and_false, false_and, and_self, putE, cond, againOk, getAll, getRes, packed, eqOp, isNilV, scalarK, arithOp, unOpA, takeN, List.drop, true_and, and_true, reduceIte, reduceCtorEq, false_implies, forall_const, iLe_eq, iLt_eq, iEq_eq, decide_true, decide_false, Bool.not_true, Bool.not_false, Bool.true_and, Bool.and_true, Bool.false_and, Bool.and_false, beq_self_eq_true, imp_self, Bool.true_eq_false, Bool.false_eq_true, Nat.zero_add, Nat.add_zero, Nat.zero_mul, Nat.mul_one, Nat.one_mul, Nat.sub_zero, beqT, beqF, ldOwn hs0]
  change WX B G (evalOp B .e h0 (.len (.c (pv P pi)))) _ _ _ _ _ _ _
  rw [hlen]
  simp -implicitDefEqProofs only [c8, a8_0b, a8_1b, a8_2b, a8_3b, a8_4b, a8_5b, a8_6b, a8_7b, a8_8b, a8_9b, a8_10b, a8_11b, a8_12b, a8_13b, a8_14b, a8_15b, a8_16b, a8_17b, a8_18b, a8_19b, a8_20b, a8_21b, a8_22b, a8_23b, a8_24b, WS_skip, WS_ops, WS_seq, WS_block, WS_cond, WS_exit, WS_ret, WB_true, WB_false, RS_nil, RS_seq, RS_seqE, RS_seqR, RS_blk, RS_blkE, RS_blkR, WP_nil, WP_cons, WP_guard, WG_true, WG_false, WX_val, WX_enter, KC_nil, getK_some, QC_normal, QC_ret, QL_normal, QL_exit, QL_ret, nbeq, ibeq, iltn, ilen, ite_true, ite_false, evalOp, wantedA, Opd.ev, evs, Env.get, Env.set, Env.get_set, List.cons.injEq, and_false, false_and, and_self, putE, cond, againOk, getAll, getRes, packed, eqOp, isNilV, scalarK, arithOp, unOpA, takeN, List.drop, true_and, and_true, reduceIte, reduceCtorEq, false_implies, forall_const, iLe_eq, iLt_eq, iEq_eq, decide_true, decide_false, Bool.not_true, Bool.not_false, Bool.true_and, Bool.and_true, Bool.false_and, Bool.and_false, beq_self_eq_true, imp_self, Bool.true_eq_false, Bool.false_eq_true, Nat.zero_add, Nat.add_zero, Nat.zero_mul, Nat.mul_one, Nat.one_mul, Nat.sub_zero, beqT, beqF]
  refine WS_loop (k := P.length) (fun k env h' => ∃ j, k = P.length - j ∧ j ≤ P.length ∧ env.get [] = .ptr (.own s) 0 ∧ env.get [false, true, false, true] = pv P pi ∧ env.get [true, false, false, true] = .int .i64 (.ofNat P.length) ∧
    env.get [false, false, false, true] = .int .i64 (.ofNat j) ∧ ShelfAt h' s di ni pi (laid D (P.take j)) N P (if 0 < pw then pw - 1 else pw) false ∧ Same h h' [s, di]) ?_ ?_
  · refine ⟨0, by simp, by simp, rfl, rfl, rfl, rfl, ?_, ⟨hsm.1, fun j hj hn => hsm.2 j hj fun hm => hn (by simp at hm; simp [hm])⟩⟩
    simpa [laid] using S0
  · rintro k env h1 ⟨j, rfl, hj, g0, g1, g2, g3, S1, sm1⟩
    obtain ⟨ed1, en1, hs1⟩ := S1.hs
    by_cases hlt : j < P.length
    · have hd1 : decide (j < P.length) = true := by simpa using hlt
      have hne : P ≠ [] := by rintro rfl; simp at hlt
      have hpv : pv P pi = .slice (.own pi) 0 P.length P.length (some 65) := by cases P <;> simp [pv] at hne ⊢
      have hPj : P[j]? = some P[j] := List.getElem?_eq_getElem hlt
      generalize P[j] = w at hPj
      obtain ⟨hw, hwD⟩ := S1.aP w (List.mem_of_getElem? hPj)
      have hp1 := (S1.hp hne).1
      have ld : takeN 65 ((P.map wcells).flatten.drop (j * 65)) = some (.int .i64 (.ofNat w.1) :: w.2) :=
        flat_get (n := 65) (ls := P.map wcells) (i := j) (l := wcells w) (wflat_len fun w hw => (S1.aP w hw).1) (by simp [hPj])
      have irj := inRange_ok hlt
      have sw : splice (.int .i64 (.ofNat 0) :: zs) 0 (.int .i64 (.ofNat w.1) :: w.2) = some (.int .i64 (.ofNat w.1) :: w.2) := splice_all (by simp [hw, zs_len])
      have hx2 : hcells (h1 ++ [.cells (.int .i64 (.ofNat 0) :: zs)]) h1.length = _ := hc_new
      simp -implicitDefEqProofs only [c8, a8_0b, a8_1b, a8_2b, a8_3b, a8_4b, a8_5b, a8_6b, a8_7b, a8_8b, a8_9b, a8_10b, a8_11b, a8_12b, a8_13b, a8_14b, a8_15b, a8_16b, a8_17b, a8_18b, a8_19b, a8_20b, a8_21b, a8_22b, a8_23b, a8_24b, WS_skip, WS_ops, WS_seq, WS_block, WS_cond, WS_exit, WS_ret, WB_true, WB_false, RS_nil, RS_seq, RS_seqE, RS_seqR, RS_blk, RS_blkE, RS_blkR, WP_nil, WP_cons, WP_guard, WG_true, WG_false, WX_val, WX_enter, KC_nil, getK_some, QC_normal, QC_ret, QL_normal, QL_exit, QL_ret, nbeq, ibeq, iltn, ilen, ite_true, ite_false, evalOp, wantedA, Opd.ev, evs, Env.get, Env.set, Env.get_set, List.cons.injEq, and_false, false_and, and_self, putE, cond, againOk, getAll, getRes, packed, eqOp, isNilV, scalarK, arithOp, unOpA, takeN, List.drop, true_and, and_true, reduceIte, reduceCtorEq, false_implies, forall_const, iLe_eq, iLt_eq, iEq_eq, decide_true, decide_false, Bool.not_true, Bool.not_false, Bool.true_and, Bool.and_true, Bool.false_and, Bool.and_false, beq_self_eq_true, imp_self, Bool.true_eq_false, Bool.false_eq_true, Nat.zero_add, Nat.add_zero, Nat.zero_mul, Nat.mul_one, Nat.one_mul, Nat.sub_zero, beqT, beqF, g0, g1, hpv, g2, g3, hd1, irj, ldOwn hp1, ld, outW, AV.cellsOk, List.length_cons, hw, Nat.reduceAdd, stOwn hx2, sw]
      generalize hh3 : (h1 ++ [AObj.cells (.int .i64 (.ofNat 0) :: zs)]).set h1.length (.cells (.int .i64 (.ofNat w.1) :: w.2)) = h3
      have hx3 : hcells h3 h1.length = _ := hh3 ▸ hc_set (d := .int .i64 (.ofNat w.1) :: w.2) hc_new
      have sm3 : Same h1 h3 [h1.length] := by rw [← hh3]; exact Same.trans (F1 := [h1.length]) (Same.app _ _ _) (Same.set (by simp)) fun j hj => .inl hj
      have hl3 : h1.length ≤ h3.length := sm3.1
      have b1 := hc_lt hs1
      have b2 := hc_lt S1.hd
      have b3 := hc_lt S1.hn
      have b4 := hc_lt hp1
      have S3 := S1.keep sm3 ⟨by simp; omega, by simp; omega, by simp; omega, fun _ => by simp; omega⟩
      clear hh3
      obtain ⟨ed3, en3, hs3⟩ := S3.hs
      have hDl : (laid D (P.take j)).length = D.length := laid_len _ _
      have irw := inRange_ok (show w.1 < (laid D (P.take j)).length from hwD)
      have t64 : takeN 64 w.2 = some w.2 := by rw [takeN_some (by omega), ← hw, List.take_length]
      have hget : (laid D (P.take j))[w.1]? = some (laid D (P.take j))[w.1] := List.getElem?_eq_getElem hwD
      have sd := flat_splice (n := 64) (ls := laid D (P.take j)) (i := w.1) (o := 0) (vs := w.2) (r := w.2) S1.aD hget (splice_all (by rw [hw]; exact S1.aD _ (List.getElem_mem hwD)))
      rw [Nat.add_zero] at sd
      have hw1 : awrap .i64 (iAdd (.ofNat j) (.ofNat 1)) = .ofNat (j + 1) := by
        rw [awrap_eq, show iAdd (.ofNat j) (.ofNat 1) = ((j + 1 : Nat) : Int) from rfl]
        exact IntWalk.i64_in _ ⟨by omega, by omega⟩
      simp -implicitDefEqProofs only [c8, a8_0b, a8_1b, a8_2b, a8_3b, a8_4b, a8_5b, a8_6b, a8_7b, a8_8b, a8_9b, a8_10b, a8_11b, a8_12b, a8_13b, a8_14b, a8_15b, a8_16b, a8_17b, a8_18b, a8_19b, a8_20b, a8_21b, a8_22b, a8_23b, a8_24b, WS_skip, WS_ops, WS_seq, WS_block, WS_cond, WS_exit, WS_ret, WB_true, WB_false, RS_nil, RS_seq, RS_seqE, RS_seqR, RS_blk, RS_blkE, RS_blkR, WP_nil, WP_cons, WP_guard, WG_true, WG_false, WX_val, WX_enter, KC_nil, getK_some, QC_normal, QC_ret, QL_normal, QL_exit, QL_ret, nbeq, ibeq, iltn, ilen, ite_true, ite_false, evalOp, wantedA, Opd.ev, evs, Env.get, Env.set, Env.get_set, List.cons.injEq, and_false, false_and, and_self, putE, cond, againOk, getAll, getRes, packed, eqOp, isNilV, scalarK, arithOp, unOpA, takeN, List.drop, true_and, and_true, reduceIte, reduceCtorEq, false_implies, forall_const, iLe_eq, iLt_eq, iEq_eq, decide_true, decide_false, Bool.not_true, Bool.not_false, Bool.true_and, Bool.and_true, Bool.false_and, Bool.and_false, beq_self_eq_true, imp_self, Bool.true_eq_false, Bool.false_eq_true, Nat.zero_add, Nat.add_zero, Nat.zero_mul, Nat.mul_one, Nat.one_mul, Nat.sub_zero, beqT, beqF, g0, g1, g2, g3, ldOwn hs3, ldOwn hx3, irw, t64, AV.cellsOk, hw, stOwn S3.hd, sd, hw1]
      have e1 : P.take (j + 1) = P.take j ++ [w] := by rw [List.take_succ, hPj]; rfl
      have e2 : laid D (P.take (j + 1)) = (laid D (P.take j)).set w.1 w.2 := by rw [e1, laid_snoc]
      refine ⟨P.length - (j + 1), by omega, j + 1, rfl, by omega, hpv, rfl, ?_, ?_⟩
      · rw [e2]; exact S3.setD (by simp) (S1.aD.set hw)
      · refine Same.trans (F1 := [s, di]) (Same.trans (F1 := [h1.length]) sm1 sm3 fun j hj => .inr ?_) (Same.set (by simp)) fun j hj => .inl hj
        have := sm1.1
        simp at hj; omega
    · have hd1 : decide (j < P.length) = false := by simpa using hlt
      have hjj : j = P.length := by omega
      subst hjj
      simp -implicitDefEqProofs only [c8, a8_0b, a8_1b, a8_2b, a8_3b, a8_4b, a8_5b, a8_6b, a8_7b, a8_8b, a8_9b, a8_10b, a8_11b, a8_12b, a8_13b, a8_14b, a8_15b, a8_16b, a8_17b, a8_18b, a8_19b, a8_20b, a8_21b, a8_22b, a8_23b, a8_24b, WS_skip, WS_ops, WS_seq, WS_block, WS_cond, WS_exit, WS_ret, WB_true, WB_false, RS_nil, RS_seq, RS_seqE, RS_seqR, RS_blk, RS_blkE, RS_blkR, WP_nil, WP_cons, WP_guard, WG_true, WG_false, WX_val, WX_enter, KC_nil, getK_some, QC_normal, QC_ret, QL_normal, QL_exit, QL_ret, nbeq, ibeq, iltn, ilen, ite_true, ite_false, evalOp, wantedA, Opd.ev, evs, Env.get, Env.set, Env.get_set, List.cons.injEq, and_false, false_and, and_self, putE, cond, againOk, getAll, getRes, packed, eqOp, isNilV, scalarK, arithOp, unOpA, takeN, List.drop, true_and, and_true, reduceIte, reduceCtorEq, false_implies, forall_const, iLe_eq, iLt_eq, iEq_eq, decide_true, decide_false, Bool.not_true, Bool.not_false, Bool.true_and, Bool.and_true, Bool.false_and, Bool.and_false, beq_self_eq_true, imp_self, Bool.true_eq_false, Bool.false_eq_true, Nat.zero_add, Nat.add_zero, Nat.zero_mul, Nat.mul_one, Nat.one_mul, Nat.sub_zero, beqT, beqF, g0, g1, g2, g3, hd1, AV.cellsOk, List.length_cons, List.length_nil, Nat.reduceAdd, stOwn hs1, splice]
      rw [List.take_length] at S1 hs1
      have S2 := S1.put (pw' := if 0 < pw then pw - 1 else pw) (dn' := false) (ed := ed1) (en := en1) (.inl rfl)
      rw [List.take_length] at *
      exact hk _ S2 (Same.trans (F1 := [s, di]) sm1 (Same.set (by simp)) fun j hj => .inl hj)
end
end Go.Proofs.Ytohjmflbgohkhaa.E
