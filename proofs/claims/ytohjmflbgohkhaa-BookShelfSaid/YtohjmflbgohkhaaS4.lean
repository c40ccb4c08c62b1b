/- What Down, tear, the two clones and Read do. -/
import Derived.Test.YtohjmflbgohkhaaS3
namespace Go.Proofs.Ytohjmflbgohkhaa.E
set_option linter.all false
open Go

section
variable {B : Base} {h : AHeap} {s di ni pi : Nat} {D N : List (List AV)} {P : List (Nat × List AV)} {pw : Int} {dn : Bool}

theorem ShelfAt.keep {h' : AHeap} {F : List Nat} (S : ShelfAt h s di ni pi D N P pw dn) (sm : Same h h' F) (hF : s ∉ F ∧ di ∉ F ∧ ni ∉ F ∧ (P ≠ [] → pi ∉ F)) : ShelfAt h' s di ni pi D N P pw dn := by
  obtain ⟨ed, en, hs⟩ := S.hs
  exact ⟨⟨ed, en, sm.cells hs hF.1⟩, sm.cells S.hd hF.2.1, sm.cells S.hn hF.2.2.1, fun hne => ⟨sm.cells (S.hp hne).1 (hF.2.2.2 hne), (S.hp hne).2⟩, S.aD, S.aN, S.aP, S.len, S.big, S.sd, S.sn, S.dni⟩

theorem down_is (S : ShelfAt h s di ni pi D N P pw dn) : ∀ K : AV → AHeap → Prop, WC B G 12 [.ptr (.own s) 0] h K ↔ K (.bool dn) h := by
  obtain ⟨ed, en, hs⟩ := S.hs
  refine WC_iff fun K hk => WC_fun (af := a12) rfl rfl rfl ?_
  rw [args1]
  simp -implicitDefEqProofs only [c12, a12_0b, a12_1b, WS_skip, WS_ops, WS_seq, WS_block, WS_cond, WS_exit, WS_ret, WB_true, WB_false, RS_nil, RS_seq, RS_seqE, RS_seqR, RS_blk, RS_blkE, RS_blkR, WP_nil, WP_cons, WP_guard, WG_true, WG_false, WX_val, WX_enter, KC_nil, getK_some, QC_normal, QC_ret, QL_normal, QL_exit, QL_ret, nbeq, ibeq, iltn, ilen, ite_true, ite_false, evalOp, wantedA, Opd.ev, evs, Env.get, Env.set, Env.get_set, List.cons.injEq, and_false, false_and, and_self, putE, cond, againOk, getAll, getRes, packed, eqOp, isNilV, scalarK, arithOp, unOpA, takeN, List.drop, true_and, and_true, reduceIte, reduceCtorEq, false_implies, forall_const, iLe_eq, iLt_eq, iEq_eq, decide_true, decide_false, Bool.not_true, Bool.not_false, Bool.true_and, Bool.and_true, Bool.false_and, Bool.and_false, beq_self_eq_true, imp_self, Bool.true_eq_false, Bool.false_eq_true, Nat.zero_add, Nat.add_zero, Nat.zero_mul, Nat.mul_one, Nat.one_mul, Nat.sub_zero, beqT, beqF, ldOwn hs]
  simpa using hk

theorem upTo_ok {i n : Nat} (h : i ≤ n) : upTo (Int.ofNat i) n = some i := by
  have : Nat.ble i n = true := Nat.ble_eq_true_of_le h
  simp only [upTo, this, cond]

theorem tear_is {b o f : Nat} {C C' : List AV} (hc : hcells h b = some C) (hf : f ≤ 64) (hs : splice C (o + f) (timesL (64 - f) [z8]) = some C') :
    ∀ K : AV → AHeap → Prop, WC B G 21 [.ptr (.own b) o, .int .i64 (.ofNat f)] h K ↔ K (.tuple []) (h.set b (.cells C')) := by
  refine WC_iff fun K hk => WC_fun (af := a21) rfl rfl rfl ?_
  rw [args2]
  have hu := upTo_ok hf
  have hz : RL.out [(1, .int .u8 (.ofNat 0))] = [z8] := rfl
  simp -implicitDefEqProofs only [c21, a21_0b, WS_skip, WS_ops, WS_seq, WS_block, WS_cond, WS_exit, WS_ret, WB_true, WB_false, RS_nil, RS_seq, RS_seqE, RS_seqR, RS_blk, RS_blkE, RS_blkR, WP_nil, WP_cons, WP_guard, WG_true, WG_false, WX_val, WX_enter, KC_nil, getK_some, QC_normal, QC_ret, QL_normal, QL_exit, QL_ret, nbeq, ibeq, iltn, ilen, ite_true, ite_false, evalOp, wantedA, Opd.ev, evs, Env.get, Env.set, Env.get_set, List.cons.injEq, and_false, false_and, and_self, putE, cond, againOk, getAll, getRes, packed, eqOp, isNilV, scalarK, arithOp, unOpA, takeN, List.drop, true_and, and_true, reduceIte, reduceCtorEq, false_implies, forall_const, iLe_eq, iLt_eq, iEq_eq, decide_true, decide_false, Bool.not_true, Bool.not_false, Bool.true_and, Bool.and_true, Bool.false_and, Bool.and_false, beq_self_eq_true, imp_self, Bool.true_eq_false, Bool.false_eq_true, Nat.zero_add, Nat.add_zero, Nat.zero_mul, Nat.mul_one, Nat.one_mul, Nat.sub_zero, beqT, beqF, bounds, bound, boundV, hiD, hu, hz, stOwn hc, hs]
  exact hk

theorem timesZ : ∀ n, timesL n [z8] = List.replicate n z8
  | 0 => rfl
  | n + 1 => by simp [timesL, timesZ n, List.replicate_succ]

theorem cloneL_is {di L : Nat} {ed} {C : List AV} (hc : hcells h di = some C) (hl : C.length = L * 64) (h0 : 0 < L) (hb : L < 100000000) :
    ∀ K : AV → AHeap → Prop, WC B G 20 [.slice (.own di) 0 L L ed] h K ↔ K (.slice (.own (h.length + 1)) 0 L L (some 64)) (h ++ [.cells []] ++ [.cells C]) := by
  refine WC_iff fun K hk => WC_fun (af := a20) rfl rfl rfl ?_
  rw [args1]
  have h1 : hcells (h ++ [.cells []]) h.length = some [] := hc_new
  have h2 : hcells (h ++ [.cells []]) di = some C := hc_app hc
  have h3 : takeN (L * 64) C = some C := by rw [takeN_some (by omega), ← hl, List.take_length]
  have h4 : Nat.ble L 0 = false := by cases L with | zero => omega | succ n => rfl
  have h5 : roomy (L * 64) = true := by unfold roomy; exact Nat.ble_eq_true_of_le (by omega)
  have h6 : (h ++ [AObj.cells []]).length = h.length + 1 := by simp
  simp -implicitDefEqProofs only [c20, a20_0b, a20_1b, a20_2b, a20_3b, a20_4b, a20_5b, WS_skip, WS_ops, WS_seq, WS_block, WS_cond, WS_exit, WS_ret, WB_true, WB_false, RS_nil, RS_seq, RS_seqE, RS_seqR, RS_blk, RS_blkE, RS_blkR, WP_nil, WP_cons, WP_guard, WG_true, WG_false, WX_val, WX_enter, KC_nil, getK_some, QC_normal, QC_ret, QL_normal, QL_exit, QL_ret, nbeq, ibeq, iltn, ilen, ite_true, ite_false, evalOp, wantedA, Opd.ev, evs, Env.get, Env.set, Env.get_set, List.cons.injEq, and_false, false_and, and_self, putE, cond, againOk, getAll, getRes, packed, eqOp, isNilV, scalarK, arithOp, unOpA, takeN, List.drop, true_and, and_true, reduceIte, reduceCtorEq, false_implies, forall_const, iLe_eq, iLt_eq, iEq_eq, decide_true, decide_false, Bool.not_true, Bool.not_false, Bool.true_and, Bool.and_true, Bool.false_and, Bool.and_false, beq_self_eq_true, imp_self, Bool.true_eq_false, Bool.false_eq_true, Nat.zero_add, Nat.add_zero, Nat.zero_mul, Nat.mul_one, Nat.one_mul, Nat.sub_zero, beqT, beqF, fillL, timesL, appendOp, srcCells, ldOwn h1, ldOwn h2, h3, h4, h5, h6, List.nil_append]
  exact hk

theorem cloneB_is {ni o : Nat} {C l : List AV} (hc : hcells h ni = some C) (hl : takeN 64 (C.drop o) = some l) :
    ∀ K : AV → AHeap → Prop, WC B G 22 [.slice (.own ni) o 64 64 none] h K ↔ K (.slice (.own (h.length + 1)) 0 64 64 (some 1)) (h ++ [.cells []] ++ [.cells l]) := by
  refine WC_iff fun K hk => WC_fun (af := a22) rfl rfl rfl ?_
  rw [args1]
  have h1 : hcells (h ++ [.cells []]) h.length = some [] := hc_new
  have h2 : hcells (h ++ [.cells []]) ni = some C := hc_app hc
  have h4 : Nat.ble 64 0 = false := rfl
  have h5 : roomy 64 = true := by decide
  have h6 : (h ++ [AObj.cells []]).length = h.length + 1 := by simp
  simp -implicitDefEqProofs only [c22, a22_0b, a22_1b, a22_2b, a22_3b, a22_4b, a22_5b, WS_skip, WS_ops, WS_seq, WS_block, WS_cond, WS_exit, WS_ret, WB_true, WB_false, RS_nil, RS_seq, RS_seqE, RS_seqR, RS_blk, RS_blkE, RS_blkR, WP_nil, WP_cons, WP_guard, WG_true, WG_false, WX_val, WX_enter, KC_nil, getK_some, QC_normal, QC_ret, QL_normal, QL_exit, QL_ret, nbeq, ibeq, iltn, ilen, ite_true, ite_false, evalOp, wantedA, Opd.ev, evs, Env.get, Env.set, Env.get_set, List.cons.injEq, and_false, false_and, and_self, putE, cond, againOk, getAll, getRes, packed, eqOp, isNilV, scalarK, arithOp, unOpA, takeN, List.drop, true_and, and_true, reduceIte, reduceCtorEq, false_implies, forall_const, iLe_eq, iLt_eq, iEq_eq, decide_true, decide_false, Bool.not_true, Bool.not_false, Bool.true_and, Bool.and_true, Bool.false_and, Bool.and_false, beq_self_eq_true, imp_self, Bool.true_eq_false, Bool.false_eq_true, Nat.zero_add, Nat.add_zero, Nat.zero_mul, Nat.mul_one, Nat.one_mul, Nat.sub_zero, beqT, beqF, fillL, timesL, appendOp, srcCells, ldOwn h1, ldOwn h2, hl, h4, h5, h6, List.nil_append]
  exact hk

theorem read_ok (S : ShelfAt h s di ni pi D N P pw false) {i : Nat} (hi : i < D.length) {l : List AV} (hl : N[i]? = some l) {K : AV → AHeap → Prop}
    (hk : K (.tuple [.slice (.own (h.length + 1)) 0 64 64 (some 1), .int .i64 (.ofNat 0)]) (h ++ [.cells []] ++ [.cells l])) : WC B G 11 [.ptr (.own s) 0, .int .i64 (.ofNat i)] h K := by
  obtain ⟨ed, en, hs⟩ := S.hs
  refine WC_fun (af := a11) rfl rfl rfl ?_
  rw [args2]
  have e00 : decide (0 ≤ Int.ofNat i) = true := by simp
  have e01 : decide (i < D.length) = true := by simpa using hi
  have hD : D.length < 1000000000 := by have := S.big; omega
  have ir := inRange_ok hi
  have ht := flat_get (n := 64) (ls := N) (i := i) (l := l) S.aN hl
  have hcl := cloneB_is (B := B) (o := i * 64) (l := l) S.hn ht
  simp -implicitDefEqProofs only [c11, a11_0b, a11_1b, a11_2b, a11_3b, a11_4b, a11_5b, a11_6b, a11_7b, a11_8b, a11_9b, a11_10b, WS_skip, WS_ops, WS_seq, WS_block, WS_cond, WS_exit, WS_ret, WB_true, WB_false, RS_nil, RS_seq, RS_seqE, RS_seqR, RS_blk, RS_blkE, RS_blkR, WP_nil, WP_cons, WP_guard, WG_true, WG_false, WX_val, WX_enter, KC_nil, getK_some, QC_normal, QC_ret, QL_normal, QL_exit, QL_ret, nbeq, ibeq, iltn, ilen, ite_true, ite_false, evalOp, wantedA, Opd.ev, evs, Env.get, Env.set, Env.get_set, List.cons.injEq, and_false, false_and, and_self, putE, cond, againOk, getAll, getRes, packed, eqOp, isNilV, scalarK, arithOp, unOpA, takeN, List.drop, true_and, and_true, reduceIte, reduceCtorEq, false_implies, forall_const, iLe_eq, iLt_eq, iEq_eq, decide_true, decide_false, Bool.not_true, Bool.not_false, Bool.true_and, Bool.and_true, Bool.false_and, Bool.and_false, beq_self_eq_true, imp_self, Bool.true_eq_false, Bool.false_eq_true, Nat.zero_add, Nat.add_zero, Nat.zero_mul, Nat.mul_one, Nat.one_mul, Nat.sub_zero, beqT, beqF, state_is hs, has_is hs hD, e00, e01, ldOwn hs, ir, bounds, bound, hiD, hcl]
  exact hk

end
end Go.Proofs.Ytohjmflbgohkhaa.E
