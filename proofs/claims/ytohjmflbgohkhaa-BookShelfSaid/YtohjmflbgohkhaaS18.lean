/- The model's Crash. -/
import Derived.Test.YtohjmflbgohkhaaS17
namespace Go.Proofs.Ytohjmflbgohkhaa.E
set_option linter.all false
open Go

def crash1N (ks : List Int) (D : List (List Nat)) (i : Nat) (w : Nat × List Nat) : List (List Nat) := D.set w.1 (w.2.take (keepN ks i) ++ (D.getD w.1 []).drop (keepN ks i))
def crashedN (ks : List Int) : Nat → List (Nat × List Nat) → List (List Nat) → List (List Nat)
  | _, [], D => D
  | i, w :: r, D => crashedN ks (i + 1) r (crash1N ks D i w)
theorem crashedN_len (ks : List Int) : ∀ (P : List (Nat × List Nat)) (i : Nat) (D : List (List Nat)), (crashedN ks i P D).length = D.length
  | [], _, _ => rfl
  | w :: r, i, D => by simp [crashedN, crashedN_len ks r, crash1N]
theorem crashedN_snoc (ks : List Int) : ∀ (P : List (Nat × List Nat)) (i : Nat) (D : List (List Nat)) (w), crashedN ks i (P ++ [w]) D = crash1N ks (crashedN ks i P D) (i + P.length) w
  | [], i, D, w => rfl
  | x :: r, i, D, w => by
    simp only [List.cons_append, crashedN, crashedN_snoc ks r, List.length_cons]
    rw [show i + 1 + r.length = i + (r.length + 1) by omega]

theorem ints_len {B : Base} {h : AHeap} {kv : AV} {ks : List Int} (hk : Ints B h kv ks) : lenR kv h = some (.val (.int .i64 (.ofNat ks.length)) h) := by
  rcases hk with ⟨rfl, rfl⟩ | ⟨b, o, c, e, rfl, -⟩ <;> rfl
theorem ints_idx {B : Base} {h : AHeap} {kv : AV} {ks : List Int} (hk : Ints B h kv ks) {j : Nat} {k : Int} (hj : ks[j]? = some k) :
    ∃ b o, idxSR 1 kv (.int .i64 (.ofNat j)) h = some (.val (.ptr b o) h) ∧ loadN B h b o 1 = some [.int .i64 k] := by
  rcases hk with ⟨rfl, rfl⟩ | ⟨b, o, c, e, rfl, hl⟩
  · simp at hj
  · have hlt := (List.getElem?_eq_some_iff.1 hj).1
    exact ⟨b, o + j * 1, by rw [r_idxS, inRange_ok hlt, r_ptr], by rw [Nat.mul_one]; exact hl j k hj⟩
theorem keepN_eq {ks : List Int} {j : Nat} {k : Int} (hj : ks[j]? = some k) : imin (imax k (.ofNat 0)) (.ofNat 64) = .ofNat (keepN ks j) := by
  unfold imin imax keepN
  rw [hj, iLt_eq, iLt_eq]
  simp only [Bool.cond_decide]
  show _ = (((min (max k 0) 64).toNat : Nat) : Int)
  have e5 : (Int.ofNat 0) = 0 := rfl
  have e6 : (Int.ofNat 64) = 64 := rfl
  rw [e5, e6]
  split <;> split <;> omega

section
variable {B : Base} {h : AHeap} {m dd q : Nat} {DS : List (List Nat)} {PS : List (Nat × List Nat)} {pw : Int} {dn : Bool}

set_option maxHeartbeats 1000000 in
theorem mcrash_ok (M : ModAt h m dd q DS PS pw dn) (hP : PS.length < 1000000) {kv : AV} {ks : List Int} (hks : ∀ h', Ints B h' kv ks) (hkl : ks.length < 1000000000) {K : AV → AHeap → Prop}
    (hk : ∀ h', ModAt h' m dd q (crashedN ks 0 PS DS) [] (-1) false → Same h h' [m, dd] → K (.tuple []) h') : WC B G 29 [.ptr (.own m) 0, kv] h K := by
  refine WC_fun (af := a29) rfl rfl rfl ?_
  rw [args2]
  simp -implicitDefEqProofs only [c29, a29_0b, a29_1b, a29_2b, a29_3b, a29_4b, a29_5b, a29_6b, a29_7b, a29_8b, a29_9b, a29_10b, a29_11b, a29_12b, a29_13b, a29_14b, a29_15b, a29_16b, a29_17b, a29_18b, a29_19b, WS_skip, WS_ops, WS_seq, WS_block, WS_cond, WS_exit, WS_ret, WB_true, WB_false, RS_nil, RS_seq, RS_seqE, RS_seqR, RS_blk, RS_blkE, RS_blkR, WP_nil, WP_cons, WP_guard, WG_true, WG_false, WX_val, WX_enter, KC_nil, getK_some, QC_normal, QC_ret, QL_normal, QL_exit, QL_ret, nbeq, ibeq, iltn, ilen, ite_true, ite_false, EV, ER, fill_nil, fill_cons, fillK_some, fillJ_some, CK, KC_cons, again_nil, again_cons, again_guard, againW_T, againW_F, againR_val, AV.same_refl, wantedA, Opd.ev, evs, Env.get, Env.set, Env.get_set, List.cons.injEq, and_false, false_and, and_self, putE, cond, getAll, getRes, packed, eqOp, isNilV, scalarK, arithOp, unOpA, takeN, List.drop, true_and, and_true, reduceIte, reduceCtorEq, false_implies, forall_const, iLe_eq, iLt_eq, iEq_eq, decide_true, decide_false, Bool.not_true, Bool.not_false, Bool.true_and, Bool.and_true, Bool.false_and, Bool.and_false, beq_self_eq_true, imp_self, Bool.true_eq_false, Bool.false_eq_true, Nat.zero_add, Nat.add_zero, Nat.zero_mul, Nat.mul_one, Nat.one_mul, Nat.sub_zero, beqT, beqF]
  refine WS_loop (k := PS.length) (fun k env h' => ∃ j, k = PS.length - j ∧ j ≤ PS.length ∧ ModAt h' m dd q (crashedN ks 0 (PS.take j) DS) PS pw dn ∧ Same h h' [dd] ∧ env.get [] = .ptr (.own m) 0 ∧ env.get [true] = kv ∧ env.get [false, true] = .int .i64 (.ofNat j)) ?_ ?_
  · exact ⟨0, rfl, by omega, by simpa [crashedN] using M, .refl _ _, by simp [Env.get]⟩
  · rintro k env h' ⟨j, rfl, hj, M2, sm2, e0, e1, e4⟩
    have hm2 := M2.hm
    rw [pq_lv] at hm2
    have tl := ints_len (hks h')
    by_cases hlt : j < PS.length
    · have d4 : decide (j < PS.length) = true := decide_eq_true hlt
      obtain ⟨w, hw⟩ : ∃ w, PS[j]? = some w := ⟨_, List.getElem?_eq_getElem hlt⟩
      have hts : PS.take (j + 1) = PS.take j ++ [w] := by rw [List.take_succ, hw]; rfl
      have ea := inc_ok (j := j) (by omega)
      have hwm := M2.aP w (List.mem_of_getElem? hw)
      have iw := inRange_ok hwm.2
      have o1 : RL.out [(1, .int .i64 (.ofNat 0)), (1, .str [])] = [.int .i64 (.ofNat 0), .str []] := rfl
      have hkn := keepN_le ks j
      have un := upTo_ok hkn
      obtain ⟨t, ht⟩ : ∃ t, (crashedN ks 0 (PS.take j) DS)[w.1]? = some t := ⟨_, List.getElem?_eq_getElem hwm.2⟩
      have htl := M2.aD t (List.mem_of_getElem? ht)
      have key : ∀ env1 : Env, env1.get [] = .ptr (.own m) 0 → env1.get [true] = kv → env1.get [false, true] = .int .i64 (.ofNat j) → env1.get [true, false] = .int .i64 (.ofNat (keepN ks j)) →
          WS B G a29_14b [.blk 1, .seq a29_16] env1 h' (QL B G (fun k env h' => ∃ j, k = PS.length - j ∧ j ≤ PS.length ∧ ModAt h' m dd q (crashedN ks 0 (PS.take j) DS) PS pw dn ∧ Same h h' [dd] ∧ env.get [] = .ptr (.own m) 0 ∧ env.get [true] = kv ∧ env.get [false, true] = .int .i64 (.ofNat j)) (PS.length - j) [.blk 0, .seq a29_17] (QC B a29 K)) := by
        intro env1 e0 e1 e4 e5
        have hq := (M2.hp (by rintro rfl; simp at hlt)).1
        obtain ⟨p1, p2, p3⟩ := puts_one hw hq B
        have li := lv_idx (es := 2) (q := q) hlt h'
        have hx : hcells (h' ++ [.cells [.int .i64 (.ofNat 0), .str []]]) h'.length = some _ := hc_new
        simp -implicitDefEqProofs only [c29, a29_0b, a29_1b, a29_2b, a29_3b, a29_4b, a29_5b, a29_6b, a29_7b, a29_8b, a29_9b, a29_10b, a29_11b, a29_12b, a29_13b, a29_14b, a29_16b, a29_17b, a29_18b, a29_19b, WS_skip, WS_ops, WS_seq, WS_block, WS_cond, WS_exit, WS_ret, WB_true, WB_false, RS_nil, RS_seq, RS_seqE, RS_seqR, RS_blk, RS_blkE, RS_blkR, WP_nil, WP_cons, WP_guard, WG_true, WG_false, WX_val, WX_enter, KC_nil, getK_some, QC_normal, QC_ret, QL_normal, QL_exit, QL_ret, nbeq, ibeq, iltn, ilen, ite_true, ite_false, EV, ER, fill_nil, fill_cons, fillK_some, fillJ_some, CK, KC_cons, again_nil, again_cons, again_guard, againW_T, againW_F, againR_val, AV.same_refl, wantedA, Opd.ev, evs, Env.get, Env.set, Env.get_set, List.cons.injEq, and_false, false_and, and_self, putE, cond, getAll, getRes, packed, eqOp, isNilV, scalarK, arithOp, unOpA, takeN, List.drop, true_and, and_true, reduceIte, reduceCtorEq, false_implies, forall_const, iLe_eq, iLt_eq, iEq_eq, decide_true, decide_false, Bool.not_true, Bool.not_false, Bool.true_and, Bool.and_true, Bool.false_and, Bool.and_false, beq_self_eq_true, imp_self, Bool.true_eq_false, Bool.false_eq_true, Nat.zero_add, Nat.add_zero, Nat.zero_mul, Nat.mul_one, Nat.one_mul, Nat.sub_zero, beqT, beqF, e0, e4, ldOwn hm2, takeN, li, p3, o1, stOwn hx, splice, List.length_cons, List.length_nil, Nat.reduceAdd]
        generalize hh3 : (h' ++ [AObj.cells [.int .i64 (.ofNat 0), .str []]]).set h'.length (.cells [.int .i64 (.ofNat w.1), .str w.2]) = h3
        have hx3 : hcells h3 h'.length = some [.int .i64 (.ofNat w.1), .str w.2] := hh3 ▸ hc_set hc_new
        have sm3 : Same h' h3 [] := by
          rw [← hh3]; exact Same.trans (F1 := [h'.length]) (Same.app _ _ _) (Same.set (by simp)) fun j hj => .inr (by simp at hj; omega)
        have M3 := M2.keep sm3 (by simp)
        have hm3 := M3.hm
        rw [pq_lv] at hm3
        have s1 := strs_one ht M3.hd B
        have ss := strs_set hwm.2 (w.2.take (keepN ks j) ++ t.drop (keepN ks j))
        have up : upTo (.ofNat (keepN ks j)) w.2.length = some (keepN ks j) := by rw [hwm.1]; exact un
        have ut : upTo (.ofNat (keepN ks j)) t.length = some (keepN ks j) := by rw [htl]; exact un
        have b1 : (w.2.take (keepN ks j)).length + (t.drop (keepN ks j)).length = 64 := by simp [hwm.1, htl]; omega
        have b2 : Nat.blt 64 1000000000000000000 = true := rfl
        have tk : (t.drop (keepN ks j)).take (t.length - keepN ks j) = t.drop (keepN ks j) := List.take_of_length_le (by simp)
        simp -implicitDefEqProofs only [c29, a29_0b, a29_1b, a29_2b, a29_3b, a29_4b, a29_5b, a29_6b, a29_7b, a29_8b, a29_9b, a29_10b, a29_11b, a29_12b, a29_13b, a29_14b, a29_15b, a29_16b, a29_17b, a29_18b, a29_19b, WS_skip, WS_ops, WS_seq, WS_block, WS_cond, WS_exit, WS_ret, WB_true, WB_false, RS_nil, RS_seq, RS_seqE, RS_seqR, RS_blk, RS_blkE, RS_blkR, WP_nil, WP_cons, WP_guard, WG_true, WG_false, WX_val, WX_enter, KC_nil, getK_some, QC_normal, QC_ret, QL_normal, QL_exit, QL_ret, nbeq, ibeq, iltn, ilen, ite_true, ite_false, EV, ER, fill_nil, fill_cons, fillK_some, fillJ_some, CK, KC_cons, again_nil, again_cons, again_guard, againW_T, againW_F, againR_val, AV.same_refl, wantedA, Opd.ev, evs, Env.get, Env.set, Env.get_set, List.cons.injEq, and_false, false_and, and_self, putE, cond, getAll, getRes, packed, eqOp, isNilV, scalarK, arithOp, unOpA, takeN, List.drop, true_and, and_true, reduceIte, reduceCtorEq, false_implies, forall_const, iLe_eq, iLt_eq, iEq_eq, decide_true, decide_false, Bool.not_true, Bool.not_false, Bool.true_and, Bool.and_true, Bool.false_and, Bool.and_false, beq_self_eq_true, imp_self, Bool.true_eq_false, Bool.false_eq_true, Nat.zero_add, Nat.add_zero, Nat.zero_mul, Nat.mul_one, Nat.one_mul, Nat.sub_zero, beqT, beqF, e0, e4, e5, ldOwn hm3, ldOwn hx3, takeN, bounds, bound, boundV, hiD, up, ut, iw, s1, List.drop_zero, tk, b1, b2, stOwn M3.hd, ss, splice, List.length_cons, List.length_nil, ea, QL_normal, cond]
        refine ⟨PS.length - (j + 1), by omega, j + 1, rfl, by omega, ?_, ?_, by simp [Env.get_set, e0, e1]⟩
        · have e2 : crashedN ks 0 (PS.take (j + 1)) DS = (crashedN ks 0 (PS.take j) DS).set w.1 (w.2.take (keepN ks j) ++ t.drop (keepN ks j)) := by
            rw [hts, crashedN_snoc, crash1N, List.length_take, show 0 + min j PS.length = j by omega, List.getD_eq_getElem?_getD, ht]; rfl
          rw [e2]
          refine M3.setD (by simp) fun u hu => ?_
          rcases List.mem_or_eq_of_mem_set hu with h1 | h1
          · exact M2.aD u h1
          · rw [h1]; simp [hwm.1, htl]; omega
        · exact Same.trans (F1 := [dd]) (Same.trans (F1 := []) sm2 sm3 (by simp)) (.set (by simp)) fun i hi => .inl hi
      by_cases hjk : j < ks.length
      · have d5 : decide (j < ks.length) = true := decide_eq_true hjk
        have hkj : ks[j]? = some ks[j] := List.getElem?_eq_getElem hjk
        obtain ⟨b, o, x1, x2⟩ := ints_idx (hks h') hkj
        have hkk := keepN_eq hkj
        simp -implicitDefEqProofs only [c29, a29_0b, a29_1b, a29_2b, a29_3b, a29_4b, a29_5b, a29_6b, a29_7b, a29_8b, a29_9b, a29_10b, a29_11b, a29_12b, a29_13b, a29_15b, a29_16b, a29_17b, a29_18b, a29_19b, WS_skip, WS_ops, WS_seq, WS_block, WS_cond, WS_exit, WS_ret, WB_true, WB_false, RS_nil, RS_seq, RS_seqE, RS_seqR, RS_blk, RS_blkE, RS_blkR, WP_nil, WP_cons, WP_guard, WG_true, WG_false, WX_val, WX_enter, KC_nil, getK_some, QC_normal, QC_ret, QL_normal, QL_exit, QL_ret, nbeq, ibeq, iltn, ilen, ite_true, ite_false, EV, ER, fill_nil, fill_cons, fillK_some, fillJ_some, CK, KC_cons, again_nil, again_cons, again_guard, againW_T, againW_F, againR_val, AV.same_refl, wantedA, Opd.ev, evs, Env.get, Env.set, Env.get_set, List.cons.injEq, and_false, false_and, and_self, putE, cond, getAll, getRes, packed, eqOp, isNilV, scalarK, arithOp, unOpA, takeN, List.drop, true_and, and_true, reduceIte, reduceCtorEq, false_implies, forall_const, iLe_eq, iLt_eq, iEq_eq, decide_true, decide_false, Bool.not_true, Bool.not_false, Bool.true_and, Bool.and_true, Bool.false_and, Bool.and_false, beq_self_eq_true, imp_self, Bool.true_eq_false, Bool.false_eq_true, Nat.zero_add, Nat.add_zero, Nat.zero_mul, Nat.mul_one, Nat.one_mul, Nat.sub_zero, beqT, beqF, e0, e1, e4, ldOwn hm2, takeN, lv_len, d4, tl, d5, x1, x2, foldMM, hkk]
        exact key _ (by simp [Env.get_set, e0]) (by simp [Env.get_set, e1]) (by simp [Env.get_set, e4]) (by simp [Env.get_set])
      · have d5 : decide (j < ks.length) = false := decide_eq_false hjk
        have k0 : keepN ks j = 0 := by
          unfold keepN
          rw [List.getElem?_eq_none (by omega)]
        simp -implicitDefEqProofs only [c29, a29_0b, a29_1b, a29_2b, a29_3b, a29_4b, a29_5b, a29_6b, a29_7b, a29_8b, a29_9b, a29_10b, a29_11b, a29_12b, a29_13b, a29_15b, a29_16b, a29_17b, a29_18b, a29_19b, WS_skip, WS_ops, WS_seq, WS_block, WS_cond, WS_exit, WS_ret, WB_true, WB_false, RS_nil, RS_seq, RS_seqE, RS_seqR, RS_blk, RS_blkE, RS_blkR, WP_nil, WP_cons, WP_guard, WG_true, WG_false, WX_val, WX_enter, KC_nil, getK_some, QC_normal, QC_ret, QL_normal, QL_exit, QL_ret, nbeq, ibeq, iltn, ilen, ite_true, ite_false, EV, ER, fill_nil, fill_cons, fillK_some, fillJ_some, CK, KC_cons, again_nil, again_cons, again_guard, againW_T, againW_F, againR_val, AV.same_refl, wantedA, Opd.ev, evs, Env.get, Env.set, Env.get_set, List.cons.injEq, and_false, false_and, and_self, putE, cond, getAll, getRes, packed, eqOp, isNilV, scalarK, arithOp, unOpA, takeN, List.drop, true_and, and_true, reduceIte, reduceCtorEq, false_implies, forall_const, iLe_eq, iLt_eq, iEq_eq, decide_true, decide_false, Bool.not_true, Bool.not_false, Bool.true_and, Bool.and_true, Bool.false_and, Bool.and_false, beq_self_eq_true, imp_self, Bool.true_eq_false, Bool.false_eq_true, Nat.zero_add, Nat.add_zero, Nat.zero_mul, Nat.mul_one, Nat.one_mul, Nat.sub_zero, beqT, beqF, e0, e1, e4, ldOwn hm2, takeN, lv_len, d4, tl, d5]
        exact key _ (by simp [Env.get_set, e0]) (by simp [Env.get_set, e1]) (by simp [Env.get_set, e4]) (by simp [Env.get_set, k0])
    · have d4 : decide (j < PS.length) = false := decide_eq_false hlt
      have hj' : j = PS.length := by omega
      subst hj'
      rw [List.take_length] at M2 hm2
      have M3 := M2.put (pw' := -1) (dn' := false) (PS' := []) (.inl rfl)
      simp -implicitDefEqProofs only [c29, a29_0b, a29_1b, a29_2b, a29_3b, a29_4b, a29_5b, a29_6b, a29_7b, a29_8b, a29_9b, a29_10b, a29_11b, a29_12b, a29_13b, a29_14b, a29_15b, a29_16b, a29_17b, a29_18b, a29_19b, WS_skip, WS_ops, WS_seq, WS_block, WS_cond, WS_exit, WS_ret, WB_true, WB_false, RS_nil, RS_seq, RS_seqE, RS_seqR, RS_blk, RS_blkE, RS_blkR, WP_nil, WP_cons, WP_guard, WG_true, WG_false, WX_val, WX_enter, KC_nil, getK_some, QC_normal, QC_ret, QL_normal, QL_exit, QL_ret, nbeq, ibeq, iltn, ilen, ite_true, ite_false, EV, ER, fill_nil, fill_cons, fillK_some, fillJ_some, CK, KC_cons, again_nil, again_cons, again_guard, againW_T, againW_F, againR_val, AV.same_refl, wantedA, Opd.ev, evs, Env.get, Env.set, Env.get_set, List.cons.injEq, and_false, false_and, and_self, putE, cond, getAll, getRes, packed, eqOp, isNilV, scalarK, arithOp, unOpA, takeN, List.drop, true_and, and_true, reduceIte, reduceCtorEq, false_implies, forall_const, iLe_eq, iLt_eq, iEq_eq, decide_true, decide_false, Bool.not_true, Bool.not_false, Bool.true_and, Bool.and_true, Bool.false_and, Bool.and_false, beq_self_eq_true, imp_self, Bool.true_eq_false, Bool.false_eq_true, Nat.zero_add, Nat.add_zero, Nat.zero_mul, Nat.mul_one, Nat.one_mul, Nat.sub_zero, beqT, beqF, e0, e4, ldOwn hm2, stOwn hm2, (fun d => stOwn (hc_set (d := d) hm2)), takeN, lv_len, d4, QL_exit, splice, List.length_cons, List.length_nil, List.set_set]
      exact hk _ M3 (Same.trans (F1 := [m]) (Same.trans (F1 := [dd]) (.refl _ _) sm2 fun i hi => .inl (by simp at hi; simp [hi])) (.set (by simp)) fun i hi => .inl (by simp at hi; simp [hi]))
end

def tearS (f : Nat) (s : List Nat) : List Nat := padN (s.take f)
def tearN (i f : Nat) (w : Nat × List Nat) : Nat × List Nat := if w.1 = i then (w.1, tearS f w.2) else w
def tornN (i f j : Nat) (PS : List (Nat × List Nat)) : List (Nat × List Nat) := (PS.take j).map (tearN i f) ++ PS.drop j
theorem tornN_len (i f j : Nat) (PS : List (Nat × List Nat)) : (tornN i f j PS).length = PS.length := by simp [tornN]; omega
theorem tearS_len {f : Nat} {s : List Nat} (hf : f ≤ 64) : (tearS f s).length = 64 := padN_len (by simp; omega)
theorem tornN_get {i f j : Nat} {PS : List (Nat × List Nat)} {w} (hw : PS[j]? = some w) : (tornN i f j PS)[j]? = some w := by
  have hlt := (List.getElem?_eq_some_iff.1 hw).1
  unfold tornN
  rw [List.getElem?_append_right (by simp; omega)]
  simp [hw, Nat.min_eq_left (Nat.le_of_lt hlt)]
theorem tornN_succ {i f j : Nat} {PS : List (Nat × List Nat)} {w} (hw : PS[j]? = some w) : tornN i f (j + 1) PS = (tornN i f j PS).set j (tearN i f w) := by
  obtain ⟨hlt, he⟩ := List.getElem?_eq_some_iff.1 hw
  have e1 : PS.take (j + 1) = PS.take j ++ [w] := by rw [List.take_succ, hw]; rfl
  have e2 : PS.drop j = w :: PS.drop (j + 1) := by rw [List.drop_eq_getElem_cons hlt, he]
  have hl : ((PS.take j).map (tearN i f)).length = j := by simp; omega
  unfold tornN
  rw [e1, e2, List.map_append, List.set_append_right _ _ (by omega), hl]
  simp
theorem puts_set {PS : List (Nat × List Nat)} {j : Nat} {w} (hw : PS[j]? = some w) (t : List Nat) : splice (puts PS) (j * 2 + 1) [.str t] = some (puts (PS.set j (w.1, t))) := by
  unfold puts
  have : AllLen 2 (PS.map fun w => [AV.int .i64 (.ofNat w.1), .str w.2]) := by
    intro l hl
    obtain ⟨w, -, rfl⟩ := List.mem_map.1 hl
    rfl
  rw [flat_splice (n := 2) (ls := PS.map fun w => [AV.int .i64 (.ofNat w.1), .str w.2]) (i := j) (l := [.int .i64 (.ofNat w.1), .str w.2]) (o := 1) (vs := [.str t]) (r := [.int .i64 (.ofNat w.1), .str t]) this (by simp [hw]) rfl, List.map_set]

section
variable {B : Base} {h : AHeap} {m dd q : Nat} {DS : List (List Nat)} {PS : List (Nat × List Nat)} {pw : Int} {dn : Bool}

theorem ModAt.setP (M : ModAt h m dd q DS PS pw dn) {PS' : List (Nat × List Nat)} (hl : PS'.length = PS.length) (hne : PS ≠ []) (aP : ∀ w ∈ PS', w.2.length = 64 ∧ w.1 < DS.length) :
    ModAt (h.set q (.cells (puts PS'))) m dd q DS PS' pw dn := by
  obtain ⟨h1, h2, h3⟩ := M.hp hne
  refine ⟨by rw [hc_set_ne h2.symm, M.hm, pq_lv, pq_lv, hl], by rw [hc_set_ne h3.symm]; exact M.hd, fun _ => ⟨hc_set h1, h2, h3⟩, M.aD, aP, M.big, M.ne⟩

theorem mtear_arg (M : ModAt h m dd q DS PS pw dn) {i f : Int} (hif : ¬ (0 ≤ i ∧ i < Int.ofNat DS.length ∧ 0 ≤ f ∧ f ≤ 64)) : ∀ K : AV → AHeap → Prop, WC B G 30 [.ptr (.own m) 0, .int .i64 i, .int .i64 f] h K ↔ K (.int .i64 (.ofNat 1)) h := by
  refine WC_iff fun K hk => WC_fun (af := a30) rfl rfl rfl ?_
  rw [args3]
  have hm := M.hm
  have z : Int.ofNat 0 = 0 := rfl
  have z2 : Int.ofNat 64 = 64 := rfl
  by_cases h0 : i < 0
  · have d1 : decide (i < Int.ofNat 0) = true := decide_eq_true h0
    simp -implicitDefEqProofs only [c30, a30_0b, a30_1b, a30_2b, a30_3b, a30_4b, a30_5b, a30_6b, a30_7b, a30_8b, a30_9b, a30_10b, a30_11b, a30_12b, a30_13b, a30_14b, a30_15b, a30_16b, a30_17b, a30_18b, a30_19b, WS_skip, WS_ops, WS_seq, WS_block, WS_cond, WS_exit, WS_ret, WB_true, WB_false, RS_nil, RS_seq, RS_seqE, RS_seqR, RS_blk, RS_blkE, RS_blkR, WP_nil, WP_cons, WP_guard, WG_true, WG_false, WX_val, WX_enter, KC_nil, getK_some, QC_normal, QC_ret, QL_normal, QL_exit, QL_ret, nbeq, ibeq, iltn, ilen, ite_true, ite_false, EV, ER, fill_nil, fill_cons, fillK_some, fillJ_some, CK, KC_cons, again_nil, again_cons, again_guard, againW_T, againW_F, againR_val, AV.same_refl, wantedA, Opd.ev, evs, Env.get, Env.set, Env.get_set, List.cons.injEq, and_false, false_and, and_self, putE, cond, getAll, getRes, packed, eqOp, isNilV, scalarK, arithOp, unOpA, takeN, List.drop, true_and, and_true, reduceIte, reduceCtorEq, false_implies, forall_const, iLe_eq, iLt_eq, iEq_eq, decide_true, decide_false, Bool.not_true, Bool.not_false, Bool.true_and, Bool.and_true, Bool.false_and, Bool.and_false, beq_self_eq_true, imp_self, Bool.true_eq_false, Bool.false_eq_true, Nat.zero_add, Nat.add_zero, Nat.zero_mul, Nat.mul_one, Nat.one_mul, Nat.sub_zero, beqT, beqF, ldOwn hm, takeN, d1]
    exact hk
  have d1 : decide (i < Int.ofNat 0) = false := decide_eq_false h0
  by_cases h1 : Int.ofNat DS.length ≤ i
  · have d2 : decide (Int.ofNat DS.length ≤ i) = true := decide_eq_true h1
    simp -implicitDefEqProofs only [c30, a30_0b, a30_1b, a30_2b, a30_3b, a30_4b, a30_5b, a30_6b, a30_7b, a30_8b, a30_9b, a30_10b, a30_11b, a30_12b, a30_13b, a30_14b, a30_15b, a30_16b, a30_17b, a30_18b, a30_19b, WS_skip, WS_ops, WS_seq, WS_block, WS_cond, WS_exit, WS_ret, WB_true, WB_false, RS_nil, RS_seq, RS_seqE, RS_seqR, RS_blk, RS_blkE, RS_blkR, WP_nil, WP_cons, WP_guard, WG_true, WG_false, WX_val, WX_enter, KC_nil, getK_some, QC_normal, QC_ret, QL_normal, QL_exit, QL_ret, nbeq, ibeq, iltn, ilen, ite_true, ite_false, EV, ER, fill_nil, fill_cons, fillK_some, fillJ_some, CK, KC_cons, again_nil, again_cons, again_guard, againW_T, againW_F, againR_val, AV.same_refl, wantedA, Opd.ev, evs, Env.get, Env.set, Env.get_set, List.cons.injEq, and_false, false_and, and_self, putE, cond, getAll, getRes, packed, eqOp, isNilV, scalarK, arithOp, unOpA, takeN, List.drop, true_and, and_true, reduceIte, reduceCtorEq, false_implies, forall_const, iLe_eq, iLt_eq, iEq_eq, decide_true, decide_false, Bool.not_true, Bool.not_false, Bool.true_and, Bool.and_true, Bool.false_and, Bool.and_false, beq_self_eq_true, imp_self, Bool.true_eq_false, Bool.false_eq_true, Nat.zero_add, Nat.add_zero, Nat.zero_mul, Nat.mul_one, Nat.one_mul, Nat.sub_zero, beqT, beqF, ldOwn hm, takeN, d1, d2]
    exact hk
  have d2 : decide (Int.ofNat DS.length ≤ i) = false := decide_eq_false h1
  by_cases h2 : f < 0
  · have d3 : decide (f < Int.ofNat 0) = true := decide_eq_true h2
    simp -implicitDefEqProofs only [c30, a30_0b, a30_1b, a30_2b, a30_3b, a30_4b, a30_5b, a30_6b, a30_7b, a30_8b, a30_9b, a30_10b, a30_11b, a30_12b, a30_13b, a30_14b, a30_15b, a30_16b, a30_17b, a30_18b, a30_19b, WS_skip, WS_ops, WS_seq, WS_block, WS_cond, WS_exit, WS_ret, WB_true, WB_false, RS_nil, RS_seq, RS_seqE, RS_seqR, RS_blk, RS_blkE, RS_blkR, WP_nil, WP_cons, WP_guard, WG_true, WG_false, WX_val, WX_enter, KC_nil, getK_some, QC_normal, QC_ret, QL_normal, QL_exit, QL_ret, nbeq, ibeq, iltn, ilen, ite_true, ite_false, EV, ER, fill_nil, fill_cons, fillK_some, fillJ_some, CK, KC_cons, again_nil, again_cons, again_guard, againW_T, againW_F, againR_val, AV.same_refl, wantedA, Opd.ev, evs, Env.get, Env.set, Env.get_set, List.cons.injEq, and_false, false_and, and_self, putE, cond, getAll, getRes, packed, eqOp, isNilV, scalarK, arithOp, unOpA, takeN, List.drop, true_and, and_true, reduceIte, reduceCtorEq, false_implies, forall_const, iLe_eq, iLt_eq, iEq_eq, decide_true, decide_false, Bool.not_true, Bool.not_false, Bool.true_and, Bool.and_true, Bool.false_and, Bool.and_false, beq_self_eq_true, imp_self, Bool.true_eq_false, Bool.false_eq_true, Nat.zero_add, Nat.add_zero, Nat.zero_mul, Nat.mul_one, Nat.one_mul, Nat.sub_zero, beqT, beqF, ldOwn hm, takeN, d1, d2, d3]
    exact hk
  have d3 : decide (f < Int.ofNat 0) = false := decide_eq_false h2
  have d4 : decide (Int.ofNat 64 < f) = true := decide_eq_true (by omega)
  simp -implicitDefEqProofs only [c30, a30_0b, a30_1b, a30_2b, a30_3b, a30_4b, a30_5b, a30_6b, a30_7b, a30_8b, a30_9b, a30_10b, a30_11b, a30_12b, a30_13b, a30_14b, a30_15b, a30_16b, a30_17b, a30_18b, a30_19b, WS_skip, WS_ops, WS_seq, WS_block, WS_cond, WS_exit, WS_ret, WB_true, WB_false, RS_nil, RS_seq, RS_seqE, RS_seqR, RS_blk, RS_blkE, RS_blkR, WP_nil, WP_cons, WP_guard, WG_true, WG_false, WX_val, WX_enter, KC_nil, getK_some, QC_normal, QC_ret, QL_normal, QL_exit, QL_ret, nbeq, ibeq, iltn, ilen, ite_true, ite_false, EV, ER, fill_nil, fill_cons, fillK_some, fillJ_some, CK, KC_cons, again_nil, again_cons, again_guard, againW_T, againW_F, againR_val, AV.same_refl, wantedA, Opd.ev, evs, Env.get, Env.set, Env.get_set, List.cons.injEq, and_false, false_and, and_self, putE, cond, getAll, getRes, packed, eqOp, isNilV, scalarK, arithOp, unOpA, takeN, List.drop, true_and, and_true, reduceIte, reduceCtorEq, false_implies, forall_const, iLe_eq, iLt_eq, iEq_eq, decide_true, decide_false, Bool.not_true, Bool.not_false, Bool.true_and, Bool.and_true, Bool.false_and, Bool.and_false, beq_self_eq_true, imp_self, Bool.true_eq_false, Bool.false_eq_true, Nat.zero_add, Nat.add_zero, Nat.zero_mul, Nat.mul_one, Nat.one_mul, Nat.sub_zero, beqT, beqF, ldOwn hm, takeN, d1, d2, d3, d4]
  exact hk

set_option maxHeartbeats 1000000 in
theorem mtear_ok (M : ModAt h m dd q DS PS pw dn) (hP : PS.length < 1000000) {i f : Nat} {s : List Nat} (hs : DS[i]? = some s) (hf : f ≤ 64) {K : AV → AHeap → Prop}
    (hk : ∀ h', ModAt h' m dd q (DS.set i (tearS f s)) (PS.map (tearN i f)) pw dn → Same h h' (m :: dd :: qf PS q) → K (.int .i64 (.ofNat 0)) h') : WC B G 30 [.ptr (.own m) 0, .int .i64 (.ofNat i), .int .i64 (.ofNat f)] h K := by
  refine WC_fun (af := a30) rfl rfl rfl ?_
  rw [args3]
  have hm := M.hm
  have hi : i < DS.length := (List.getElem?_eq_some_iff.1 hs).1
  have d1 : decide (i < 0) = false := decide_eq_false (by omega)
  have d2 : decide (DS.length ≤ i) = false := decide_eq_false (by omega)
  have d3 : decide (f < 0) = false := decide_eq_false (by omega)
  have d4 : decide (64 < f) = false := decide_eq_false (by omega)
  have ir := inRange_ok hi
  have hsl := M.aD s (List.mem_of_getElem? hs)
  have us : upTo (.ofNat f) s.length = some f := by rw [hsl]; exact upTo_ok hf
  have hpd := padded_is (B := B) (h := h) (s := s.take f) (by simp; omega)
  have s1 := strs_one hs M.hd B
  have ss := strs_set hi (tearS f s)
  have ag : AV.same (.slice (.own dd) 0 DS.length DS.length (some 1)) (.slice (.own dd) 0 DS.length DS.length (some 1)) = true := AV.same_refl _
  simp -implicitDefEqProofs only [c30, a30_0b, a30_1b, a30_2b, a30_3b, a30_4b, a30_5b, a30_6b, a30_7b, a30_8b, a30_9b, a30_10b, a30_11b, a30_12b, a30_13b, a30_14b, a30_15b, a30_16b, a30_17b, a30_18b, a30_19b, WS_skip, WS_ops, WS_seq, WS_block, WS_cond, WS_exit, WS_ret, WB_true, WB_false, RS_nil, RS_seq, RS_seqE, RS_seqR, RS_blk, RS_blkE, RS_blkR, WP_nil, WP_cons, WP_guard, WG_true, WG_false, WX_val, WX_enter, KC_nil, getK_some, QC_normal, QC_ret, QL_normal, QL_exit, QL_ret, nbeq, ibeq, iltn, ilen, ite_true, ite_false, EV, ER, fill_nil, fill_cons, fillK_some, fillJ_some, CK, KC_cons, again_nil, again_cons, again_guard, againW_T, againW_F, againR_val, AV.same_refl, wantedA, Opd.ev, evs, Env.get, Env.set, Env.get_set, List.cons.injEq, and_false, false_and, and_self, putE, cond, getAll, getRes, packed, eqOp, isNilV, scalarK, arithOp, unOpA, takeN, List.drop, true_and, and_true, reduceIte, reduceCtorEq, false_implies, forall_const, iLe_eq, iLt_eq, iEq_eq, decide_true, decide_false, Bool.not_true, Bool.not_false, Bool.true_and, Bool.and_true, Bool.false_and, Bool.and_false, beq_self_eq_true, imp_self, Bool.true_eq_false, Bool.false_eq_true, Nat.zero_add, Nat.add_zero, Nat.zero_mul, Nat.mul_one, Nat.one_mul, Nat.sub_zero, beqT, beqF, ldOwn hm, takeN, d1, d2, d3, d4, ir, s1, bounds, bound, boundV, hiD, us, List.drop_zero, Nat.sub_zero, hpd]
  have hte : padN (s.take f) = tearS f s := rfl
  simp -implicitDefEqProofs only [c30, a30_0b, a30_1b, a30_2b, a30_3b, a30_4b, a30_5b, a30_6b, a30_7b, a30_8b, a30_9b, a30_10b, a30_11b, a30_12b, a30_13b, a30_14b, a30_15b, a30_16b, a30_17b, a30_18b, a30_19b, WS_skip, WS_ops, WS_seq, WS_block, WS_cond, WS_exit, WS_ret, WB_true, WB_false, RS_nil, RS_seq, RS_seqE, RS_seqR, RS_blk, RS_blkE, RS_blkR, WP_nil, WP_cons, WP_guard, WG_true, WG_false, WX_val, WX_enter, KC_nil, getK_some, QC_normal, QC_ret, QL_normal, QL_exit, QL_ret, nbeq, ibeq, iltn, ilen, ite_true, ite_false, EV, ER, fill_nil, fill_cons, fillK_some, fillJ_some, CK, KC_cons, again_nil, again_cons, again_guard, againW_T, againW_F, againR_val, AV.same_refl, wantedA, Opd.ev, evs, Env.get, Env.set, Env.get_set, List.cons.injEq, and_false, false_and, and_self, putE, cond, getAll, getRes, packed, eqOp, isNilV, scalarK, arithOp, unOpA, takeN, List.drop, true_and, and_true, reduceIte, reduceCtorEq, false_implies, forall_const, iLe_eq, iLt_eq, iEq_eq, decide_true, decide_false, Bool.not_true, Bool.not_false, Bool.true_and, Bool.and_true, Bool.false_and, Bool.and_false, beq_self_eq_true, imp_self, Bool.true_eq_false, Bool.false_eq_true, Nat.zero_add, Nat.add_zero, Nat.zero_mul, Nat.mul_one, Nat.one_mul, Nat.sub_zero, beqT, beqF, ir, stOwn M.hd, hte, ss, List.length_cons, List.length_nil]
  have M1 := M.setD (DS' := DS.set i (tearS f s)) (by simp) (fun t ht => by
    rcases List.mem_or_eq_of_mem_set ht with h1 | h1
    · exact M.aD t h1
    · rw [h1]; exact tearS_len hf)
  have sm1 : Same h (h.set dd (.cells ((DS.set i (tearS f s)).map AV.str))) [dd] := .set (by simp)
  generalize h.set dd (.cells ((DS.set i (tearS f s)).map AV.str)) = h1 at M1 sm1
  refine WS_loop (k := PS.length) (fun k env h' => ∃ j, k = PS.length - j ∧ j ≤ PS.length ∧ ModAt h' m dd q (DS.set i (tearS f s)) (tornN i f j PS) pw dn ∧ Same h1 h' (qf PS q) ∧ env.get [] = .ptr (.own m) 0 ∧ env.get [true] = .int .i64 (.ofNat i) ∧ env.get [false] = .int .i64 (.ofNat f) ∧ env.get [true, true, true] = .int .i64 (.ofNat j)) ?_ ?_
  · exact ⟨0, rfl, by omega, by simpa [tornN] using M1, .refl _ _, by simp [Env.get]⟩
  · rintro k env h' ⟨j, rfl, hj, M2, sm2, e0, e1, e2, e7⟩
    have hm2 := M2.hm
    rw [pq_lv, tornN_len] at hm2
    by_cases hlt : j < PS.length
    · have d4 : decide (j < PS.length) = true := decide_eq_true hlt
      obtain ⟨w, hw⟩ : ∃ w, PS[j]? = some w := ⟨_, List.getElem?_eq_getElem hlt⟩
      have hw2 := tornN_get (i := i) (f := f) hw
      have hne : tornN i f j PS ≠ [] := by intro hn; have := tornN_len i f j PS; rw [hn] at this; simp at this; omega
      have hq := (M2.hp hne).1
      obtain ⟨p1, p2, p3⟩ := puts_one hw2 hq B
      have ea := inc_ok (j := j) (by omega)
      have li := lv_idx (es := 2) (q := q) hlt h'
      have hwm := M2.aP w (List.mem_of_getElem? hw2)
      have ts := tornN_succ (i := i) (f := f) hw
      by_cases hwi : w.1 = i
      · have d5 : decide (w.1 = i) = true := decide_eq_true hwi
        have uw : upTo (.ofNat f) w.2.length = some f := by rw [hwm.1]; exact upTo_ok hf
        have hpw := padded_is (B := B) (h := h') (s := w.2.take f) (by simp; omega)
        have ps := puts_set hw2 (tearS f w.2)
        have htw : padN (w.2.take f) = tearS f w.2 := rfl
        simp -implicitDefEqProofs only [c30, a30_0b, a30_1b, a30_2b, a30_3b, a30_4b, a30_5b, a30_6b, a30_7b, a30_8b, a30_9b, a30_10b, a30_11b, a30_12b, a30_13b, a30_14b, a30_15b, a30_16b, a30_17b, a30_18b, a30_19b, WS_skip, WS_ops, WS_seq, WS_block, WS_cond, WS_exit, WS_ret, WB_true, WB_false, RS_nil, RS_seq, RS_seqE, RS_seqR, RS_blk, RS_blkE, RS_blkR, WP_nil, WP_cons, WP_guard, WG_true, WG_false, WX_val, WX_enter, KC_nil, getK_some, QC_normal, QC_ret, QL_normal, QL_exit, QL_ret, nbeq, ibeq, iltn, ilen, ite_true, ite_false, EV, ER, fill_nil, fill_cons, fillK_some, fillJ_some, CK, KC_cons, again_nil, again_cons, again_guard, againW_T, againW_F, againR_val, AV.same_refl, wantedA, Opd.ev, evs, Env.get, Env.set, Env.get_set, List.cons.injEq, and_false, false_and, and_self, putE, cond, getAll, getRes, packed, eqOp, isNilV, scalarK, arithOp, unOpA, takeN, List.drop, true_and, and_true, reduceIte, reduceCtorEq, false_implies, forall_const, iLe_eq, iLt_eq, iEq_eq, decide_true, decide_false, Bool.not_true, Bool.not_false, Bool.true_and, Bool.and_true, Bool.false_and, Bool.and_false, beq_self_eq_true, imp_self, Bool.true_eq_false, Bool.false_eq_true, Nat.zero_add, Nat.add_zero, Nat.zero_mul, Nat.mul_one, Nat.one_mul, Nat.sub_zero, beqT, beqF, e0, e1, e2, e7, ldOwn hm2, takeN, lv_len, d4, li, p1, p2, d5, bounds, bound, boundV, hiD, uw, List.drop_zero, Nat.sub_zero, hpw]
        simp -implicitDefEqProofs only [c30, a30_0b, a30_1b, a30_2b, a30_3b, a30_4b, a30_5b, a30_6b, a30_7b, a30_8b, a30_9b, a30_10b, a30_11b, a30_12b, a30_13b, a30_14b, a30_15b, a30_16b, a30_17b, a30_18b, a30_19b, WS_skip, WS_ops, WS_seq, WS_block, WS_cond, WS_exit, WS_ret, WB_true, WB_false, RS_nil, RS_seq, RS_seqE, RS_seqR, RS_blk, RS_blkE, RS_blkR, WP_nil, WP_cons, WP_guard, WG_true, WG_false, WX_val, WX_enter, KC_nil, getK_some, QC_normal, QC_ret, QL_normal, QL_exit, QL_ret, nbeq, ibeq, iltn, ilen, ite_true, ite_false, EV, ER, fill_nil, fill_cons, fillK_some, fillJ_some, CK, KC_cons, again_nil, again_cons, again_guard, againW_T, againW_F, againR_val, AV.same_refl, wantedA, Opd.ev, evs, Env.get, Env.set, Env.get_set, List.cons.injEq, and_false, false_and, and_self, putE, cond, getAll, getRes, packed, eqOp, isNilV, scalarK, arithOp, unOpA, takeN, List.drop, true_and, and_true, reduceIte, reduceCtorEq, false_implies, forall_const, iLe_eq, iLt_eq, iEq_eq, decide_true, decide_false, Bool.not_true, Bool.not_false, Bool.true_and, Bool.and_true, Bool.false_and, Bool.and_false, beq_self_eq_true, imp_self, Bool.true_eq_false, Bool.false_eq_true, Nat.zero_add, Nat.add_zero, Nat.zero_mul, Nat.mul_one, Nat.one_mul, Nat.sub_zero, beqT, beqF, e0, e1, e2, e7, li, htw, stOwn hq, ps, ea, QL_normal, List.length_cons, List.length_nil]
        have tw : tearN i f w = (w.1, tearS f w.2) := by simp [tearN, hwi]
        refine ⟨PS.length - (j + 1), by omega, j + 1, rfl, by omega, ?_, ?_, by simp [Env.get_set, e0, e1, e2]⟩
        · rw [ts, tw]
          refine M2.setP (by simp) hne fun u hu => ?_
          rcases List.mem_or_eq_of_mem_set hu with h1 | h1
          · exact M2.aP u h1
          · rw [h1]; exact ⟨tearS_len hf, hwm.2⟩
        · refine sm2.trans (F1 := [q]) (.set (by simp)) fun x hx => .inl ?_
          simp at hx; subst hx
          cases PS with
          | nil => simp at hlt
          | cons => simp [qf]
      · have d5 : decide (w.1 = i) = false := decide_eq_false hwi
        simp -implicitDefEqProofs only [c30, a30_0b, a30_1b, a30_2b, a30_3b, a30_4b, a30_5b, a30_6b, a30_7b, a30_8b, a30_9b, a30_10b, a30_11b, a30_12b, a30_13b, a30_14b, a30_15b, a30_16b, a30_17b, a30_18b, a30_19b, WS_skip, WS_ops, WS_seq, WS_block, WS_cond, WS_exit, WS_ret, WB_true, WB_false, RS_nil, RS_seq, RS_seqE, RS_seqR, RS_blk, RS_blkE, RS_blkR, WP_nil, WP_cons, WP_guard, WG_true, WG_false, WX_val, WX_enter, KC_nil, getK_some, QC_normal, QC_ret, QL_normal, QL_exit, QL_ret, nbeq, ibeq, iltn, ilen, ite_true, ite_false, EV, ER, fill_nil, fill_cons, fillK_some, fillJ_some, CK, KC_cons, again_nil, again_cons, again_guard, againW_T, againW_F, againR_val, AV.same_refl, wantedA, Opd.ev, evs, Env.get, Env.set, Env.get_set, List.cons.injEq, and_false, false_and, and_self, putE, cond, getAll, getRes, packed, eqOp, isNilV, scalarK, arithOp, unOpA, takeN, List.drop, true_and, and_true, reduceIte, reduceCtorEq, false_implies, forall_const, iLe_eq, iLt_eq, iEq_eq, decide_true, decide_false, Bool.not_true, Bool.not_false, Bool.true_and, Bool.and_true, Bool.false_and, Bool.and_false, beq_self_eq_true, imp_self, Bool.true_eq_false, Bool.false_eq_true, Nat.zero_add, Nat.add_zero, Nat.zero_mul, Nat.mul_one, Nat.one_mul, Nat.sub_zero, beqT, beqF, e0, e1, e2, e7, ldOwn hm2, takeN, lv_len, d4, li, p1, p2, d5, ea, QL_normal]
        have tw : tearN i f w = w := by simp [tearN, hwi]
        refine ⟨PS.length - (j + 1), by omega, j + 1, rfl, by omega, ?_, sm2, by simp [Env.get_set, e0, e1, e2]⟩
        rw [ts, tw]
        have : (tornN i f j PS).set j w = tornN i f j PS := by
          obtain ⟨g1, g2⟩ := List.getElem?_eq_some_iff.1 hw2
          rw [← g2]; exact List.set_getElem_self g1
        rw [this]; exact M2
    · have d4 : decide (j < PS.length) = false := decide_eq_false hlt
      have hj' : j = PS.length := by omega
      subst hj'
      have et : tornN i f PS.length PS = PS.map (tearN i f) := by simp [tornN]
      rw [et] at M2
      simp -implicitDefEqProofs only [c30, a30_0b, a30_1b, a30_2b, a30_3b, a30_4b, a30_5b, a30_6b, a30_7b, a30_8b, a30_9b, a30_10b, a30_11b, a30_12b, a30_13b, a30_14b, a30_15b, a30_16b, a30_17b, a30_18b, a30_19b, WS_skip, WS_ops, WS_seq, WS_block, WS_cond, WS_exit, WS_ret, WB_true, WB_false, RS_nil, RS_seq, RS_seqE, RS_seqR, RS_blk, RS_blkE, RS_blkR, WP_nil, WP_cons, WP_guard, WG_true, WG_false, WX_val, WX_enter, KC_nil, getK_some, QC_normal, QC_ret, QL_normal, QL_exit, QL_ret, nbeq, ibeq, iltn, ilen, ite_true, ite_false, EV, ER, fill_nil, fill_cons, fillK_some, fillJ_some, CK, KC_cons, again_nil, again_cons, again_guard, againW_T, againW_F, againR_val, AV.same_refl, wantedA, Opd.ev, evs, Env.get, Env.set, Env.get_set, List.cons.injEq, and_false, false_and, and_self, putE, cond, getAll, getRes, packed, eqOp, isNilV, scalarK, arithOp, unOpA, takeN, List.drop, true_and, and_true, reduceIte, reduceCtorEq, false_implies, forall_const, iLe_eq, iLt_eq, iEq_eq, decide_true, decide_false, Bool.not_true, Bool.not_false, Bool.true_and, Bool.and_true, Bool.false_and, Bool.and_false, beq_self_eq_true, imp_self, Bool.true_eq_false, Bool.false_eq_true, Nat.zero_add, Nat.add_zero, Nat.zero_mul, Nat.mul_one, Nat.one_mul, Nat.sub_zero, beqT, beqF, e0, e7, ldOwn hm2, takeN, lv_len, d4, QL_exit]
      exact hk _ M2 (Same.trans (F1 := qf PS q) ⟨sm1.1, fun j hj hn => sm1.2 j hj fun hm => hn (by simp at hm; simp [hm])⟩ sm2 fun x hx => .inl (by simp [hx]))
end

section
variable {B : Base} {h : AHeap}

theorem mnew_bad {n : Int} (hn : ¬ (64 ≤ n ∧ n ≤ 65536)) : ∀ K : AV → AHeap → Prop, WC B G 23 [.int .i64 n] h K ↔ K (.tuple [.nilptr, .int .i64 (.ofNat 1)]) h := by
  refine WC_iff fun K hk => WC_fun (af := a23) rfl rfl rfl ?_
  rw [args1]
  have z2 : Int.ofNat 64 = 64 := rfl
  have z3 : Int.ofNat 65536 = 65536 := rfl
  by_cases h0 : n < 64
  · have d1 : decide (n < Int.ofNat 64) = true := decide_eq_true h0
    simp -implicitDefEqProofs only [c23, a23_0b, a23_1b, a23_2b, a23_3b, a23_4b, a23_5b, a23_6b, a23_7b, a23_8b, a23_9b, a23_10b, a23_11b, a23_12b, a23_13b, a23_14b, a23_15b, a23_16b, a23_17b, WS_skip, WS_ops, WS_seq, WS_block, WS_cond, WS_exit, WS_ret, WB_true, WB_false, RS_nil, RS_seq, RS_seqE, RS_seqR, RS_blk, RS_blkE, RS_blkR, WP_nil, WP_cons, WP_guard, WG_true, WG_false, WX_val, WX_enter, KC_nil, getK_some, QC_normal, QC_ret, QL_normal, QL_exit, QL_ret, nbeq, ibeq, iltn, ilen, ite_true, ite_false, EV, ER, fill_nil, fill_cons, fillK_some, fillJ_some, CK, KC_cons, again_nil, again_cons, again_guard, againW_T, againW_F, againR_val, AV.same_refl, wantedA, Opd.ev, evs, Env.get, Env.set, Env.get_set, List.cons.injEq, and_false, false_and, and_self, putE, cond, getAll, getRes, packed, eqOp, isNilV, scalarK, arithOp, unOpA, takeN, List.drop, true_and, and_true, reduceIte, reduceCtorEq, false_implies, forall_const, iLe_eq, iLt_eq, iEq_eq, decide_true, decide_false, Bool.not_true, Bool.not_false, Bool.true_and, Bool.and_true, Bool.false_and, Bool.and_false, beq_self_eq_true, imp_self, Bool.true_eq_false, Bool.false_eq_true, Nat.zero_add, Nat.add_zero, Nat.zero_mul, Nat.mul_one, Nat.one_mul, Nat.sub_zero, beqT, beqF, d1]
    exact hk
  · have d1 : decide (n < Int.ofNat 64) = false := decide_eq_false h0
    have d2 : decide (Int.ofNat 65536 < n) = true := decide_eq_true (by omega)
    simp -implicitDefEqProofs only [c23, a23_0b, a23_1b, a23_2b, a23_3b, a23_4b, a23_5b, a23_6b, a23_7b, a23_8b, a23_9b, a23_10b, a23_11b, a23_12b, a23_13b, a23_14b, a23_15b, a23_16b, a23_17b, WS_skip, WS_ops, WS_seq, WS_block, WS_cond, WS_exit, WS_ret, WB_true, WB_false, RS_nil, RS_seq, RS_seqE, RS_seqR, RS_blk, RS_blkE, RS_blkR, WP_nil, WP_cons, WP_guard, WG_true, WG_false, WX_val, WX_enter, KC_nil, getK_some, QC_normal, QC_ret, QL_normal, QL_exit, QL_ret, nbeq, ibeq, iltn, ilen, ite_true, ite_false, EV, ER, fill_nil, fill_cons, fillK_some, fillJ_some, CK, KC_cons, again_nil, again_cons, again_guard, againW_T, againW_F, againR_val, AV.same_refl, wantedA, Opd.ev, evs, Env.get, Env.set, Env.get_set, List.cons.injEq, and_false, false_and, and_self, putE, cond, getAll, getRes, packed, eqOp, isNilV, scalarK, arithOp, unOpA, takeN, List.drop, true_and, and_true, reduceIte, reduceCtorEq, false_implies, forall_const, iLe_eq, iLt_eq, iEq_eq, decide_true, decide_false, Bool.not_true, Bool.not_false, Bool.true_and, Bool.and_true, Bool.false_and, Bool.and_false, beq_self_eq_true, imp_self, Bool.true_eq_false, Bool.false_eq_true, Nat.zero_add, Nat.add_zero, Nat.zero_mul, Nat.mul_one, Nat.one_mul, Nat.sub_zero, beqT, beqF, d1, d2]
    exact hk

set_option maxHeartbeats 1000000 in
theorem mnew_ok {n : Nat} (h1 : 64 ≤ n) (h2 : n ≤ 65536) {K : AV → AHeap → Prop}
    (hk : ∀ h' dd, ModAt h' h.length dd 0 (List.replicate n (padN [])) [] (-1) false → Same h h' [] → h.length < dd → K (.tuple [.ptr (.own h.length) 0, .int .i64 (.ofNat 0)]) h') : WC B G 23 [.int .i64 (.ofNat n)] h K := by
  refine WC_fun (af := a23) rfl rfl rfl ?_
  rw [args1]
  have d1 : decide (n < 64) = false := decide_eq_false (by omega)
  have d2 : decide (65536 < n) = false := decide_eq_false (by omega)
  have o1 : RL.out [(2, .nilslice), (1, .int .i64 (.ofNat 0)), (1, .bool false)] = [.nilslice, .nilslice, .int .i64 (.ofNat 0), .bool false] := rfl
  simp -implicitDefEqProofs only [c23, a23_0b, a23_1b, a23_2b, a23_3b, a23_4b, a23_5b, a23_6b, a23_7b, a23_8b, a23_9b, a23_10b, a23_11b, a23_12b, a23_13b, a23_14b, a23_15b, a23_16b, a23_17b, WS_skip, WS_ops, WS_seq, WS_block, WS_cond, WS_exit, WS_ret, WB_true, WB_false, RS_nil, RS_seq, RS_seqE, RS_seqR, RS_blk, RS_blkE, RS_blkR, WP_nil, WP_cons, WP_guard, WG_true, WG_false, WX_val, WX_enter, KC_nil, getK_some, QC_normal, QC_ret, QL_normal, QL_exit, QL_ret, nbeq, ibeq, iltn, ilen, ite_true, ite_false, EV, ER, fill_nil, fill_cons, fillK_some, fillJ_some, CK, KC_cons, again_nil, again_cons, again_guard, againW_T, againW_F, againR_val, AV.same_refl, wantedA, Opd.ev, evs, Env.get, Env.set, Env.get_set, List.cons.injEq, and_false, false_and, and_self, putE, cond, getAll, getRes, packed, eqOp, isNilV, scalarK, arithOp, unOpA, takeN, List.drop, true_and, and_true, reduceIte, reduceCtorEq, false_implies, forall_const, iLe_eq, iLt_eq, iEq_eq, decide_true, decide_false, Bool.not_true, Bool.not_false, Bool.true_and, Bool.and_true, Bool.false_and, Bool.and_false, beq_self_eq_true, imp_self, Bool.true_eq_false, Bool.false_eq_true, Nat.zero_add, Nat.add_zero, Nat.zero_mul, Nat.mul_one, Nat.one_mul, Nat.sub_zero, beqT, beqF, d1, d2, o1, splice, List.length_cons, List.length_nil]
  refine WS_loop (k := n) (fun k env h' => ∃ j dd, k = n - j ∧ j ≤ n ∧ hcells h' h.length = some [lv 1 j dd, .nilslice, .int .i64 (.negSucc 0), .bool false] ∧ (j ≠ 0 → hcells h' dd = some ((List.replicate j (padN [])).map AV.str) ∧ h.length < dd) ∧
    Same h h' [] ∧ env.get [] = .int .i64 (.ofNat n) ∧ env.get [false, true] = .ptr (.own h.length) 0 ∧ env.get [true, false] = .int .i64 (.ofNat j)) ?_ ?_
  · exact ⟨0, 0, rfl, by omega, hc_new, fun h => absurd rfl h, .app _ _ _, by simp [Env.get]⟩
  · rintro k env h' ⟨j, dd, rfl, hj, hm, hd, sm, e0, e4, e5⟩
    by_cases hlt : j < n
    · have d3 : decide (j < n) = true := decide_eq_true hlt
      have ea := inc_ok (j := j) (by omega)
      have hpd := padded_is (B := B) (h := h') (s := []) (by simp)
      simp -implicitDefEqProofs only [c23, a23_0b, a23_1b, a23_2b, a23_3b, a23_4b, a23_5b, a23_6b, a23_7b, a23_8b, a23_9b, a23_10b, a23_11b, a23_12b, a23_13b, a23_14b, a23_15b, a23_16b, a23_17b, WS_skip, WS_ops, WS_seq, WS_block, WS_cond, WS_exit, WS_ret, WB_true, WB_false, RS_nil, RS_seq, RS_seqE, RS_seqR, RS_blk, RS_blkE, RS_blkR, WP_nil, WP_cons, WP_guard, WG_true, WG_false, WX_val, WX_enter, KC_nil, getK_some, QC_normal, QC_ret, QL_normal, QL_exit, QL_ret, nbeq, ibeq, iltn, ilen, ite_true, ite_false, EV, ER, fill_nil, fill_cons, fillK_some, fillJ_some, CK, KC_cons, again_nil, again_cons, again_guard, againW_T, againW_F, againR_val, AV.same_refl, wantedA, Opd.ev, evs, Env.get, Env.set, Env.get_set, List.cons.injEq, and_false, false_and, and_self, putE, cond, getAll, getRes, packed, eqOp, isNilV, scalarK, arithOp, unOpA, takeN, List.drop, true_and, and_true, reduceIte, reduceCtorEq, false_implies, forall_const, iLe_eq, iLt_eq, iEq_eq, decide_true, decide_false, Bool.not_true, Bool.not_false, Bool.true_and, Bool.and_true, Bool.false_and, Bool.and_false, beq_self_eq_true, imp_self, Bool.true_eq_false, Bool.false_eq_true, Nat.zero_add, Nat.add_zero, Nat.zero_mul, Nat.mul_one, Nat.one_mul, Nat.sub_zero, beqT, beqF, e0, e4, e5, d3, ldOwn hm, takeN, hpd]
      have o2 : timesL 1 (RL.out [(1, .str [])]) = [.str []] := rfl
      simp -implicitDefEqProofs only [c23, a23_0b, a23_1b, a23_2b, a23_3b, a23_4b, a23_5b, a23_6b, a23_7b, a23_8b, a23_9b, a23_10b, a23_11b, a23_12b, a23_13b, a23_14b, a23_15b, a23_16b, a23_17b, WS_skip, WS_ops, WS_seq, WS_block, WS_cond, WS_exit, WS_ret, WB_true, WB_false, RS_nil, RS_seq, RS_seqE, RS_seqR, RS_blk, RS_blkE, RS_blkR, WP_nil, WP_cons, WP_guard, WG_true, WG_false, WX_val, WX_enter, KC_nil, getK_some, QC_normal, QC_ret, QL_normal, QL_exit, QL_ret, nbeq, ibeq, iltn, ilen, ite_true, ite_false, EV, ER, fill_nil, fill_cons, fillK_some, fillJ_some, CK, KC_cons, again_nil, again_cons, again_guard, againW_T, againW_F, againR_val, AV.same_refl, wantedA, Opd.ev, evs, Env.get, Env.set, Env.get_set, List.cons.injEq, and_false, false_and, and_self, putE, cond, getAll, getRes, packed, eqOp, isNilV, scalarK, arithOp, unOpA, takeN, List.drop, true_and, and_true, reduceIte, reduceCtorEq, false_implies, forall_const, iLe_eq, iLt_eq, iEq_eq, decide_true, decide_false, Bool.not_true, Bool.not_false, Bool.true_and, Bool.and_true, Bool.false_and, Bool.and_false, beq_self_eq_true, imp_self, Bool.true_eq_false, Bool.false_eq_true, Nat.zero_add, Nat.add_zero, Nat.zero_mul, Nat.mul_one, Nat.one_mul, Nat.sub_zero, beqT, beqF, o2, splice, List.length_cons, List.length_nil]
      have lm := hc_lt hm
      generalize hh2 : h' ++ [AObj.cells [.str (padN [])]] = h2
      have hl2 : h2.length = h'.length + 1 := by rw [← hh2]; simp
      have hx2 : hcells h2 h'.length = some [.str (padN [])] := by rw [← hh2]; exact hc_new
      have hm2 := hh2 ▸ hc_app (l := [AObj.cells [.str (padN [])]]) hm
      have hd2 : j ≠ 0 → hcells h2 dd = some ((List.replicate j (padN [])).map AV.str) := fun hne => by rw [← hh2]; exact hc_app (hd hne).1
      have sm2 : Same h h2 [] := by rw [← hh2]; exact sm.trans (.app _ _ []) (by simp)
      have ap := append_lv (B := B) (bytes := 16) hd2 (by simp) (src_one hx2 (es := 1) rfl) (by omega) (by omega)
      rw [ap]
      have hpq : (List.replicate j (padN [])).map AV.str ++ [.str (padN [])] = (List.replicate (j + 1) (padN [])).map AV.str := by simp [List.replicate_succ']
      rw [hpq]
      generalize hh3 : deadI j dd h2 ++ [AObj.cells ((List.replicate (j + 1) (padN [])).map AV.str)] = h3
      have hm3 : hcells h3 h.length = _ := hh3 ▸ hc_app ((deadI_hc fun hne => Nat.ne_of_lt (hd hne).2).trans hm2)
      have hx3 : hcells h3 h2.length = some ((List.replicate (j + 1) (padN [])).map AV.str) := by rw [← hh3, ← deadI_len j dd h2]; exact hc_new
      have sm3 : Same h h3 [] := by
        rw [← hh3]
        refine (Same.trans (F1 := if j = 0 then [] else [dd]) sm2 (deadI_same _ _ _ fun hne => ?_) fun x hx => .inr ?_).trans (.app _ _ []) (by simp)
        · rw [if_neg hne]; simp
        · by_cases hj0 : j = 0
          · rw [if_pos hj0] at hx; simp at hx
          · rw [if_neg hj0] at hx; simp at hx; have := (hd hj0).2; omega
      simp -implicitDefEqProofs only [c23, a23_0b, a23_1b, a23_2b, a23_3b, a23_4b, a23_5b, a23_6b, a23_7b, a23_8b, a23_9b, a23_10b, a23_11b, a23_12b, a23_13b, a23_14b, a23_15b, a23_16b, a23_17b, WS_skip, WS_ops, WS_seq, WS_block, WS_cond, WS_exit, WS_ret, WB_true, WB_false, RS_nil, RS_seq, RS_seqE, RS_seqR, RS_blk, RS_blkE, RS_blkR, WP_nil, WP_cons, WP_guard, WG_true, WG_false, WX_val, WX_enter, KC_nil, getK_some, QC_normal, QC_ret, QL_normal, QL_exit, QL_ret, nbeq, ibeq, iltn, ilen, ite_true, ite_false, EV, ER, fill_nil, fill_cons, fillK_some, fillJ_some, CK, KC_cons, again_nil, again_cons, again_guard, againW_T, againW_F, againR_val, AV.same_refl, wantedA, Opd.ev, evs, Env.get, Env.set, Env.get_set, List.cons.injEq, and_false, false_and, and_self, putE, cond, getAll, getRes, packed, eqOp, isNilV, scalarK, arithOp, unOpA, takeN, List.drop, true_and, and_true, reduceIte, reduceCtorEq, false_implies, forall_const, iLe_eq, iLt_eq, iEq_eq, decide_true, decide_false, Bool.not_true, Bool.not_false, Bool.true_and, Bool.and_true, Bool.false_and, Bool.and_false, beq_self_eq_true, imp_self, Bool.true_eq_false, Bool.false_eq_true, Nat.zero_add, Nat.add_zero, Nat.zero_mul, Nat.mul_one, Nat.one_mul, Nat.sub_zero, beqT, beqF, e0, e4, e5, lv_cells, stOwn hm3, splice, List.length_cons, List.length_nil, ea, QL_normal]
      refine ⟨n - (j + 1), by omega, j + 1, h2.length, rfl, by omega, hc_set hm3, fun _ => ⟨?_, by omega⟩, ?_, by simp [Env.get_set, e0, e4]⟩
      · rw [hc_set_ne (by omega)]; exact hx3
      · exact sm3.trans (F1 := [h.length]) (.set (by simp)) fun x hx => .inr (by simp at hx; omega)
    · have d3 : decide (j < n) = false := decide_eq_false hlt
      have hj' : j = n := by omega
      subst hj'
      simp -implicitDefEqProofs only [c23, a23_0b, a23_1b, a23_2b, a23_3b, a23_4b, a23_5b, a23_6b, a23_7b, a23_8b, a23_9b, a23_10b, a23_11b, a23_12b, a23_13b, a23_14b, a23_15b, a23_16b, a23_17b, WS_skip, WS_ops, WS_seq, WS_block, WS_cond, WS_exit, WS_ret, WB_true, WB_false, RS_nil, RS_seq, RS_seqE, RS_seqR, RS_blk, RS_blkE, RS_blkR, WP_nil, WP_cons, WP_guard, WG_true, WG_false, WX_val, WX_enter, KC_nil, getK_some, QC_normal, QC_ret, QL_normal, QL_exit, QL_ret, nbeq, ibeq, iltn, ilen, ite_true, ite_false, EV, ER, fill_nil, fill_cons, fillK_some, fillJ_some, CK, KC_cons, again_nil, again_cons, again_guard, againW_T, againW_F, againR_val, AV.same_refl, wantedA, Opd.ev, evs, Env.get, Env.set, Env.get_set, List.cons.injEq, and_false, false_and, and_self, putE, cond, getAll, getRes, packed, eqOp, isNilV, scalarK, arithOp, unOpA, takeN, List.drop, true_and, and_true, reduceIte, reduceCtorEq, false_implies, forall_const, iLe_eq, iLt_eq, iEq_eq, decide_true, decide_false, Bool.not_true, Bool.not_false, Bool.true_and, Bool.and_true, Bool.false_and, Bool.and_false, beq_self_eq_true, imp_self, Bool.true_eq_false, Bool.false_eq_true, Nat.zero_add, Nat.add_zero, Nat.zero_mul, Nat.mul_one, Nat.one_mul, Nat.sub_zero, beqT, beqF, e0, e4, e5, d3, QL_exit]
      have hne : j ≠ 0 := by omega
      obtain ⟨g1, g2⟩ := hd hne
      have hv : lv 1 j dd = .slice (.own dd) 0 j j (some 1) := by cases j with | zero => exact absurd rfl hne | succ j => rfl
      refine hk h' dd ⟨?_, g1, fun h => absurd rfl h, fun s hs => ?_, by simp, by simp; omega, by omega⟩ sm g2
      · rw [hm, hv]; simp [pq]
      · rw [List.eq_of_mem_replicate hs]; exact padN_len (by simp)
end
end Go.Proofs.Ytohjmflbgohkhaa.E
