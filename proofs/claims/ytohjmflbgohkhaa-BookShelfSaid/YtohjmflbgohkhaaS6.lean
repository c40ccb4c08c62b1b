/- What Crash does. -/
import Derived.Test.YtohjmflbgohkhaaS5
namespace Go.Proofs.Ytohjmflbgohkhaa.E
set_option linter.all false
open Go

/- numbers that are read and stay as they are -/
def Ints (B : Base) (h : AHeap) (kv : AV) (ks : List Int) : Prop :=
  (kv = .nilslice ∧ ks = []) ∨ ∃ b o c e, kv = .slice b o ks.length c e ∧ ∀ (j : Nat) k, ks[j]? = some k → loadN B h b (o + j) 1 = some [.int .i64 k]

def keepN (ks : List Int) (i : Nat) : Nat := match ks[i]? with
  | some k => (min (max k 0) 64).toNat
  | none => 0
def crash1 (ks : List Int) (D : List (List AV)) (i : Nat) (w : Nat × List AV) : List (List AV) := D.set w.1 (w.2.take (keepN ks i) ++ (D.getD w.1 []).drop (keepN ks i))
def crashed (ks : List Int) : Nat → List (Nat × List AV) → List (List AV) → List (List AV)
  | _, [], D => D
  | i, w :: r, D => crashed ks (i + 1) r (crash1 ks D i w)
theorem crashed_len (ks : List Int) : ∀ (P : List (Nat × List AV)) (i : Nat) (D : List (List AV)), (crashed ks i P D).length = D.length
  | [], _, _ => rfl
  | w :: r, i, D => by simp [crashed, crashed_len ks r, crash1]
theorem crashed_snoc (ks : List Int) : ∀ (P : List (Nat × List AV)) (i : Nat) (D : List (List AV)) (w), crashed ks i (P ++ [w]) D = crash1 ks (crashed ks i P D) (i + P.length) w
  | [], i, D, w => rfl
  | x :: r, i, D, w => by
    simp only [List.cons_append, crashed, crashed_snoc ks r, List.length_cons]
    rw [show i + 1 + r.length = i + (r.length + 1) by omega]
theorem keepN_le (ks : List Int) (i : Nat) : keepN ks i ≤ 64 := by
  unfold keepN
  split <;> omega

section
variable {B : Base} {h : AHeap} {s di ni pi : Nat} {D N : List (List AV)} {P : List (Nat × List AV)} {pw : Int} {dn : Bool}

set_option maxHeartbeats 1000000 in
theorem crash_ok (S : ShelfAt h s di ni pi D N P pw dn) (hP : P.length < 1000000) {kv : AV} {ks : List Int} (hks : ∀ h', Same h h' [s, di] → Ints B h' kv ks) (hkl : ks.length < 1000000000) {K : AV → AHeap → Prop}
    (h0D : 0 < D.length)
    (hk : ∀ h' ni', ShelfAt h' s di ni' pi (crashed ks 0 P D) (crashed ks 0 P D) [] (-1) false → Same h h' [s, di] → h.length ≤ ni' → K (.tuple []) h') : WC B G 9 [.ptr (.own s) 0, kv] h K := by
  obtain ⟨ed, en, hs⟩ := S.hs
  refine WC_fun (af := a9) rfl rfl rfl ?_
  rw [args2]
  have hlen : evalOp B .e h (.len (.c (pv P pi))) = some (.val (.int .i64 (.ofNat P.length)) h) := by
    cases P <;> rfl
  simp -implicitDefEqProofs only [c9, a9_0b, a9_1b, a9_2b, a9_3b, a9_4b, a9_5b, a9_6b, a9_7b, a9_8b, a9_9b, a9_10b, a9_11b, a9_12b, a9_13b, a9_14b, a9_15b, a9_16b, a9_17b, a9_18b, a9_19b, a9_20b, a9_21b, a9_22b, a9_23b, WS_skip, WS_ops, WS_seq, WS_block, WS_cond, WS_exit, WS_ret, WB_true, WB_false, RS_nil, RS_seq, RS_seqE, RS_seqR, RS_blk, RS_blkE, RS_blkR, WP_nil, WP_cons, WP_guard, WG_true, WG_false, WX_val, WX_enter, KC_nil, getK_some, QC_normal, QC_ret, QL_normal, QL_exit, QL_ret, nbeq, ibeq, iltn, ilen, ite_true, ite_false, evalOp, wantedA, Opd.ev, evs, Env.get, Env.set, Env.get_set, List.cons.injEq, and_false, false_and, and_self, putE, cond, againOk, getAll, getRes, packed, eqOp, isNilV, scalarK, arithOp, unOpA, takeN, List.drop, true_and, and_true, reduceIte, reduceCtorEq, false_implies, forall_const, iLe_eq, iLt_eq, iEq_eq, decide_true, decide_false, Bool.not_true, Bool.not_false, Bool.true_and, Bool.and_true, Bool.false_and, Bool.and_false, beq_self_eq_true, imp_self, Bool.true_eq_false, Bool.false_eq_true, Nat.zero_add, Nat.add_zero, Nat.zero_mul, Nat.mul_one, Nat.one_mul, Nat.sub_zero, beqT, beqF, ldOwn hs]
  change WX B G (evalOp B .e h (.len (.c (pv P pi)))) _ _ _ _ _ _ _
  rw [hlen]
  simp -implicitDefEqProofs only [c9, a9_0b, a9_1b, a9_2b, a9_3b, a9_4b, a9_5b, a9_6b, a9_7b, a9_8b, a9_9b, a9_10b, a9_11b, a9_12b, a9_13b, a9_14b, a9_15b, a9_16b, a9_17b, a9_18b, a9_19b, a9_20b, a9_21b, a9_22b, a9_23b, WS_skip, WS_ops, WS_seq, WS_block, WS_cond, WS_exit, WS_ret, WB_true, WB_false, RS_nil, RS_seq, RS_seqE, RS_seqR, RS_blk, RS_blkE, RS_blkR, WP_nil, WP_cons, WP_guard, WG_true, WG_false, WX_val, WX_enter, KC_nil, getK_some, QC_normal, QC_ret, QL_normal, QL_exit, QL_ret, nbeq, ibeq, iltn, ilen, ite_true, ite_false, evalOp, wantedA, Opd.ev, evs, Env.get, Env.set, Env.get_set, List.cons.injEq, and_false, false_and, and_self, putE, cond, againOk, getAll, getRes, packed, eqOp, isNilV, scalarK, arithOp, unOpA, takeN, List.drop, true_and, and_true, reduceIte, reduceCtorEq, false_implies, forall_const, iLe_eq, iLt_eq, iEq_eq, decide_true, decide_false, Bool.not_true, Bool.not_false, Bool.true_and, Bool.and_true, Bool.false_and, Bool.and_false, beq_self_eq_true, imp_self, Bool.true_eq_false, Bool.false_eq_true, Nat.zero_add, Nat.add_zero, Nat.zero_mul, Nat.mul_one, Nat.one_mul, Nat.sub_zero, beqT, beqF]
  refine WS_loop (k := P.length) (fun k env h' => ∃ j, k = P.length - j ∧ j ≤ P.length ∧ env.get [] = .ptr (.own s) 0 ∧ env.get [true] = kv ∧ env.get [false, true, false] = pv P pi ∧ env.get [true, false, false] = .int .i64 (.ofNat P.length) ∧
    env.get [false, false, false] = .int .i64 (.ofNat j) ∧ ShelfAt h' s di ni pi (crashed ks 0 (P.take j) D) N P pw dn ∧ Same h h' [s, di]) ?_ ?_
  · refine ⟨0, by simp, by simp, rfl, rfl, rfl, rfl, rfl, ?_, .refl _ _⟩
    simpa [crashed] using S
  · rintro k env h1 ⟨j, rfl, hj, g0, gk, g1, g2, g3, S1, sm1⟩
    obtain ⟨ed1, en1, hs1⟩ := S1.hs
    by_cases hlt : j < P.length
    · have hd1 : decide (j < P.length) = true := by simpa using hlt
      have hne : P ≠ [] := by rintro rfl; simp at hlt
      have hpv : pv P pi = .slice (.own pi) 0 P.length P.length (some 65) := by cases P <;> simp [pv] at hne ⊢
      have hPj : P[j]? = some P[j] := List.getElem?_eq_getElem hlt
      generalize P[j] = w at hPj
      obtain ⟨hw, hwD⟩ := S1.aP w (List.mem_of_getElem? hPj)
      have hp1 := (S1.hp hne).1
      have ld : takeN 65 ((P.map wcells).flatten.drop (j * 65)) = some (.int .i64 (.ofNat w.1) :: w.2) :=
        flat_get (n := 65) (ls := P.map wcells) (i := j) (l := wcells w) (wflat_len fun w hw => (S1.aP w hw).1) (by simp [hPj])
      have irj := inRange_ok hlt
      have sw : splice (.int .i64 (.ofNat 0) :: zs) 0 (.int .i64 (.ofNat w.1) :: w.2) = some (.int .i64 (.ofNat w.1) :: w.2) := splice_all (by simp [hw, zs_len])
      have hx2 : hcells (h1 ++ [.cells (.int .i64 (.ofNat 0) :: zs)]) h1.length = _ := hc_new
      simp -implicitDefEqProofs only [c9, a9_0b, a9_1b, a9_2b, a9_3b, a9_4b, a9_5b, a9_6b, a9_7b, a9_8b, a9_9b, a9_10b, a9_11b, a9_12b, a9_13b, a9_14b, a9_15b, a9_16b, a9_17b, a9_18b, a9_19b, a9_20b, a9_21b, a9_22b, a9_23b, WS_skip, WS_ops, WS_seq, WS_block, WS_cond, WS_exit, WS_ret, WB_true, WB_false, RS_nil, RS_seq, RS_seqE, RS_seqR, RS_blk, RS_blkE, RS_blkR, WP_nil, WP_cons, WP_guard, WG_true, WG_false, WX_val, WX_enter, KC_nil, getK_some, QC_normal, QC_ret, QL_normal, QL_exit, QL_ret, nbeq, ibeq, iltn, ilen, ite_true, ite_false, evalOp, wantedA, Opd.ev, evs, Env.get, Env.set, Env.get_set, List.cons.injEq, and_false, false_and, and_self, putE, cond, againOk, getAll, getRes, packed, eqOp, isNilV, scalarK, arithOp, unOpA, takeN, List.drop, true_and, and_true, reduceIte, reduceCtorEq, false_implies, forall_const, iLe_eq, iLt_eq, iEq_eq, decide_true, decide_false, Bool.not_true, Bool.not_false, Bool.true_and, Bool.and_true, Bool.false_and, Bool.and_false, beq_self_eq_true, imp_self, Bool.true_eq_false, Bool.false_eq_true, Nat.zero_add, Nat.add_zero, Nat.zero_mul, Nat.mul_one, Nat.one_mul, Nat.sub_zero, beqT, beqF, g0, gk, g1, hpv, g2, g3, hd1, irj, ldOwn hp1, ld, outW, AV.cellsOk, List.length_cons, hw, Nat.reduceAdd, stOwn hx2, sw]
      generalize hh3 : (h1 ++ [AObj.cells (.int .i64 (.ofNat 0) :: zs)]).set h1.length (.cells (.int .i64 (.ofNat w.1) :: w.2)) = h3
      have hx3 : hcells h3 h1.length = _ := hh3 ▸ hc_set (d := .int .i64 (.ofNat w.1) :: w.2) hc_new
      have sm3 : Same h1 h3 [h1.length] := by rw [← hh3]; exact Same.trans (F1 := [h1.length]) (Same.app _ _ _) (Same.set (by simp)) fun j hj => .inl hj
      have hl3 : h1.length ≤ h3.length := sm3.1
      have b1 := hc_lt hs1
      have b2 := hc_lt S1.hd
      have b3 := hc_lt S1.hn
      have b4 := hc_lt hp1
      have S3 := S1.keep sm3 ⟨by simp; omega, by simp; omega, by simp; omega, fun _ => by simp; omega⟩
      have smh : Same h h3 [s, di] := Same.trans (F1 := [h1.length]) sm1 sm3 fun j hj => .inr (by have := sm1.1; simp at hj; omega)
      clear hh3
      obtain ⟨ed3, en3, hs3⟩ := S3.hs
      have hDl : (crashed ks 0 (P.take j) D).length = D.length := crashed_len _ _ _ _
      have hDw : w.1 < (crashed ks 0 (P.take j) D).length := by rw [hDl]; rw [hDl] at hwD; exact hwD
      have irw := inRange_ok hDw
      have hkn := keepN_le ks j
      have un := upTo_ok hkn
      have tn : takeN (keepN ks j) w.2 = some (w.2.take (keepN ks j)) := takeN_some (by omega)
      have mm : Nat.min (keepN ks j) (keepN ks j) = keepN ks j := Nat.min_self _
      have tt : (w.2.take (keepN ks j)).take (keepN ks j) = w.2.take (keepN ks j) := by rw [List.take_take, Nat.min_self]
      have hget : (crashed ks 0 (P.take j) D)[w.1]? = some (crashed ks 0 (P.take j) D)[w.1] := List.getElem?_eq_getElem hDw
      have hgl := S1.aD _ (List.getElem_mem hDw)
      have sd := flat_splice (n := 64) (ls := crashed ks 0 (P.take j) D) (i := w.1) (o := 0) (vs := w.2.take (keepN ks j)) (r := w.2.take (keepN ks j) ++ (crashed ks 0 (P.take j) D)[w.1].drop (keepN ks j)) S1.aD hget (by
        have hl : (w.2.take (keepN ks j)).length = keepN ks j := by rw [List.length_take]; omega
        rw [splice_some (by rw [hl, hgl]; omega), hl]; simp)
      rw [Nat.add_zero] at sd
      have hw1 : awrap .i64 (iAdd (.ofNat j) (.ofNat 1)) = .ofNat (j + 1) := by
        rw [awrap_eq, show iAdd (.ofNat j) (.ofNat 1) = ((j + 1 : Nat) : Int) from rfl]
        exact IntWalk.i64_in _ ⟨by omega, by omega⟩
      have hlk : evalOp B .e h3 (.len (.c kv)) = some (.val (.int .i64 (.ofNat ks.length)) h3) := by
        rcases hks h3 smh with ⟨rfl, rfl⟩ | ⟨b, o, c, e, rfl, _⟩ <;> rfl
      change WX B G (evalOp B .e h3 (.len (.c kv))) _ _ _ _ _ _ _
      rw [hlk]
      have e1 : P.take (j + 1) = P.take j ++ [w] := by rw [List.take_succ, hPj]; rfl
      have e2 : crashed ks 0 (P.take (j + 1)) D = (crashed ks 0 (P.take j) D).set w.1 (w.2.take (keepN ks j) ++ (crashed ks 0 (P.take j) D)[w.1].drop (keepN ks j)) := by
        rw [e1, crashed_snoc, crash1, List.length_take, show 0 + min j P.length = j by omega, List.getD_eq_getElem?_getD, hget]; rfl
      have fin : ShelfAt (h3.set di (.cells ((crashed ks 0 (P.take j) D).set w.1 (w.2.take (keepN ks j) ++ (crashed ks 0 (P.take j) D)[w.1].drop (keepN ks j))).flatten)) s di ni pi (crashed ks 0 (P.take (j + 1)) D) N P pw dn := by
        rw [e2]; exact S3.setD (by simp) (S1.aD.set (by rw [List.length_append, List.length_take, List.length_drop]; omega))
      have fsm : Same h (h3.set di (.cells ((crashed ks 0 (P.take j) D).set w.1 (w.2.take (keepN ks j) ++ (crashed ks 0 (P.take j) D)[w.1].drop (keepN ks j))).flatten)) [s, di] := Same.trans (F1 := [s, di]) smh (Same.set (by simp)) fun j hj => .inl hj
      by_cases hjk : j < ks.length
      · have hd2 : decide (j < ks.length) = true := by simpa using hjk
        have hkj : ks[j]? = some ks[j] := List.getElem?_eq_getElem hjk
        rcases hks h3 smh with ⟨rfl, rfl⟩ | ⟨b, o, c, e, rfl, hld⟩
        · simp at hjk
        have hld := hld j _ hkj
        have hkk : imin (imax ks[j] (.ofNat 0)) (.ofNat 64) = .ofNat (keepN ks j) := by
          unfold imin imax keepN
          rw [hkj, iLt_eq, iLt_eq]
          simp only [Bool.cond_decide]
          show _ = (((min (max ks[j] 0) 64).toNat : Nat) : Int)
          have e5 : (Int.ofNat 0) = 0 := rfl
          have e6 : (Int.ofNat 64) = 64 := rfl
          rw [e5, e6]
          split <;> split <;> omega
        have irk := inRange_ok hjk
        simp -implicitDefEqProofs only [c9, a9_0b, a9_1b, a9_2b, a9_3b, a9_4b, a9_5b, a9_6b, a9_7b, a9_8b, a9_9b, a9_10b, a9_11b, a9_12b, a9_13b, a9_14b, a9_15b, a9_16b, a9_17b, a9_18b, a9_19b, a9_20b, a9_21b, a9_22b, a9_23b, WS_skip, WS_ops, WS_seq, WS_block, WS_cond, WS_exit, WS_ret, WB_true, WB_false, RS_nil, RS_seq, RS_seqE, RS_seqR, RS_blk, RS_blkE, RS_blkR, WP_nil, WP_cons, WP_guard, WG_true, WG_false, WX_val, WX_enter, KC_nil, getK_some, QC_normal, QC_ret, QL_normal, QL_exit, QL_ret, nbeq, ibeq, iltn, ilen, ite_true, ite_false, evalOp, wantedA, Opd.ev, evs, Env.get, Env.set, Env.get_set, List.cons.injEq, and_false, false_and, and_self, putE, cond, againOk, getAll, getRes, packed, eqOp, isNilV, scalarK, arithOp, unOpA, takeN, List.drop, true_and, and_true, reduceIte, reduceCtorEq, false_implies, forall_const, iLe_eq, iLt_eq, iEq_eq, decide_true, decide_false, Bool.not_true, Bool.not_false, Bool.true_and, Bool.and_true, Bool.false_and, Bool.and_false, beq_self_eq_true, imp_self, Bool.true_eq_false, Bool.false_eq_true, Nat.zero_add, Nat.add_zero, Nat.zero_mul, Nat.mul_one, Nat.one_mul, Nat.sub_zero, beqT, beqF, g0, gk, g1, hpv, g2, g3, hd2, irk, hld, foldMM, hkk, ldOwn hs3, ldOwn hx3, irw, bounds, bound, boundV, hiD, un, srcCells, tn, mm, tt, stOwn S3.hd, sd, hw1]
        exact ⟨P.length - (j + 1), by omega, j + 1, rfl, by omega, by first | exact hpv | rfl, fin, fsm⟩
      · have hd2 : decide (j < ks.length) = false := by simpa using hjk
        have k0 : keepN ks j = 0 := by
          unfold keepN
          rw [List.getElem?_eq_none (by omega)]
        have un0 := upTo_ok (show 0 ≤ 64 by omega)
        have mm0 : Nat.min 0 0 = 0 := rfl
        simp only [k0, List.take_zero, List.nil_append, List.drop_zero] at sd fin fsm
        simp -implicitDefEqProofs only [c9, a9_0b, a9_1b, a9_2b, a9_3b, a9_4b, a9_5b, a9_6b, a9_7b, a9_8b, a9_9b, a9_10b, a9_11b, a9_12b, a9_13b, a9_14b, a9_15b, a9_16b, a9_17b, a9_18b, a9_19b, a9_20b, a9_21b, a9_22b, a9_23b, WS_skip, WS_ops, WS_seq, WS_block, WS_cond, WS_exit, WS_ret, WB_true, WB_false, RS_nil, RS_seq, RS_seqE, RS_seqR, RS_blk, RS_blkE, RS_blkR, WP_nil, WP_cons, WP_guard, WG_true, WG_false, WX_val, WX_enter, KC_nil, getK_some, QC_normal, QC_ret, QL_normal, QL_exit, QL_ret, nbeq, ibeq, iltn, ilen, ite_true, ite_false, evalOp, wantedA, Opd.ev, evs, Env.get, Env.set, Env.get_set, List.cons.injEq, and_false, false_and, and_self, putE, cond, againOk, getAll, getRes, packed, eqOp, isNilV, scalarK, arithOp, unOpA, takeN, List.drop, true_and, and_true, reduceIte, reduceCtorEq, false_implies, forall_const, iLe_eq, iLt_eq, iEq_eq, decide_true, decide_false, Bool.not_true, Bool.not_false, Bool.true_and, Bool.and_true, Bool.false_and, Bool.and_false, beq_self_eq_true, imp_self, Bool.true_eq_false, Bool.false_eq_true, Nat.zero_add, Nat.add_zero, Nat.zero_mul, Nat.mul_one, Nat.one_mul, Nat.sub_zero, beqT, beqF, g0, gk, g1, hpv, g2, g3, hd2, ldOwn hs3, ldOwn hx3, irw, bounds, bound, boundV, hiD, un0, srcCells, mm0, List.take_zero, stOwn S3.hd, sd, hw1]
        exact ⟨P.length - (j + 1), by omega, j + 1, rfl, by omega, by first | exact hpv | rfl, fin, fsm⟩
    · have hd1 : decide (j < P.length) = false := by simpa using hlt
      have hjj : j = P.length := by omega
      subst hjj
      rw [List.take_length] at S1 hs1
      simp -implicitDefEqProofs only [c9, a9_0b, a9_1b, a9_2b, a9_3b, a9_4b, a9_5b, a9_6b, a9_7b, a9_8b, a9_9b, a9_10b, a9_11b, a9_12b, a9_13b, a9_14b, a9_15b, a9_16b, a9_17b, a9_18b, a9_19b, a9_20b, a9_21b, a9_22b, a9_23b, WS_skip, WS_ops, WS_seq, WS_block, WS_cond, WS_exit, WS_ret, WB_true, WB_false, RS_nil, RS_seq, RS_seqE, RS_seqR, RS_blk, RS_blkE, RS_blkR, WP_nil, WP_cons, WP_guard, WG_true, WG_false, WX_val, WX_enter, KC_nil, getK_some, QC_normal, QC_ret, QL_normal, QL_exit, QL_ret, nbeq, ibeq, iltn, ilen, ite_true, ite_false, evalOp, wantedA, Opd.ev, evs, Env.get, Env.set, Env.get_set, List.cons.injEq, and_false, false_and, and_self, putE, cond, againOk, getAll, getRes, packed, eqOp, isNilV, scalarK, arithOp, unOpA, takeN, List.drop, true_and, and_true, reduceIte, reduceCtorEq, false_implies, forall_const, iLe_eq, iLt_eq, iEq_eq, decide_true, decide_false, Bool.not_true, Bool.not_false, Bool.true_and, Bool.and_true, Bool.false_and, Bool.and_false, beq_self_eq_true, imp_self, Bool.true_eq_false, Bool.false_eq_true, Nat.zero_add, Nat.add_zero, Nat.zero_mul, Nat.mul_one, Nat.one_mul, Nat.sub_zero, beqT, beqF, g0, gk, g1, g2, g3, hd1, AV.cellsOk, List.length_cons, List.length_nil, Nat.reduceAdd, stOwn hs1, splice]
      have S2 := S1.put (pw' := pw) (dn' := dn) (ed := ed1) (en := en1) (P' := []) (.inl rfl)
      have hs2 := hc_set (d := [.slice (.own di) 0 (crashed ks 0 P D).length (crashed ks 0 P D).length ed1, .slice (.own ni) 0 (crashed ks 0 P D).length (crashed ks 0 P D).length en1, .nilslice, .int .i64 pw, .bool dn]) hs1
      have sm2 : Same h (h1.set s (.cells [.slice (.own di) 0 (crashed ks 0 P D).length (crashed ks 0 P D).length ed1, .slice (.own ni) 0 (crashed ks 0 P D).length (crashed ks 0 P D).length en1, .nilslice, .int .i64 pw, .bool dn])) [s, di] :=
        Same.trans (F1 := [s, di]) sm1 (Same.set (by simp)) fun j hj => .inl hj
      simp only [pv] at S2
      generalize h1.set s (.cells [.slice (.own di) 0 (crashed ks 0 P D).length (crashed ks 0 P D).length ed1, .slice (.own ni) 0 (crashed ks 0 P D).length (crashed ks 0 P D).length en1, .nilslice, .int .i64 pw, .bool dn]) = h2 at S2 hs2 sm2 ⊢
      have hDl : (crashed ks 0 P D).length = D.length := crashed_len _ _ _ _
      have hcl := cloneL_is (B := B) (ed := ed1) (L := (crashed ks 0 P D).length) S2.hd (flat_len S2.aD) (by omega) S2.big
      have hs4 : hcells (h2 ++ [.cells []] ++ [.cells (crashed ks 0 P D).flatten]) s = _ := hc_app (hc_app hs2)
      have hd4 : hcells (h2 ++ [.cells []] ++ [.cells (crashed ks 0 P D).flatten]) di = _ := hc_app (hc_app S2.hd)
      have hn4 : hcells (h2 ++ [.cells []] ++ [.cells (crashed ks 0 P D).flatten]) (h2.length + 1) = some (crashed ks 0 P D).flatten := by
        rw [show h2.length + 1 = (h2 ++ [AObj.cells []]).length by simp]; exact hc_new
      simp -implicitDefEqProofs only [c9, a9_0b, a9_1b, a9_2b, a9_3b, a9_4b, a9_5b, a9_6b, a9_7b, a9_8b, a9_9b, a9_10b, a9_11b, a9_12b, a9_13b, a9_14b, a9_15b, a9_16b, a9_17b, a9_18b, a9_19b, a9_20b, a9_21b, a9_22b, a9_23b, WS_skip, WS_ops, WS_seq, WS_block, WS_cond, WS_exit, WS_ret, WB_true, WB_false, RS_nil, RS_seq, RS_seqE, RS_seqR, RS_blk, RS_blkE, RS_blkR, WP_nil, WP_cons, WP_guard, WG_true, WG_false, WX_val, WX_enter, KC_nil, getK_some, QC_normal, QC_ret, QL_normal, QL_exit, QL_ret, nbeq, ibeq, iltn, ilen, ite_true, ite_false, evalOp, wantedA, Opd.ev, evs, Env.get, Env.set, Env.get_set, List.cons.injEq, and_false, false_and, and_self, putE, cond, againOk, getAll, getRes, packed, eqOp, isNilV, scalarK, arithOp, unOpA, takeN, List.drop, true_and, and_true, reduceIte, reduceCtorEq, false_implies, forall_const, iLe_eq, iLt_eq, iEq_eq, decide_true, decide_false, Bool.not_true, Bool.not_false, Bool.true_and, Bool.and_true, Bool.false_and, Bool.and_false, beq_self_eq_true, imp_self, Bool.true_eq_false, Bool.false_eq_true, Nat.zero_add, Nat.add_zero, Nat.zero_mul, Nat.mul_one, Nat.one_mul, Nat.sub_zero, beqT, beqF, ldOwn hs2, hcl]
      generalize hh4 : h2 ++ [AObj.cells []] ++ [AObj.cells (crashed ks 0 P D).flatten] = h4 at hs4 hd4 hn4 ⊢
      simp -implicitDefEqProofs only [c9, a9_0b, a9_1b, a9_2b, a9_3b, a9_4b, a9_5b, a9_6b, a9_7b, a9_8b, a9_9b, a9_10b, a9_11b, a9_12b, a9_13b, a9_14b, a9_15b, a9_16b, a9_17b, a9_18b, a9_19b, a9_20b, a9_21b, a9_22b, a9_23b, WS_skip, WS_ops, WS_seq, WS_block, WS_cond, WS_exit, WS_ret, WB_true, WB_false, RS_nil, RS_seq, RS_seqE, RS_seqR, RS_blk, RS_blkE, RS_blkR, WP_nil, WP_cons, WP_guard, WG_true, WG_false, WX_val, WX_enter, KC_nil, getK_some, QC_normal, QC_ret, QL_normal, QL_exit, QL_ret, nbeq, ibeq, iltn, ilen, ite_true, ite_false, evalOp, wantedA, Opd.ev, evs, Env.get, Env.set, Env.get_set, List.cons.injEq, and_false, false_and, and_self, putE, cond, againOk, getAll, getRes, packed, eqOp, isNilV, scalarK, arithOp, unOpA, takeN, List.drop, true_and, and_true, reduceIte, reduceCtorEq, false_implies, forall_const, iLe_eq, iLt_eq, iEq_eq, decide_true, decide_false, Bool.not_true, Bool.not_false, Bool.true_and, Bool.and_true, Bool.false_and, Bool.and_false, beq_self_eq_true, imp_self, Bool.true_eq_false, Bool.false_eq_true, Nat.zero_add, Nat.add_zero, Nat.zero_mul, Nat.mul_one, Nat.one_mul, Nat.sub_zero, beqT, beqF, g0, AV.cellsOk, List.length_cons, List.length_nil, Nat.reduceAdd, stOwn hs4, (fun d => stOwn (hc_set (d := d) hs4)), splice, List.set_set]
      have l1 := hc_lt hs2
      have l2 := hc_lt S2.hd
      have sm4 : Same h h4 [s, di] := by
        rw [← hh4]; exact Same.trans (F1 := [s, di]) (Same.trans (F1 := [s, di]) sm2 (Same.app _ _ _) fun j hj => .inl hj) (Same.app _ _ _) fun j hj => .inl hj
      refine hk _ (h2.length + 1) ?_ (Same.trans (F1 := [s, di]) sm4 (Same.set (by simp)) fun j hj => .inl hj) (by have := sm2.1; omega)
      refine ⟨⟨_, _, hc_set hs4⟩, by rw [hc_set_ne S1.sd]; exact hd4, by rw [hc_set_ne (by omega)]; exact hn4, fun h => absurd rfl h, S2.aD, S2.aD, by simp, rfl, S2.big, S1.sd, by omega, by omega⟩
end
end Go.Proofs.Ytohjmflbgohkhaa.E
