/- BookTorn: the law's loop over the bytes of the leaf. -/
import Derived.Test.YtohjmflbgohkhaaS10
namespace Go.Proofs.Ytohjmflbgohkhaa.E
set_option linter.all false
open Go

/- what a byte of the leaf must be -/
def wantB (kept : Int) (cut : Nat) (os ns : List AV) (j : Nat) : AV :=
  if kept ≤ Int.ofNat j ∧ j < os.length ∧ j < cut then os.getD j z8 else if Int.ofNat j < kept ∧ j < ns.length ∧ j < cut then ns.getD j z8 else z8

def Bytes (l : List AV) : Prop := ∀ c ∈ l, ∃ n, c = .int .u8 n

theorem src_len {B : Base} {bv : AV} {cs : List AV} (hb : Src B bv cs) (h : AHeap) : lenR bv h = some (.val (.int .i64 (.ofNat cs.length)) h) := by
  rcases hb with ⟨rfl, rfl⟩ | ⟨b, o, c, e, rfl, -⟩ <;> rfl

theorem base_get {B : Base} {b : Nat} : ∀ {n o : Nat} {cs : List AV}, baseCells B b o n = some cs → ∀ j, j < n → ∃ v, cs[j]? = some v ∧ B b (o + j) = some v
  | 0, _, _, _, j, hj => by omega
  | n + 1, o, cs, hb, j, hj => by
    simp only [baseCells] at hb
    split at hb
    · rename_i v hv
      split at hb
      · rename_i l hl
        cases hb
        cases j with
        | zero => exact ⟨v, rfl, hv⟩
        | succ j =>
          obtain ⟨w, h1, h2⟩ := base_get hl j (by omega)
          exact ⟨w, h1, by rw [show o + (j + 1) = o + 1 + j by omega]; exact h2⟩
      · cases hb
    · cases hb

theorem baseCells1 {B : Base} {b o : Nat} {v} (h : B b o = some v) : baseCells B b o 1 = some [v] := by
  simp [baseCells, h]

/- the byte of a list from elsewhere -/
theorem src_idx {B : Base} {bv : AV} {cs : List AV} (hb : Src B bv cs) {j : Nat} (hj : j < cs.length) (h : AHeap) :
    ∃ b o, idxSR 1 bv (.int .i64 (.ofNat j)) h = some (.val (.ptr b o) h) ∧ loadN B h b o 1 = some [cs.getD j z8] := by
  rcases hb with ⟨rfl, rfl⟩ | ⟨b, o, c, e, rfl, hb⟩
  · simp at hj
  · obtain ⟨v, h1, h2⟩ := base_get hb j hj
    refine ⟨.base b, o + j * 1, ?_, ?_⟩
    · rw [r_idxS, inRange_ok hj, r_ptr]
    · show baseCells B b (o + j * 1) 1 = _
      rw [Nat.mul_one, baseCells1 h2, List.getD_eq_getElem?_getD, h1]; rfl

section
variable {B : Base} {h : AHeap}

set_option maxHeartbeats 1000000 in
theorem torn_loop {kept : Int} {cut x : Nat} {ov nv : AV} {os ns l : List AV} (ho : Src B ov os) (hn : Src B nv ns) (hx : hcells h x = some l) (hl : l.length = 64) (hb : Bytes l)
    (hw : ∀ j, j < 64 → l.getD j z8 = wantB kept cut os ns j) (hc : cut ≤ 64) {env : Env}
    (e1 : env.get [true] = ov) (e2 : env.get [false] = nv) (e3 : env.get [true, true] = .int .i64 kept) (e18 : env.get [false, false, true, true] = .slice (.own x) 0 64 64 (some 1)) (e20 : env.get [false, true, false, true] = .int .i64 (.ofNat cut))
    {K : AV → AHeap → Prop} (hk : K (.bool true) h) : WS B G a3_26 [] env h (QC B a3 K) := by
  simp -implicitDefEqProofs only [c3, a3_0b, a3_1b, a3_2b, a3_3b, a3_4b, a3_5b, a3_6b, a3_7b, a3_8b, a3_9b, a3_10b, a3_11b, a3_12b, a3_13b, a3_14b, a3_15b, a3_16b, a3_17b, a3_18b, a3_19b, a3_20b, a3_21b, a3_22b, a3_23b, a3_24b, a3_25b, a3_26b, a3_27b, a3_28b, a3_29b, a3_30b, a3_31b, a3_32b, a3_33b, a3_34b, a3_35b, a3_36b, a3_37b, a3_38b, a3_39b, a3_40b, a3_41b, a3_42b, a3_43b, a3_44b, a3_45b, a3_46b, a3_47b, a3_48b, WS_skip, WS_ops, WS_seq, WS_block, WS_cond, WS_exit, WS_ret, WB_true, WB_false, RS_nil, RS_seq, RS_seqE, RS_seqR, RS_blk, RS_blkE, RS_blkR, WP_nil, WP_cons, WP_guard, WG_true, WG_false, WX_val, WX_enter, KC_nil, getK_some, QC_normal, QC_ret, QL_normal, QL_exit, QL_ret, nbeq, ibeq, iltn, ilen, ite_true, ite_false, EV, ER, fill_nil, fill_cons, fillK_some, fillJ_some, AV.cellsOk, wantedA, Opd.ev, evs, Env.get, Env.set, Env.get_set, List.cons.injEq, and_false, false_and, and_self, putE, cond, againOk, getAll, getRes, packed, eqOp, isNilV, scalarK, arithOp, unOpA, takeN, List.drop, true_and, and_true, reduceIte, reduceCtorEq, false_implies, forall_const, iLe_eq, iLt_eq, iEq_eq, decide_true, decide_false, Bool.not_true, Bool.not_false, Bool.true_and, Bool.and_true, Bool.false_and, Bool.and_false, beq_self_eq_true, imp_self, Bool.true_eq_false, Bool.false_eq_true, Nat.zero_add, Nat.add_zero, Nat.zero_mul, Nat.mul_one, Nat.one_mul, Nat.sub_zero, beqT, beqF]
  refine WS_loop (k := 64) (fun k env h' => ∃ j, k = 64 - j ∧ j ≤ 64 ∧ h' = h ∧ env.get [true] = ov ∧ env.get [false] = nv ∧ env.get [true, true] = .int .i64 kept ∧ env.get [false, false, true, true] = .slice (.own x) 0 64 64 (some 1) ∧ env.get [false, true, false, true] = .int .i64 (.ofNat cut) ∧ env.get [true, false, false, true] = .int .i64 (.ofNat j)) ?_ ?_
  · exact ⟨0, by simp [Env.get_set, e1, e2, e3, e18, e20]⟩
  · rintro k env h' ⟨j, rfl, hj, rfl, e1, e2, e3, e18, e20, e21⟩
    have t1 := src_len ho h'
    have t2 := src_len hn h'
    by_cases hj2 : j = 64
    · subst hj2
      have d1 : decide (64 < 64) = false := rfl
      simp -implicitDefEqProofs only [c3, a3_0b, a3_1b, a3_2b, a3_3b, a3_4b, a3_5b, a3_6b, a3_7b, a3_8b, a3_9b, a3_10b, a3_11b, a3_12b, a3_13b, a3_14b, a3_15b, a3_16b, a3_17b, a3_18b, a3_19b, a3_20b, a3_21b, a3_22b, a3_23b, a3_24b, a3_25b, a3_26b, a3_27b, a3_28b, a3_29b, a3_30b, a3_31b, a3_32b, a3_33b, a3_34b, a3_35b, a3_36b, a3_37b, a3_38b, a3_39b, a3_40b, a3_41b, a3_42b, a3_43b, a3_44b, a3_45b, a3_46b, a3_47b, a3_48b, WS_skip, WS_ops, WS_seq, WS_block, WS_cond, WS_exit, WS_ret, WB_true, WB_false, RS_nil, RS_seq, RS_seqE, RS_seqR, RS_blk, RS_blkE, RS_blkR, WP_nil, WP_cons, WP_guard, WG_true, WG_false, WX_val, WX_enter, KC_nil, getK_some, QC_normal, QC_ret, QL_normal, QL_exit, QL_ret, nbeq, ibeq, iltn, ilen, ite_true, ite_false, EV, ER, fill_nil, fill_cons, fillK_some, fillJ_some, AV.cellsOk, wantedA, Opd.ev, evs, Env.get, Env.set, Env.get_set, List.cons.injEq, and_false, false_and, and_self, putE, cond, againOk, getAll, getRes, packed, eqOp, isNilV, scalarK, arithOp, unOpA, takeN, List.drop, true_and, and_true, reduceIte, reduceCtorEq, false_implies, forall_const, iLe_eq, iLt_eq, iEq_eq, decide_true, decide_false, Bool.not_true, Bool.not_false, Bool.true_and, Bool.and_true, Bool.false_and, Bool.and_false, beq_self_eq_true, imp_self, Bool.true_eq_false, Bool.false_eq_true, Nat.zero_add, Nat.add_zero, Nat.zero_mul, Nat.mul_one, Nat.one_mul, Nat.sub_zero, beqT, beqF, e21, QL_exit, d1, shelves_is]
      exact hk
    · have hj3 : j < 64 := by omega
      have d1 : decide (j < 64) = true := by simpa using hj3
      have ll : loadN B h' (.own x) j 1 = some [l.getD j z8] := by
        rw [ldOwn hx]
        have hjl : j < l.length := by omega
        rw [List.drop_eq_getElem_cons hjl]
        simp [takeN, hjl]
      have ir := inRange_ok hj3
      have hwj := hw j hj3
      have hbj : ∃ n, l.getD j z8 = .int .u8 n := by
        have hjl : j < l.length := by omega
        simp only [List.getD_eq_getElem?_getD, List.getElem?_eq_getElem hjl, Option.getD_some]
        exact hb _ (List.getElem_mem hjl)
      obtain ⟨n, hn0⟩ := hbj
      rw [hn0] at ll
      rw [hn0] at hwj
      have ea : awrap .i64 (iAdd (.ofNat j) (.ofNat 1)) = .ofNat (j + 1) := by
        rw [awrap_eq]; exact IntWalk.i64_in _ ⟨by show _ ≤ ((j + 1 : Nat) : Int); omega, by show ((j + 1 : Nat) : Int) ≤ _; omega⟩
      have fin : ∀ env1 : Env, env1.get [true] = ov → env1.get [false] = nv → env1.get [true, true] = .int .i64 kept → env1.get [false, false, true, true] = .slice (.own x) 0 64 64 (some 1) → env1.get [false, true, false, true] = .int .i64 (.ofNat cut) → env1.get [true, false, false, true] = .int .i64 (.ofNat j) →
          env1.get [false, false, false, true] = .int .u8 n → WS B G a3_44b [.blk 1, .seq a3_47] env1 h' (QL B G (fun k env h => ∃ j, k = 64 - j ∧ j ≤ 64 ∧ h = h' ∧ env.get [true] = ov ∧ env.get [false] = nv ∧ env.get [true, true] = .int .i64 kept ∧ env.get [false, false, true, true] = .slice (.own x) 0 64 64 (some 1) ∧ env.get [false, true, false, true] = .int .i64 (.ofNat cut) ∧ env.get [true, false, false, true] = .int .i64 (.ofNat j)) (64 - j) [.blk 0, .seq a3_48] (QC B a3 K)) := by
        intro env1 e1 e2 e3 e18 e20 e21 e22
        have hne : (n == n) = true := by simp
        simp -implicitDefEqProofs only [c3, a3_0b, a3_1b, a3_2b, a3_3b, a3_4b, a3_5b, a3_6b, a3_7b, a3_8b, a3_9b, a3_10b, a3_11b, a3_12b, a3_13b, a3_14b, a3_15b, a3_16b, a3_17b, a3_18b, a3_19b, a3_20b, a3_21b, a3_22b, a3_23b, a3_24b, a3_25b, a3_26b, a3_27b, a3_28b, a3_29b, a3_30b, a3_31b, a3_32b, a3_33b, a3_34b, a3_35b, a3_36b, a3_37b, a3_38b, a3_39b, a3_40b, a3_41b, a3_42b, a3_43b, a3_44b, a3_45b, a3_46b, a3_47b, a3_48b, WS_skip, WS_ops, WS_seq, WS_block, WS_cond, WS_exit, WS_ret, WB_true, WB_false, RS_nil, RS_seq, RS_seqE, RS_seqR, RS_blk, RS_blkE, RS_blkR, WP_nil, WP_cons, WP_guard, WG_true, WG_false, WX_val, WX_enter, KC_nil, getK_some, QC_normal, QC_ret, QL_normal, QL_exit, QL_ret, nbeq, ibeq, iltn, ilen, ite_true, ite_false, EV, ER, fill_nil, fill_cons, fillK_some, fillJ_some, AV.cellsOk, wantedA, Opd.ev, evs, Env.get, Env.set, Env.get_set, List.cons.injEq, and_false, false_and, and_self, putE, cond, againOk, getAll, getRes, packed, eqOp, isNilV, scalarK, arithOp, unOpA, takeN, List.drop, true_and, and_true, reduceIte, reduceCtorEq, false_implies, forall_const, iLe_eq, iLt_eq, iEq_eq, decide_true, decide_false, Bool.not_true, Bool.not_false, Bool.true_and, Bool.and_true, Bool.false_and, Bool.and_false, beq_self_eq_true, imp_self, Bool.true_eq_false, Bool.false_eq_true, Nat.zero_add, Nat.add_zero, Nat.zero_mul, Nat.mul_one, Nat.one_mul, Nat.sub_zero, beqT, beqF, e21, e18, e22, ir, ll, hne, ea, QL_normal]
        exact ⟨64 - (j + 1), by omega, j + 1, rfl, by omega, by simp [Env.get_set, e1, e2, e3, e18, e20, e21]⟩
      unfold wantB at hwj
      by_cases hkj : kept ≤ Int.ofNat j
      · have d2 : decide (Int.ofNat j < kept) = false := decide_eq_false (by omega)
        have d3 : decide (kept ≤ Int.ofNat j) = true := decide_eq_true hkj
        rw [if_neg (c := Int.ofNat j < kept ∧ _) (by omega)] at hwj
        by_cases ha : j < os.length
        · have d4 : decide (j < os.length) = true := decide_eq_true ha
          by_cases hcj : j < cut
          · have d5 : decide (j < cut) = true := decide_eq_true hcj
            obtain ⟨b, o, x1, x2⟩ := src_idx ho ha h'
            rw [if_pos ⟨hkj, ha, hcj⟩] at hwj
            simp -implicitDefEqProofs only [c3, a3_0b, a3_1b, a3_2b, a3_3b, a3_4b, a3_5b, a3_6b, a3_7b, a3_8b, a3_9b, a3_10b, a3_11b, a3_12b, a3_13b, a3_14b, a3_15b, a3_16b, a3_17b, a3_18b, a3_19b, a3_20b, a3_21b, a3_22b, a3_23b, a3_24b, a3_25b, a3_26b, a3_27b, a3_28b, a3_29b, a3_30b, a3_31b, a3_32b, a3_33b, a3_34b, a3_35b, a3_36b, a3_37b, a3_38b, a3_39b, a3_40b, a3_41b, a3_42b, a3_43b, a3_45b, a3_46b, a3_47b, a3_48b, WS_skip, WS_ops, WS_seq, WS_block, WS_cond, WS_exit, WS_ret, WB_true, WB_false, RS_nil, RS_seq, RS_seqE, RS_seqR, RS_blk, RS_blkE, RS_blkR, WP_nil, WP_cons, WP_guard, WG_true, WG_false, WX_val, WX_enter, KC_nil, getK_some, QC_normal, QC_ret, QL_normal, QL_exit, QL_ret, nbeq, ibeq, iltn, ilen, ite_true, ite_false, EV, ER, fill_nil, fill_cons, fillK_some, fillJ_some, AV.cellsOk, wantedA, Opd.ev, evs, Env.get, Env.set, Env.get_set, List.cons.injEq, and_false, false_and, and_self, putE, cond, againOk, getAll, getRes, packed, eqOp, isNilV, scalarK, arithOp, unOpA, takeN, List.drop, true_and, and_true, reduceIte, reduceCtorEq, false_implies, forall_const, iLe_eq, iLt_eq, iEq_eq, decide_true, decide_false, Bool.not_true, Bool.not_false, Bool.true_and, Bool.and_true, Bool.false_and, Bool.and_false, beq_self_eq_true, imp_self, Bool.true_eq_false, Bool.false_eq_true, Nat.zero_add, Nat.add_zero, Nat.zero_mul, Nat.mul_one, Nat.one_mul, Nat.sub_zero, beqT, beqF, e1, e2, e3, e20, e21, d1, d2, d3, d4, d5, t1, t2, x1, x2]
            exact fin _ (by simp [Env.get_set, e1]) (by simp [Env.get_set, e2]) (by simp [Env.get_set, e3]) (by simp [Env.get_set, e18]) (by simp [Env.get_set, e20]) (by simp [Env.get_set, e21]) (by rw [hwj]; simp [Env.get_set])
          · have d5 : decide (j < cut) = false := decide_eq_false hcj
            rw [if_neg (by omega)] at hwj
            simp -implicitDefEqProofs only [c3, a3_0b, a3_1b, a3_2b, a3_3b, a3_4b, a3_5b, a3_6b, a3_7b, a3_8b, a3_9b, a3_10b, a3_11b, a3_12b, a3_13b, a3_14b, a3_15b, a3_16b, a3_17b, a3_18b, a3_19b, a3_20b, a3_21b, a3_22b, a3_23b, a3_24b, a3_25b, a3_26b, a3_27b, a3_28b, a3_29b, a3_30b, a3_31b, a3_32b, a3_33b, a3_34b, a3_35b, a3_36b, a3_37b, a3_38b, a3_39b, a3_40b, a3_41b, a3_42b, a3_43b, a3_45b, a3_46b, a3_47b, a3_48b, WS_skip, WS_ops, WS_seq, WS_block, WS_cond, WS_exit, WS_ret, WB_true, WB_false, RS_nil, RS_seq, RS_seqE, RS_seqR, RS_blk, RS_blkE, RS_blkR, WP_nil, WP_cons, WP_guard, WG_true, WG_false, WX_val, WX_enter, KC_nil, getK_some, QC_normal, QC_ret, QL_normal, QL_exit, QL_ret, nbeq, ibeq, iltn, ilen, ite_true, ite_false, EV, ER, fill_nil, fill_cons, fillK_some, fillJ_some, AV.cellsOk, wantedA, Opd.ev, evs, Env.get, Env.set, Env.get_set, List.cons.injEq, and_false, false_and, and_self, putE, cond, againOk, getAll, getRes, packed, eqOp, isNilV, scalarK, arithOp, unOpA, takeN, List.drop, true_and, and_true, reduceIte, reduceCtorEq, false_implies, forall_const, iLe_eq, iLt_eq, iEq_eq, decide_true, decide_false, Bool.not_true, Bool.not_false, Bool.true_and, Bool.and_true, Bool.false_and, Bool.and_false, beq_self_eq_true, imp_self, Bool.true_eq_false, Bool.false_eq_true, Nat.zero_add, Nat.add_zero, Nat.zero_mul, Nat.mul_one, Nat.one_mul, Nat.sub_zero, beqT, beqF, e1, e2, e3, e20, e21, d1, d2, d3, d4, d5, t1, t2]
            exact fin _ (by simp [Env.get_set, e1]) (by simp [Env.get_set, e2]) (by simp [Env.get_set, e3]) (by simp [Env.get_set, e18]) (by simp [Env.get_set, e20]) (by simp [Env.get_set, e21]) (by simp [Env.get_set, z8] at hwj ⊢; exact hwj.symm)
        · have d4 : decide (j < os.length) = false := decide_eq_false ha
          rw [if_neg (by omega)] at hwj
          simp -implicitDefEqProofs only [c3, a3_0b, a3_1b, a3_2b, a3_3b, a3_4b, a3_5b, a3_6b, a3_7b, a3_8b, a3_9b, a3_10b, a3_11b, a3_12b, a3_13b, a3_14b, a3_15b, a3_16b, a3_17b, a3_18b, a3_19b, a3_20b, a3_21b, a3_22b, a3_23b, a3_24b, a3_25b, a3_26b, a3_27b, a3_28b, a3_29b, a3_30b, a3_31b, a3_32b, a3_33b, a3_34b, a3_35b, a3_36b, a3_37b, a3_38b, a3_39b, a3_40b, a3_41b, a3_42b, a3_43b, a3_45b, a3_46b, a3_47b, a3_48b, WS_skip, WS_ops, WS_seq, WS_block, WS_cond, WS_exit, WS_ret, WB_true, WB_false, RS_nil, RS_seq, RS_seqE, RS_seqR, RS_blk, RS_blkE, RS_blkR, WP_nil, WP_cons, WP_guard, WG_true, WG_false, WX_val, WX_enter, KC_nil, getK_some, QC_normal, QC_ret, QL_normal, QL_exit, QL_ret, nbeq, ibeq, iltn, ilen, ite_true, ite_false, EV, ER, fill_nil, fill_cons, fillK_some, fillJ_some, AV.cellsOk, wantedA, Opd.ev, evs, Env.get, Env.set, Env.get_set, List.cons.injEq, and_false, false_and, and_self, putE, cond, againOk, getAll, getRes, packed, eqOp, isNilV, scalarK, arithOp, unOpA, takeN, List.drop, true_and, and_true, reduceIte, reduceCtorEq, false_implies, forall_const, iLe_eq, iLt_eq, iEq_eq, decide_true, decide_false, Bool.not_true, Bool.not_false, Bool.true_and, Bool.and_true, Bool.false_and, Bool.and_false, beq_self_eq_true, imp_self, Bool.true_eq_false, Bool.false_eq_true, Nat.zero_add, Nat.add_zero, Nat.zero_mul, Nat.mul_one, Nat.one_mul, Nat.sub_zero, beqT, beqF, e1, e2, e3, e20, e21, d1, d2, d3, d4, t1, t2]
          exact fin _ (by simp [Env.get_set, e1]) (by simp [Env.get_set, e2]) (by simp [Env.get_set, e3]) (by simp [Env.get_set, e18]) (by simp [Env.get_set, e20]) (by simp [Env.get_set, e21]) (by simp [Env.get_set, z8] at hwj ⊢; exact hwj.symm)
      · have d2 : decide (Int.ofNat j < kept) = true := decide_eq_true (by omega)
        have d3 : decide (kept ≤ Int.ofNat j) = false := decide_eq_false hkj
        rw [if_neg (c := kept ≤ Int.ofNat j ∧ _) (by omega)] at hwj
        by_cases ha : j < ns.length
        · have d4 : decide (j < ns.length) = true := decide_eq_true ha
          by_cases hcj : j < cut
          · have d5 : decide (j < cut) = true := decide_eq_true hcj
            obtain ⟨b, o, x1, x2⟩ := src_idx hn ha h'
            rw [if_pos ⟨by omega, ha, hcj⟩] at hwj
            simp -implicitDefEqProofs only [c3, a3_0b, a3_1b, a3_2b, a3_3b, a3_4b, a3_5b, a3_6b, a3_7b, a3_8b, a3_9b, a3_10b, a3_11b, a3_12b, a3_13b, a3_14b, a3_15b, a3_16b, a3_17b, a3_18b, a3_19b, a3_20b, a3_21b, a3_22b, a3_23b, a3_24b, a3_25b, a3_26b, a3_27b, a3_28b, a3_29b, a3_30b, a3_31b, a3_32b, a3_33b, a3_34b, a3_35b, a3_36b, a3_37b, a3_38b, a3_39b, a3_40b, a3_41b, a3_42b, a3_43b, a3_45b, a3_46b, a3_47b, a3_48b, WS_skip, WS_ops, WS_seq, WS_block, WS_cond, WS_exit, WS_ret, WB_true, WB_false, RS_nil, RS_seq, RS_seqE, RS_seqR, RS_blk, RS_blkE, RS_blkR, WP_nil, WP_cons, WP_guard, WG_true, WG_false, WX_val, WX_enter, KC_nil, getK_some, QC_normal, QC_ret, QL_normal, QL_exit, QL_ret, nbeq, ibeq, iltn, ilen, ite_true, ite_false, EV, ER, fill_nil, fill_cons, fillK_some, fillJ_some, AV.cellsOk, wantedA, Opd.ev, evs, Env.get, Env.set, Env.get_set, List.cons.injEq, and_false, false_and, and_self, putE, cond, againOk, getAll, getRes, packed, eqOp, isNilV, scalarK, arithOp, unOpA, takeN, List.drop, true_and, and_true, reduceIte, reduceCtorEq, false_implies, forall_const, iLe_eq, iLt_eq, iEq_eq, decide_true, decide_false, Bool.not_true, Bool.not_false, Bool.true_and, Bool.and_true, Bool.false_and, Bool.and_false, beq_self_eq_true, imp_self, Bool.true_eq_false, Bool.false_eq_true, Nat.zero_add, Nat.add_zero, Nat.zero_mul, Nat.mul_one, Nat.one_mul, Nat.sub_zero, beqT, beqF, e1, e2, e3, e20, e21, d1, d2, d3, d4, d5, t1, t2, x1, x2]
            exact fin _ (by simp [Env.get_set, e1]) (by simp [Env.get_set, e2]) (by simp [Env.get_set, e3]) (by simp [Env.get_set, e18]) (by simp [Env.get_set, e20]) (by simp [Env.get_set, e21]) (by rw [hwj]; simp [Env.get_set])
          · have d5 : decide (j < cut) = false := decide_eq_false hcj
            rw [if_neg (by omega)] at hwj
            simp -implicitDefEqProofs only [c3, a3_0b, a3_1b, a3_2b, a3_3b, a3_4b, a3_5b, a3_6b, a3_7b, a3_8b, a3_9b, a3_10b, a3_11b, a3_12b, a3_13b, a3_14b, a3_15b, a3_16b, a3_17b, a3_18b, a3_19b, a3_20b, a3_21b, a3_22b, a3_23b, a3_24b, a3_25b, a3_26b, a3_27b, a3_28b, a3_29b, a3_30b, a3_31b, a3_32b, a3_33b, a3_34b, a3_35b, a3_36b, a3_37b, a3_38b, a3_39b, a3_40b, a3_41b, a3_42b, a3_43b, a3_45b, a3_46b, a3_47b, a3_48b, WS_skip, WS_ops, WS_seq, WS_block, WS_cond, WS_exit, WS_ret, WB_true, WB_false, RS_nil, RS_seq, RS_seqE, RS_seqR, RS_blk, RS_blkE, RS_blkR, WP_nil, WP_cons, WP_guard, WG_true, WG_false, WX_val, WX_enter, KC_nil, getK_some, QC_normal, QC_ret, QL_normal, QL_exit, QL_ret, nbeq, ibeq, iltn, ilen, ite_true, ite_false, EV, ER, fill_nil, fill_cons, fillK_some, fillJ_some, AV.cellsOk, wantedA, Opd.ev, evs, Env.get, Env.set, Env.get_set, List.cons.injEq, and_false, false_and, and_self, putE, cond, againOk, getAll, getRes, packed, eqOp, isNilV, scalarK, arithOp, unOpA, takeN, List.drop, true_and, and_true, reduceIte, reduceCtorEq, false_implies, forall_const, iLe_eq, iLt_eq, iEq_eq, decide_true, decide_false, Bool.not_true, Bool.not_false, Bool.true_and, Bool.and_true, Bool.false_and, Bool.and_false, beq_self_eq_true, imp_self, Bool.true_eq_false, Bool.false_eq_true, Nat.zero_add, Nat.add_zero, Nat.zero_mul, Nat.mul_one, Nat.one_mul, Nat.sub_zero, beqT, beqF, e1, e2, e3, e20, e21, d1, d2, d3, d4, d5, t1, t2]
            exact fin _ (by simp [Env.get_set, e1]) (by simp [Env.get_set, e2]) (by simp [Env.get_set, e3]) (by simp [Env.get_set, e18]) (by simp [Env.get_set, e20]) (by simp [Env.get_set, e21]) (by simp [Env.get_set, z8] at hwj ⊢; exact hwj.symm)
        · have d4 : decide (j < ns.length) = false := decide_eq_false ha
          rw [if_neg (by omega)] at hwj
          simp -implicitDefEqProofs only [c3, a3_0b, a3_1b, a3_2b, a3_3b, a3_4b, a3_5b, a3_6b, a3_7b, a3_8b, a3_9b, a3_10b, a3_11b, a3_12b, a3_13b, a3_14b, a3_15b, a3_16b, a3_17b, a3_18b, a3_19b, a3_20b, a3_21b, a3_22b, a3_23b, a3_24b, a3_25b, a3_26b, a3_27b, a3_28b, a3_29b, a3_30b, a3_31b, a3_32b, a3_33b, a3_34b, a3_35b, a3_36b, a3_37b, a3_38b, a3_39b, a3_40b, a3_41b, a3_42b, a3_43b, a3_45b, a3_46b, a3_47b, a3_48b, WS_skip, WS_ops, WS_seq, WS_block, WS_cond, WS_exit, WS_ret, WB_true, WB_false, RS_nil, RS_seq, RS_seqE, RS_seqR, RS_blk, RS_blkE, RS_blkR, WP_nil, WP_cons, WP_guard, WG_true, WG_false, WX_val, WX_enter, KC_nil, getK_some, QC_normal, QC_ret, QL_normal, QL_exit, QL_ret, nbeq, ibeq, iltn, ilen, ite_true, ite_false, EV, ER, fill_nil, fill_cons, fillK_some, fillJ_some, AV.cellsOk, wantedA, Opd.ev, evs, Env.get, Env.set, Env.get_set, List.cons.injEq, and_false, false_and, and_self, putE, cond, againOk, getAll, getRes, packed, eqOp, isNilV, scalarK, arithOp, unOpA, takeN, List.drop, true_and, and_true, reduceIte, reduceCtorEq, false_implies, forall_const, iLe_eq, iLt_eq, iEq_eq, decide_true, decide_false, Bool.not_true, Bool.not_false, Bool.true_and, Bool.and_true, Bool.false_and, Bool.and_false, beq_self_eq_true, imp_self, Bool.true_eq_false, Bool.false_eq_true, Nat.zero_add, Nat.add_zero, Nat.zero_mul, Nat.mul_one, Nat.one_mul, Nat.sub_zero, beqT, beqF, e1, e2, e3, e20, e21, d1, d2, d3, d4, t1, t2]
          exact fin _ (by simp [Env.get_set, e1]) (by simp [Env.get_set, e2]) (by simp [Env.get_set, e3]) (by simp [Env.get_set, e18]) (by simp [Env.get_set, e20]) (by simp [Env.get_set, e21]) (by simp [Env.get_set, z8] at hwj ⊢; exact hwj.symm)
end
end Go.Proofs.Ytohjmflbgohkhaa.E
