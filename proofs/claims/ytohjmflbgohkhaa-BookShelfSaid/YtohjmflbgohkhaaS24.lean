/- BookShelf: the law's own body. -/
import Derived.Test.YtohjmflbgohkhaaS23
import Derived.Test.YtohjmflbgohkhaaS10
import Derived.Test.YtohjmflbgohkhaaEngZK
namespace Go.Proofs.Ytohjmflbgohkhaa.E
set_option linter.all false
open Go

/- an operation of the script, as it is read -/
abbrev Op := Int × Int × List Int × Int × List Int × Unit
def decOp : Dec Op := .pair (.int .u8) (.pair (.int .i64) (.pair (.slice (.int .u8)) (.pair (.int .i64) (.pair (.slice (.int .i64)) .unit))))

def OpAt (B : Base) (a : Op) (cs : List AV) : Prop := ∃ bv kv, cs = [.int .u8 a.1, .int .i64 a.2.1, bv, .int .i64 a.2.2.2.1, kv] ∧ (Lit.int .u8 a.1).wf = true ∧ (Lit.int .i64 a.2.2.2.1).wf = true ∧
  (Dec.slice (Dec.int .u8)).rd B [bv] a.2.2.1 ∧ (Dec.slice (Dec.int .i64)).rd B [kv] a.2.2.2.2.1

theorem sl_one {α} {d : Dec α} {B : Base} {y : List AV} {l : List α} (h : (Dec.slice d).rd B y l) : ∃ v, y = [v] ∧ (Dec.slice d).rd B [v] l := by
  rcases h with ⟨rfl, rfl⟩ | ⟨b, o, cap, rfl, h⟩
  · exact ⟨_, rfl, .inl ⟨rfl, rfl⟩⟩
  · exact ⟨_, rfl, .inr ⟨b, o, cap, rfl, h⟩⟩

theorem opAt_of {B : Base} {a : Op} {cs : List AV} (h : decOp.rd B cs a) : OpAt B a cs := by
  obtain ⟨x0, y0, rfl, ⟨rfl, w0⟩, x1, y1, rfl, ⟨rfl, w1⟩, x2, y2, rfl, h2, x3, y3, rfl, ⟨rfl, w3⟩, x4, y4, rfl, h4, h5⟩ := h
  have h5 : y4 = [] := h5
  subst h5
  obtain ⟨bv, rfl, h2⟩ := sl_one h2
  obtain ⟨kv, rfl, h4⟩ := sl_one h4
  exact ⟨bv, kv, rfl, w0, w3, h2, h4⟩

def Script (B : Base) (sv : AV) (ops : List Op) : Prop := (sv = .nilslice ∧ ops = []) ∨
  ∃ b o cap, sv = .slice (.base b) o ops.length cap none ∧ ∀ (i : Nat) a, ops[i]? = some a → ∃ c, baseCells B b (o + i * 5) 5 = some c ∧ OpAt B a c
theorem script_of {B : Base} {sv : AV} {ops : List Op} (h : (Dec.slice decOp).rd B [sv] ops) : Script B sv ops := by
  rcases h with ⟨h1, rfl⟩ | ⟨b, o, cap, h1, -, -, h2⟩
  · cases h1; exact .inl ⟨rfl, rfl⟩
  · cases h1
    exact .inr ⟨b, o, cap, rfl, fun i a hi => by
      obtain ⟨c, h3, h4⟩ := h2 i a hi
      exact ⟨c, h3, opAt_of h4⟩⟩

theorem cells5 {B : Base} {b p : Nat} {c0 c1 c2 c3 c4 : AV} (h : baseCells B b p 5 = some [c0, c1, c2, c3, c4]) : B b (p + 2) = some c2 ∧ B b (p + 4) = some c4 := by
  simp only [baseCells] at h
  cases e0 : B b p with
  | none => rw [e0] at h; cases h
  | some v0 =>
  cases e1 : B b (p + 1) with
  | none => rw [e0, e1] at h; cases h
  | some v1 =>
  cases e2 : B b (p + 1 + 1) with
  | none => rw [e0, e1, e2] at h; cases h
  | some v2 =>
  cases e3 : B b (p + 1 + 1 + 1) with
  | none => rw [e0, e1, e2, e3] at h; cases h
  | some v3 =>
  cases e4 : B b (p + 1 + 1 + 1 + 1) with
  | none => rw [e0, e1, e2, e3, e4] at h; cases h
  | some v4 =>
    rw [e0, e1, e2, e3, e4] at h
    cases h
    exact ⟨rfl, rfl⟩
theorem base1 {B : Base} {b p : Nat} {v} (h : B b p = some v) (hp : AHeap) : loadN B hp (.base b) p 1 = some [v] := by
  show baseCells B b p 1 = _
  simp [baseCells, h]
theorem sl_len {α} {d : Dec α} {B : Base} {v : AV} {l : List α} (h : (Dec.slice d).rd B [v] l) (hp : AHeap) : lenR v hp = some (.val (.int .i64 (.ofNat l.length)) hp) := by
  rcases h with ⟨h1, rfl⟩ | ⟨b, o, cap, h1, -⟩
  · cases h1; rfl
  · cases h1; rfl

def AllSmall (ops : List Op) : Prop := ops.length ≤ 200 ∧ ∀ a ∈ ops, a.2.2.1.length ≤ 200 ∧ a.2.2.2.2.1.length ≤ 200

section
variable {B : Base} {h : AHeap}

theorem script_len {sv : AV} {ops : List Op} (hs : Script B sv ops) (h : AHeap) : lenR sv h = some (.val (.int .i64 (.ofNat ops.length)) h) := by
  rcases hs with ⟨rfl, rfl⟩ | ⟨b, o, cap, rfl, -⟩ <;> rfl
theorem script_idx {sv : AV} {ops : List Op} (hs : Script B sv ops) {j : Nat} {a} (hj : ops[j]? = some a) (h : AHeap) :
    ∃ b p c, idxSR 5 sv (.int .i64 (.ofNat j)) h = some (.val (.ptr (.base b) p) h) ∧ baseCells B b p 5 = some c ∧ OpAt B a c := by
  rcases hs with ⟨rfl, rfl⟩ | ⟨b, o, cap, rfl, h2⟩
  · simp at hj
  · obtain ⟨c, h3, h4⟩ := h2 j a hj
    exact ⟨b, o + j * 5, c, by rw [r_idxS, inRange_ok (List.getElem?_eq_some_iff.1 hj).1, r_ptr], h3, h4⟩

theorem small_ok {sv : AV} {ops : List Op} (hs : Script B sv ops) {K : AV → AHeap → Prop} (hk : ∀ b, (b = true → AllSmall ops) → K (.bool b) h) : WC B G 13 [sv] h K := by
  refine WC_fun (af := a13) rfl rfl rfl ?_
  rw [args1]
  have sl := script_len hs h
  by_cases h200 : 200 < ops.length
  · have d1 : decide (200 < ops.length) = true := decide_eq_true h200
    simp -implicitDefEqProofs only [c13, a13_0b, a13_1b, a13_2b, a13_3b, a13_4b, a13_5b, a13_6b, a13_7b, a13_8b, a13_9b, a13_10b, a13_11b, a13_12b, a13_13b, a13_14b, a13_15b, a13_16b, a13_17b, a13_18b, WS_skip, WS_ops, WS_seq, WS_block, WS_cond, WS_exit, WS_ret, WB_true, WB_false, RS_nil, RS_seq, RS_seqE, RS_seqR, RS_blk, RS_blkE, RS_blkR, WP_nil, WP_cons, WP_guard, WG_true, WG_false, WX_val, WX_enter, KC_nil, getK_some, QC_normal, QC_ret, QL_normal, QL_exit, QL_ret, nbeq, ibeq, iltn, ilen, ite_true, ite_false, EV, ER, fill_nil, fill_cons, fillK_some, fillJ_some, CK, KC_cons, again_nil, again_cons, again_guard, againW_T, againW_F, againR_val, AV.same_refl, wantedA, Opd.ev, evs, Env.get, Env.set, Env.get_set, List.cons.injEq, and_false, false_and, and_self, putE, cond, getAll, getRes, packed, eqOp, isNilV, scalarK, arithOp, unOpA, takeN, List.drop, true_and, and_true, reduceIte, reduceCtorEq, false_implies, forall_const, iLe_eq, iLt_eq, iEq_eq, decide_true, decide_false, Bool.not_true, Bool.not_false, Bool.true_and, Bool.and_true, Bool.false_and, Bool.and_false, beq_self_eq_true, imp_self, Bool.true_eq_false, Bool.false_eq_true, Nat.zero_add, Nat.add_zero, Nat.zero_mul, Nat.mul_one, Nat.one_mul, Nat.sub_zero, beqT, beqF, sl, d1]
    exact hk false (by simp)
  · have d1 : decide (200 < ops.length) = false := decide_eq_false h200
    simp -implicitDefEqProofs only [c13, a13_0b, a13_1b, a13_2b, a13_3b, a13_4b, a13_5b, a13_6b, a13_7b, a13_8b, a13_9b, a13_10b, a13_11b, a13_12b, a13_13b, a13_14b, a13_15b, a13_16b, a13_17b, a13_18b, WS_skip, WS_ops, WS_seq, WS_block, WS_cond, WS_exit, WS_ret, WB_true, WB_false, RS_nil, RS_seq, RS_seqE, RS_seqR, RS_blk, RS_blkE, RS_blkR, WP_nil, WP_cons, WP_guard, WG_true, WG_false, WX_val, WX_enter, KC_nil, getK_some, QC_normal, QC_ret, QL_normal, QL_exit, QL_ret, nbeq, ibeq, iltn, ilen, ite_true, ite_false, EV, ER, fill_nil, fill_cons, fillK_some, fillJ_some, CK, KC_cons, again_nil, again_cons, again_guard, againW_T, againW_F, againR_val, AV.same_refl, wantedA, Opd.ev, evs, Env.get, Env.set, Env.get_set, List.cons.injEq, and_false, false_and, and_self, putE, cond, getAll, getRes, packed, eqOp, isNilV, scalarK, arithOp, unOpA, takeN, List.drop, true_and, and_true, reduceIte, reduceCtorEq, false_implies, forall_const, iLe_eq, iLt_eq, iEq_eq, decide_true, decide_false, Bool.not_true, Bool.not_false, Bool.true_and, Bool.and_true, Bool.false_and, Bool.and_false, beq_self_eq_true, imp_self, Bool.true_eq_false, Bool.false_eq_true, Nat.zero_add, Nat.add_zero, Nat.zero_mul, Nat.mul_one, Nat.one_mul, Nat.sub_zero, beqT, beqF, sl, d1]
    refine WS_loop (k := ops.length) (fun k env h' => ∃ j, k = ops.length - j ∧ j ≤ ops.length ∧ h' = h ∧ (∀ a ∈ ops.take j, a.2.2.1.length ≤ 200 ∧ a.2.2.2.2.1.length ≤ 200) ∧ env.get [] = sv ∧ env.get [true, true] = .int .i64 (.ofNat j)) ?_ ?_
    · exact ⟨0, by simp [Env.get]⟩
    · rintro k env h' ⟨j, rfl, hj, rfl, hall, e0, e3⟩
      by_cases hlt : j < ops.length
      · have d2 : decide (j < ops.length) = true := decide_eq_true hlt
        obtain ⟨a, ha⟩ : ∃ a, ops[j]? = some a := ⟨_, List.getElem?_eq_getElem hlt⟩
        obtain ⟨b, p, c, x1, x2, bv, kv, rfl, -, -, r1, r2⟩ := script_idx hs ha h'
        obtain ⟨y1, y2⟩ := cells5 x2
        have ea := inc_ok (j := j) (by omega)
        have l1 := sl_len r1 h'
        have l2 := sl_len r2 h'
        have q1 := base1 y1 h'
        have q2 := base1 y2 h'
        by_cases hb : 200 < a.2.2.1.length
        · have d3 : decide (200 < a.2.2.1.length) = true := decide_eq_true hb
          simp -implicitDefEqProofs only [c13, a13_0b, a13_1b, a13_2b, a13_3b, a13_4b, a13_5b, a13_6b, a13_7b, a13_8b, a13_9b, a13_10b, a13_11b, a13_12b, a13_13b, a13_14b, a13_15b, a13_16b, a13_17b, a13_18b, WS_skip, WS_ops, WS_seq, WS_block, WS_cond, WS_exit, WS_ret, WB_true, WB_false, RS_nil, RS_seq, RS_seqE, RS_seqR, RS_blk, RS_blkE, RS_blkR, WP_nil, WP_cons, WP_guard, WG_true, WG_false, WX_val, WX_enter, KC_nil, getK_some, QC_normal, QC_ret, QL_normal, QL_exit, QL_ret, nbeq, ibeq, iltn, ilen, ite_true, ite_false, EV, ER, fill_nil, fill_cons, fillK_some, fillJ_some, CK, KC_cons, again_nil, again_cons, again_guard, againW_T, againW_F, againR_val, AV.same_refl, wantedA, Opd.ev, evs, Env.get, Env.set, Env.get_set, List.cons.injEq, and_false, false_and, and_self, putE, cond, getAll, getRes, packed, eqOp, isNilV, scalarK, arithOp, unOpA, takeN, List.drop, true_and, and_true, reduceIte, reduceCtorEq, false_implies, forall_const, iLe_eq, iLt_eq, iEq_eq, decide_true, decide_false, Bool.not_true, Bool.not_false, Bool.true_and, Bool.and_true, Bool.false_and, Bool.and_false, beq_self_eq_true, imp_self, Bool.true_eq_false, Bool.false_eq_true, Nat.zero_add, Nat.add_zero, Nat.zero_mul, Nat.mul_one, Nat.one_mul, Nat.sub_zero, beqT, beqF, e0, e3, sl, d2, x1, q1, l1, d3, QL_ret]
          exact hk false (by simp)
        · have d3 : decide (200 < a.2.2.1.length) = false := decide_eq_false hb
          by_cases hb2 : 200 < a.2.2.2.2.1.length
          · have d4 : decide (200 < a.2.2.2.2.1.length) = true := decide_eq_true hb2
            simp -implicitDefEqProofs only [c13, a13_0b, a13_1b, a13_2b, a13_3b, a13_4b, a13_5b, a13_6b, a13_7b, a13_8b, a13_9b, a13_10b, a13_11b, a13_12b, a13_13b, a13_14b, a13_15b, a13_16b, a13_17b, a13_18b, WS_skip, WS_ops, WS_seq, WS_block, WS_cond, WS_exit, WS_ret, WB_true, WB_false, RS_nil, RS_seq, RS_seqE, RS_seqR, RS_blk, RS_blkE, RS_blkR, WP_nil, WP_cons, WP_guard, WG_true, WG_false, WX_val, WX_enter, KC_nil, getK_some, QC_normal, QC_ret, QL_normal, QL_exit, QL_ret, nbeq, ibeq, iltn, ilen, ite_true, ite_false, EV, ER, fill_nil, fill_cons, fillK_some, fillJ_some, CK, KC_cons, again_nil, again_cons, again_guard, againW_T, againW_F, againR_val, AV.same_refl, wantedA, Opd.ev, evs, Env.get, Env.set, Env.get_set, List.cons.injEq, and_false, false_and, and_self, putE, cond, getAll, getRes, packed, eqOp, isNilV, scalarK, arithOp, unOpA, takeN, List.drop, true_and, and_true, reduceIte, reduceCtorEq, false_implies, forall_const, iLe_eq, iLt_eq, iEq_eq, decide_true, decide_false, Bool.not_true, Bool.not_false, Bool.true_and, Bool.and_true, Bool.false_and, Bool.and_false, beq_self_eq_true, imp_self, Bool.true_eq_false, Bool.false_eq_true, Nat.zero_add, Nat.add_zero, Nat.zero_mul, Nat.mul_one, Nat.one_mul, Nat.sub_zero, beqT, beqF, e0, e3, sl, d2, x1, q1, l1, q2, l2, d3, d4, QL_ret]
            exact hk false (by simp)
          · have d4 : decide (200 < a.2.2.2.2.1.length) = false := decide_eq_false hb2
            simp -implicitDefEqProofs only [c13, a13_0b, a13_1b, a13_2b, a13_3b, a13_4b, a13_5b, a13_6b, a13_7b, a13_8b, a13_9b, a13_10b, a13_11b, a13_12b, a13_13b, a13_14b, a13_15b, a13_16b, a13_17b, a13_18b, WS_skip, WS_ops, WS_seq, WS_block, WS_cond, WS_exit, WS_ret, WB_true, WB_false, RS_nil, RS_seq, RS_seqE, RS_seqR, RS_blk, RS_blkE, RS_blkR, WP_nil, WP_cons, WP_guard, WG_true, WG_false, WX_val, WX_enter, KC_nil, getK_some, QC_normal, QC_ret, QL_normal, QL_exit, QL_ret, nbeq, ibeq, iltn, ilen, ite_true, ite_false, EV, ER, fill_nil, fill_cons, fillK_some, fillJ_some, CK, KC_cons, again_nil, again_cons, again_guard, againW_T, againW_F, againR_val, AV.same_refl, wantedA, Opd.ev, evs, Env.get, Env.set, Env.get_set, List.cons.injEq, and_false, false_and, and_self, putE, cond, getAll, getRes, packed, eqOp, isNilV, scalarK, arithOp, unOpA, takeN, List.drop, true_and, and_true, reduceIte, reduceCtorEq, false_implies, forall_const, iLe_eq, iLt_eq, iEq_eq, decide_true, decide_false, Bool.not_true, Bool.not_false, Bool.true_and, Bool.and_true, Bool.false_and, Bool.and_false, beq_self_eq_true, imp_self, Bool.true_eq_false, Bool.false_eq_true, Nat.zero_add, Nat.add_zero, Nat.zero_mul, Nat.mul_one, Nat.one_mul, Nat.sub_zero, beqT, beqF, e0, e3, sl, d2, x1, q1, l1, q2, l2, d3, d4, ea, QL_normal]
            refine ⟨ops.length - (j + 1), by omega, j + 1, rfl, by omega, ?_, by simp [Env.get_set, e0]⟩
            intro x hx
            rw [List.take_succ, ha] at hx
            rcases List.mem_append.1 hx with h1 | h1
            · exact hall x h1
            · simp at h1; subst h1; omega
      · have d2 : decide (j < ops.length) = false := decide_eq_false hlt
        have hj' : j = ops.length := by omega
        subst hj'
        rw [List.take_length] at hall
        simp -implicitDefEqProofs only [c13, a13_0b, a13_1b, a13_2b, a13_3b, a13_4b, a13_5b, a13_6b, a13_7b, a13_8b, a13_9b, a13_10b, a13_11b, a13_12b, a13_13b, a13_14b, a13_15b, a13_16b, a13_17b, a13_18b, WS_skip, WS_ops, WS_seq, WS_block, WS_cond, WS_exit, WS_ret, WB_true, WB_false, RS_nil, RS_seq, RS_seqE, RS_seqR, RS_blk, RS_blkE, RS_blkR, WP_nil, WP_cons, WP_guard, WG_true, WG_false, WX_val, WX_enter, KC_nil, getK_some, QC_normal, QC_ret, QL_normal, QL_exit, QL_ret, nbeq, ibeq, iltn, ilen, ite_true, ite_false, EV, ER, fill_nil, fill_cons, fillK_some, fillJ_some, CK, KC_cons, again_nil, again_cons, again_guard, againW_T, againW_F, againR_val, AV.same_refl, wantedA, Opd.ev, evs, Env.get, Env.set, Env.get_set, List.cons.injEq, and_false, false_and, and_self, putE, cond, getAll, getRes, packed, eqOp, isNilV, scalarK, arithOp, unOpA, takeN, List.drop, true_and, and_true, reduceIte, reduceCtorEq, false_implies, forall_const, iLe_eq, iLt_eq, iEq_eq, decide_true, decide_false, Bool.not_true, Bool.not_false, Bool.true_and, Bool.and_true, Bool.false_and, Bool.and_false, beq_self_eq_true, imp_self, Bool.true_eq_false, Bool.false_eq_true, Nat.zero_add, Nat.add_zero, Nat.zero_mul, Nat.mul_one, Nat.one_mul, Nat.sub_zero, beqT, beqF, e0, e3, sl, d2, QL_exit]
        exact hk true fun _ => ⟨by omega, hall⟩

/- both new shelves -/
theorem shelf_ok {L : Int} (hL : 64 ≤ L ∧ L ≤ 65536) {K : AV → AHeap → Prop}
    (hk : ∀ h' s m, Next h.length s m (64 + (L % 65).toNat) 0 h' → K (.tuple [.ptr (.own s) 0, .ptr (.own m) 0, .bool true]) h') : WC B G 14 [.int .i64 L] h K := by
  refine WC_fun (af := a14) rfl rfl rfl ?_
  rw [args1]
  obtain ⟨l, rfl⟩ := Int.eq_ofNat_of_zero_le (a := L) (by omega)
  have hl : 64 ≤ l ∧ l ≤ 65536 := by omega
  have w1 : awrap .u64 (Int.ofNat l) = .ofNat l := by
    have : fits .u64 (.ofNat l) = true := by show Nat.blt l _ = true; rw [Nat.blt_eq]; omega
    unfold awrap; rw [this]; rfl
  have w2 : awrap .i64 ((Int.ofNat l).tmod (.ofNat 65)) = .ofNat (l % 65) := by
    rw [awrap_eq, show (Int.tmod (Int.ofNat l) (Int.ofNat 65)) = ((l % 65 : Nat) : Int) from rfl]
    exact IntWalk.i64_in _ ⟨by omega, by omega⟩
  have w3 : awrap .i64 (iAdd (.ofNat 64) (.ofNat (l % 65))) = .ofNat (64 + l % 65) := by
    rw [awrap_eq]; exact IntWalk.i64_in _ ⟨by show _ ≤ ((64 + l % 65 : Nat) : Int); omega, by show ((64 + l % 65 : Nat) : Int) ≤ _; omega⟩
  have z : (Int.ofNat 65 == 0) = false := rfl
  have e0 := beqI 0
  have hn : ((l : Int) % 65).toNat = l % 65 := by omega
  have a1 : (AV.int .i64 (l : Int)) = .int .i64 (.ofNat l) := rfl
  rw [a1]
  simp -implicitDefEqProofs only [c14, a14_0b, a14_1b, a14_2b, a14_3b, a14_4b, WS_skip, WS_ops, WS_seq, WS_block, WS_cond, WS_exit, WS_ret, WB_true, WB_false, RS_nil, RS_seq, RS_seqE, RS_seqR, RS_blk, RS_blkE, RS_blkR, WP_nil, WP_cons, WP_guard, WG_true, WG_false, WX_val, WX_enter, KC_nil, getK_some, QC_normal, QC_ret, QL_normal, QL_exit, QL_ret, nbeq, ibeq, iltn, ilen, ite_true, ite_false, EV, ER, fill_nil, fill_cons, fillK_some, fillJ_some, CK, KC_cons, again_nil, again_cons, again_guard, againW_T, againW_F, againR_val, AV.same_refl, wantedA, Opd.ev, evs, Env.get, Env.set, Env.get_set, List.cons.injEq, and_false, false_and, and_self, putE, cond, getAll, getRes, packed, eqOp, isNilV, scalarK, arithOp, unOpA, takeN, List.drop, true_and, and_true, reduceIte, reduceCtorEq, false_implies, forall_const, iLe_eq, iLt_eq, iEq_eq, decide_true, decide_false, Bool.not_true, Bool.not_false, Bool.true_and, Bool.and_true, Bool.false_and, Bool.and_false, beq_self_eq_true, imp_self, Bool.true_eq_false, Bool.false_eq_true, Nat.zero_add, Nat.add_zero, Nat.zero_mul, Nat.mul_one, Nat.one_mul, Nat.sub_zero, beqT, beqF, z, w1, w2, w3]
  refine new_ok2 (n := 64 + l % 65) (by omega) (by omega) fun h1 S1 sm1 => ?_
  simp -implicitDefEqProofs only [c14, a14_0b, a14_1b, a14_2b, a14_3b, a14_4b, WS_skip, WS_ops, WS_seq, WS_block, WS_cond, WS_exit, WS_ret, WB_true, WB_false, RS_nil, RS_seq, RS_seqE, RS_seqR, RS_blk, RS_blkE, RS_blkR, WP_nil, WP_cons, WP_guard, WG_true, WG_false, WX_val, WX_enter, KC_nil, getK_some, QC_normal, QC_ret, QL_normal, QL_exit, QL_ret, nbeq, ibeq, iltn, ilen, ite_true, ite_false, EV, ER, fill_nil, fill_cons, fillK_some, fillJ_some, CK, KC_cons, again_nil, again_cons, again_guard, againW_T, againW_F, againR_val, AV.same_refl, wantedA, Opd.ev, evs, Env.get, Env.set, Env.get_set, List.cons.injEq, and_false, false_and, and_self, putE, cond, getAll, getRes, packed, eqOp, isNilV, scalarK, arithOp, unOpA, takeN, List.drop, true_and, and_true, reduceIte, reduceCtorEq, false_implies, forall_const, iLe_eq, iLt_eq, iEq_eq, decide_true, decide_false, Bool.not_true, Bool.not_false, Bool.true_and, Bool.and_true, Bool.false_and, Bool.and_false, beq_self_eq_true, imp_self, Bool.true_eq_false, Bool.false_eq_true, Nat.zero_add, Nat.add_zero, Nat.zero_mul, Nat.mul_one, Nat.one_mul, Nat.sub_zero, beqT, beqF, z, w1, w2, w3, List.getElem?_cons_zero, List.getElem?_cons_succ]
  refine mnew_ok (n := 64 + l % 65) (by omega) (by omega) fun h2 dd M2 sm2 hdd => ?_
  simp -implicitDefEqProofs only [c14, a14_0b, a14_1b, a14_2b, a14_3b, a14_4b, WS_skip, WS_ops, WS_seq, WS_block, WS_cond, WS_exit, WS_ret, WB_true, WB_false, RS_nil, RS_seq, RS_seqE, RS_seqR, RS_blk, RS_blkE, RS_blkR, WP_nil, WP_cons, WP_guard, WG_true, WG_false, WX_val, WX_enter, KC_nil, getK_some, QC_normal, QC_ret, QL_normal, QL_exit, QL_ret, nbeq, ibeq, iltn, ilen, ite_true, ite_false, EV, ER, fill_nil, fill_cons, fillK_some, fillJ_some, CK, KC_cons, again_nil, again_cons, again_guard, againW_T, againW_F, againR_val, AV.same_refl, wantedA, Opd.ev, evs, Env.get, Env.set, Env.get_set, List.cons.injEq, and_false, false_and, and_self, putE, cond, getAll, getRes, packed, eqOp, isNilV, scalarK, arithOp, unOpA, takeN, List.drop, true_and, and_true, reduceIte, reduceCtorEq, false_implies, forall_const, iLe_eq, iLt_eq, iEq_eq, decide_true, decide_false, Bool.not_true, Bool.not_false, Bool.true_and, Bool.and_true, Bool.false_and, Bool.and_false, beq_self_eq_true, imp_self, Bool.true_eq_false, Bool.false_eq_true, Nat.zero_add, Nat.add_zero, Nat.zero_mul, Nat.mul_one, Nat.one_mul, Nat.sub_zero, beqT, beqF, e0, List.getElem?_cons_zero, List.getElem?_cons_succ]
  refine hk h2 (h.length + 2) h1.length ?_
  obtain ⟨_, _, hs1⟩ := S1.hs
  have g1 := hc_lt hs1
  have g2 := hc_lt S1.hd
  have g3 := hc_lt S1.hn
  have S2 := S1.keep sm2 (by simp)
  have er : List.replicate (64 + l % 65) zs = encD (List.replicate (64 + l % 65) (padN [])) := by
    unfold encD
    rw [List.map_replicate, bc_pad]
    congr 1
  rw [er] at S2
  refine ⟨_, _, 0, dd, 0, List.replicate (64 + l % 65) (padN []), [], -1, false, ⟨S2, M2, ?_, by simp, by omega, by simp; omega, ⟨by omega, by omega, by omega, fun h => absurd rfl h⟩, ⟨by omega, by omega, by omega, fun h => absurd rfl h⟩, fun h => absurd rfl h⟩, by simp [hn], by simp, by have := sm2.1; omega⟩
  intro t ht
  rw [List.eq_of_mem_replicate ht]
  exact small_pad (by intro c hc; simp at hc)

/- whatever the operation -/
theorem step_any {s di ni pi m dd q : Nat} {DS : List (List Nat)} {PS : List (Nat × List Nat)} {pw : Int} {dn : Bool} (A : Both h s di ni pi m dd q DS PS pw dn) (hP : PS.length < 1000) {kind i n : Int} {bv kv : AV} {ns : List Nat} {ks : List Int}
    (hkd : (Lit.int .u8 kind).wf = true) (hn : (Lit.int .i64 n).wf = true) (hb : Src B bv (byteCells ns)) (hsm : Small ns) (hks : ∀ h', Ints B h' kv ks) (hkl : ks.length < 1000000000) {K : AV → AHeap → Prop}
    (hk : ∀ h', Next h.length s m DS.length (PS.length + 1) h' → K (.bool true) h') :
    WC B G 15 [.ptr (.own s) 0, .ptr (.own m) 0, .agg [.int .u8 kind, .int .i64 i, bv, .int .i64 n, kv]] h K := by
  have hk1 : 0 ≤ kind ∧ kind ≤ 255 := by
    simp only [Lit.wf, Bool.and_eq_true, decide_eq_true_eq] at hkd
    exact hkd
  have hn1 : n < 2 ^ 63 := by
    simp only [Lit.wf, Bool.and_eq_true, decide_eq_true_eq] at hn
    have := hn.2
    have e : IntKind.i64.max = 9223372036854775807 := rfl
    omega
  obtain ⟨k, rfl⟩ := Int.eq_ofNat_of_zero_le hk1.1
  have : k % 6 < 6 := Nat.mod_lt _ (by omega)
  match hm : k % 6, this with
  | 0, _ => exact step_read A hP hm hk
  | 1, _ => exact step_write A hP hb hsm hm hk
  | 2, _ => exact step_press A hP hm hk
  | 3, _ => exact step_stop A hP hn1 hm hk
  | 4, _ => exact step_crash A hP hks hkl hm hk
  | 5, _ => exact step_tear A hP hm hk

theorem src_bytes {B : Base} {bv : AV} {l : List Int} (hr : (Dec.slice (Dec.int .u8)).rd B [bv] l) : ∃ ns, Src B bv (byteCells ns) ∧ Small ns := by
  have hc : ∀ {l : List Int}, (∀ a ∈ l, (Lit.int .u8 a).wf = true) → l.map (AV.int .u8) = byteCells (l.map Int.toNat) ∧ Small (l.map Int.toNat) := by
    intro l
    induction l with
    | nil => intro _; exact ⟨rfl, by intro c hc; simp at hc⟩
    | cons a l ih =>
      intro hw
      obtain ⟨h1, h2⟩ := ih fun x hx => hw x (by simp [hx])
      have h3 := hw a (by simp)
      simp only [Lit.wf, Bool.and_eq_true, decide_eq_true_eq] at h3
      have h4 : 0 ≤ a ∧ a ≤ 255 := h3
      refine ⟨?_, ?_⟩
      · simp only [List.map_cons, byteCells, h1]
        have : a = Int.ofNat a.toNat := by simp; omega
        rw [← this]
      · intro c hc
        simp only [List.map_cons, List.mem_cons] at hc
        rcases hc with h5 | h5
        · omega
        · exact h2 c h5
  rcases hr with ⟨h1, rfl⟩ | ⟨b, o, cap, h1, -, -, h3⟩
  · cases h1; exact ⟨[], .inl ⟨rfl, rfl⟩, by intro c hc; simp at hc⟩
  · cases h1
    have hw : ∀ a ∈ l, (Lit.int .u8 a).wf = true := by
      intro a ha
      obtain ⟨i, hi, rfl⟩ := List.getElem_of_mem ha
      obtain ⟨c, -, -, h5⟩ := h3 i _ (List.getElem?_eq_getElem hi)
      exact h5
    obtain ⟨e1, e2⟩ := hc hw
    refine ⟨l.map Int.toNat, .inr ⟨b, o, cap, none, ?_, ?_⟩, e2⟩
    · rw [bc_len, List.length_map]
    · have := baseCells_of (B := B) (b := b) (l.map (AV.int .u8)) o ?_
      · rw [← e1]; exact this
      · intro i v hv
        rw [List.getElem?_map, Option.map_eq_some_iff] at hv
        obtain ⟨a, ha, rfl⟩ := hv
        obtain ⟨c, h4, h5, -⟩ := h3 i a ha
        subst h5
        simp only [Dec.int, Nat.mul_one] at h4
        simp only [baseCells] at h4
        cases hb : B b (o + i) with
        | none => rw [hb] at h4; cases h4
        | some w => rw [hb] at h4; cases h4; rfl

theorem ints_all {B : Base} {kv : AV} {l : List Int} (hr : (Dec.slice (Dec.int .i64)).rd B [kv] l) (h : AHeap) : Ints B h kv l := by
  rcases hr with ⟨h1, rfl⟩ | ⟨b, o, cap, h1, -, -, h3⟩
  · cases h1; exact .inl ⟨rfl, rfl⟩
  · cases h1
    refine .inr ⟨.base b, o, cap, none, rfl, fun j k hj => ?_⟩
    obtain ⟨c, h4, h5, -⟩ := h3 j k hj
    subst h5
    have h6 : baseCells B b (o + j) 1 = some [.int .i64 k] := by simpa [Dec.int] using h4
    exact h6

set_option maxHeartbeats 2000000 in
theorem shelf_law {L : Int} {sv : AV} {ops : List Op} (hs : Script B sv ops) {K : AV → AHeap → Prop} (hk : ∀ h, K (.bool true) h) : WC B G 4 [.int .i64 L, sv] h K := by
  refine WC_fun (af := a4) rfl rfl rfl ?_
  rw [args2]
  simp -implicitDefEqProofs only [c4, a4_0b, a4_1b, a4_2b, a4_3b, a4_4b, a4_5b, a4_6b, a4_7b, a4_8b, a4_9b, a4_10b, a4_11b, a4_12b, a4_13b, a4_14b, a4_15b, a4_16b, a4_17b, a4_18b, a4_19b, a4_20b, a4_21b, a4_22b, a4_23b, a4_24b, a4_25b, a4_26b, a4_27b, a4_28b, a4_29b, a4_30b, a4_31b, a4_32b, a4_33b, a4_34b, a4_35b, a4_36b, a4_37b, a4_38b, a4_39b, a4_40b, a4_41b, WS_skip, WS_ops, WS_seq, WS_block, WS_cond, WS_exit, WS_ret, WB_true, WB_false, RS_nil, RS_seq, RS_seqE, RS_seqR, RS_blk, RS_blkE, RS_blkR, WP_nil, WP_cons, WP_guard, WG_true, WG_false, WX_val, WX_enter, KC_nil, getK_some, QC_normal, QC_ret, QL_normal, QL_exit, QL_ret, nbeq, ibeq, iltn, ilen, ite_true, ite_false, EV, ER, fill_nil, fill_cons, fillK_some, fillJ_some, CK, KC_cons, again_nil, again_cons, again_guard, againW_T, againW_F, againR_val, AV.same_refl, wantedA, Opd.ev, evs, Env.get, Env.set, Env.get_set, List.cons.injEq, and_false, false_and, and_self, putE, cond, getAll, getRes, packed, eqOp, isNilV, scalarK, arithOp, unOpA, takeN, List.drop, true_and, and_true, reduceIte, reduceCtorEq, false_implies, forall_const, iLe_eq, iLt_eq, iEq_eq, decide_true, decide_false, Bool.not_true, Bool.not_false, Bool.true_and, Bool.and_true, Bool.false_and, Bool.and_false, beq_self_eq_true, imp_self, Bool.true_eq_false, Bool.false_eq_true, Nat.zero_add, Nat.add_zero, Nat.zero_mul, Nat.mul_one, Nat.one_mul, Nat.sub_zero, beqT, beqF]
  refine small_ok hs fun b hb => ?_
  cases b with
  | false =>
    simp -implicitDefEqProofs only [c4, a4_0b, a4_1b, a4_2b, a4_3b, a4_4b, a4_5b, a4_6b, a4_7b, a4_8b, a4_9b, a4_10b, a4_11b, a4_12b, a4_13b, a4_14b, a4_15b, a4_16b, a4_17b, a4_18b, a4_19b, a4_20b, a4_21b, a4_22b, a4_23b, a4_24b, a4_25b, a4_26b, a4_27b, a4_28b, a4_29b, a4_30b, a4_31b, a4_32b, a4_33b, a4_34b, a4_35b, a4_36b, a4_37b, a4_38b, a4_39b, a4_40b, a4_41b, WS_skip, WS_ops, WS_seq, WS_block, WS_cond, WS_exit, WS_ret, WB_true, WB_false, RS_nil, RS_seq, RS_seqE, RS_seqR, RS_blk, RS_blkE, RS_blkR, WP_nil, WP_cons, WP_guard, WG_true, WG_false, WX_val, WX_enter, KC_nil, getK_some, QC_normal, QC_ret, QL_normal, QL_exit, QL_ret, nbeq, ibeq, iltn, ilen, ite_true, ite_false, EV, ER, fill_nil, fill_cons, fillK_some, fillJ_some, CK, KC_cons, again_nil, again_cons, again_guard, againW_T, againW_F, againR_val, AV.same_refl, wantedA, Opd.ev, evs, Env.get, Env.set, Env.get_set, List.cons.injEq, and_false, false_and, and_self, putE, cond, getAll, getRes, packed, eqOp, isNilV, scalarK, arithOp, unOpA, takeN, List.drop, true_and, and_true, reduceIte, reduceCtorEq, false_implies, forall_const, iLe_eq, iLt_eq, iEq_eq, decide_true, decide_false, Bool.not_true, Bool.not_false, Bool.true_and, Bool.and_true, Bool.false_and, Bool.and_false, beq_self_eq_true, imp_self, Bool.true_eq_false, Bool.false_eq_true, Nat.zero_add, Nat.add_zero, Nat.zero_mul, Nat.mul_one, Nat.one_mul, Nat.sub_zero, beqT, beqF, shelves_is]
    exact hk _
  | true =>
    obtain ⟨hlen, hall⟩ := hb rfl
    have z1 : Int.ofNat 64 = 64 := rfl
    have z2 : Int.ofNat 65536 = 65536 := rfl
    have e1 := beqI 1
    by_cases hL : 64 ≤ L ∧ L ≤ 65536
    · obtain ⟨l, hl, rfl⟩ : ∃ l : Nat, (64 ≤ l ∧ l ≤ 65536) ∧ L = Int.ofNat l := by
        obtain ⟨l, rfl⟩ := Int.eq_ofNat_of_zero_le (a := L) (by omega)
        exact ⟨l, by omega, rfl⟩
      have d1 : decide (l < 64) = false := decide_eq_false (by omega)
      have d2 : decide (65536 < l) = false := decide_eq_false (by omega)
      simp -implicitDefEqProofs only [c4, a4_0b, a4_1b, a4_2b, a4_3b, a4_4b, a4_5b, a4_6b, a4_7b, a4_8b, a4_9b, a4_10b, a4_11b, a4_12b, a4_13b, a4_14b, a4_15b, a4_16b, a4_17b, a4_18b, a4_19b, a4_20b, a4_21b, a4_22b, a4_23b, a4_24b, a4_25b, a4_26b, a4_27b, a4_28b, a4_29b, a4_30b, a4_31b, a4_32b, a4_33b, a4_34b, a4_35b, a4_36b, a4_37b, a4_38b, a4_39b, a4_40b, a4_41b, WS_skip, WS_ops, WS_seq, WS_block, WS_cond, WS_exit, WS_ret, WB_true, WB_false, RS_nil, RS_seq, RS_seqE, RS_seqR, RS_blk, RS_blkE, RS_blkR, WP_nil, WP_cons, WP_guard, WG_true, WG_false, WX_val, WX_enter, KC_nil, getK_some, QC_normal, QC_ret, QL_normal, QL_exit, QL_ret, nbeq, ibeq, iltn, ilen, ite_true, ite_false, EV, ER, fill_nil, fill_cons, fillK_some, fillJ_some, CK, KC_cons, again_nil, again_cons, again_guard, againW_T, againW_F, againR_val, AV.same_refl, wantedA, Opd.ev, evs, Env.get, Env.set, Env.get_set, List.cons.injEq, and_false, false_and, and_self, putE, cond, getAll, getRes, packed, eqOp, isNilV, scalarK, arithOp, unOpA, takeN, List.drop, true_and, and_true, reduceIte, reduceCtorEq, false_implies, forall_const, iLe_eq, iLt_eq, iEq_eq, decide_true, decide_false, Bool.not_true, Bool.not_false, Bool.true_and, Bool.and_true, Bool.false_and, Bool.and_false, beq_self_eq_true, imp_self, Bool.true_eq_false, Bool.false_eq_true, Nat.zero_add, Nat.add_zero, Nat.zero_mul, Nat.mul_one, Nat.one_mul, Nat.sub_zero, beqT, beqF]
      refine new_ok2 hl.1 hl.2 fun h1 S1 sm1 => ?_
      simp -implicitDefEqProofs only [c4, a4_0b, a4_1b, a4_2b, a4_3b, a4_4b, a4_5b, a4_6b, a4_7b, a4_8b, a4_9b, a4_10b, a4_11b, a4_12b, a4_13b, a4_14b, a4_15b, a4_16b, a4_17b, a4_18b, a4_19b, a4_20b, a4_21b, a4_22b, a4_23b, a4_24b, a4_25b, a4_26b, a4_27b, a4_28b, a4_29b, a4_30b, a4_31b, a4_32b, a4_33b, a4_34b, a4_35b, a4_36b, a4_37b, a4_38b, a4_39b, a4_40b, a4_41b, WS_skip, WS_ops, WS_seq, WS_block, WS_cond, WS_exit, WS_ret, WB_true, WB_false, RS_nil, RS_seq, RS_seqE, RS_seqR, RS_blk, RS_blkE, RS_blkR, WP_nil, WP_cons, WP_guard, WG_true, WG_false, WX_val, WX_enter, KC_nil, getK_some, QC_normal, QC_ret, QL_normal, QL_exit, QL_ret, nbeq, ibeq, iltn, ilen, ite_true, ite_false, EV, ER, fill_nil, fill_cons, fillK_some, fillJ_some, CK, KC_cons, again_nil, again_cons, again_guard, againW_T, againW_F, againR_val, AV.same_refl, wantedA, Opd.ev, evs, Env.get, Env.set, Env.get_set, List.cons.injEq, and_false, false_and, and_self, putE, cond, getAll, getRes, packed, eqOp, isNilV, scalarK, arithOp, unOpA, takeN, List.drop, true_and, and_true, reduceIte, reduceCtorEq, false_implies, forall_const, iLe_eq, iLt_eq, iEq_eq, decide_true, decide_false, Bool.not_true, Bool.not_false, Bool.true_and, Bool.and_true, Bool.false_and, Bool.and_false, beq_self_eq_true, imp_self, Bool.true_eq_false, Bool.false_eq_true, Nat.zero_add, Nat.add_zero, Nat.zero_mul, Nat.mul_one, Nat.one_mul, Nat.sub_zero, beqT, beqF, d1, d2, List.getElem?_cons_zero, List.getElem?_cons_succ]
      refine shelf_ok (by simp; omega) fun h2 s m N2 => ?_
      have tl := script_len hs
      simp -implicitDefEqProofs only [c4, a4_0b, a4_1b, a4_2b, a4_3b, a4_4b, a4_5b, a4_6b, a4_7b, a4_8b, a4_9b, a4_10b, a4_11b, a4_12b, a4_13b, a4_14b, a4_15b, a4_16b, a4_17b, a4_18b, a4_19b, a4_20b, a4_21b, a4_22b, a4_23b, a4_24b, a4_25b, a4_26b, a4_27b, a4_29b, a4_30b, a4_31b, a4_32b, a4_33b, a4_34b, a4_35b, a4_36b, a4_37b, a4_38b, a4_39b, a4_40b, a4_41b, WS_skip, WS_ops, WS_seq, WS_block, WS_cond, WS_exit, WS_ret, WB_true, WB_false, RS_nil, RS_seq, RS_seqE, RS_seqR, RS_blk, RS_blkE, RS_blkR, WP_nil, WP_cons, WP_guard, WG_true, WG_false, WX_val, WX_enter, KC_nil, getK_some, QC_normal, QC_ret, QL_normal, QL_exit, QL_ret, nbeq, ibeq, iltn, ilen, ite_true, ite_false, EV, ER, fill_nil, fill_cons, fillK_some, fillJ_some, CK, KC_cons, again_nil, again_cons, again_guard, againW_T, againW_F, againR_val, AV.same_refl, wantedA, Opd.ev, evs, Env.get, Env.set, Env.get_set, List.cons.injEq, and_false, false_and, and_self, putE, cond, getAll, getRes, packed, eqOp, isNilV, scalarK, arithOp, unOpA, takeN, List.drop, true_and, and_true, reduceIte, reduceCtorEq, false_implies, forall_const, iLe_eq, iLt_eq, iEq_eq, decide_true, decide_false, Bool.not_true, Bool.not_false, Bool.true_and, Bool.and_true, Bool.false_and, Bool.and_false, beq_self_eq_true, imp_self, Bool.true_eq_false, Bool.false_eq_true, Nat.zero_add, Nat.add_zero, Nat.zero_mul, Nat.mul_one, Nat.one_mul, Nat.sub_zero, beqT, beqF, List.getElem?_cons_zero, List.getElem?_cons_succ]
      generalize hDn : 64 + (Int.ofNat l % 65).toNat = Dn at N2
      have hDn2 : Dn < 200 := by simp at hDn; omega
      refine WS_loop (k := ops.length) (fun k env h' => ∃ j, k = ops.length - j ∧ j ≤ ops.length ∧ Next 0 s m Dn j h' ∧ env.get [true] = sv ∧ env.get [true, false] = .ptr (.own s) 0 ∧ env.get [true, true, true] = .ptr (.own m) 0 ∧ env.get [true, false, true] = .int .i64 (.ofNat j)) ?_ ?_
      · refine ⟨0, rfl, by omega, ?_, by simp [Env.get]⟩
        obtain ⟨di, ni, pi, dd, q, DS, PS, pw, dn, a1, a2, a3, a4⟩ := N2
        exact ⟨di, ni, pi, dd, q, DS, PS, pw, dn, a1, a2, a3, by omega⟩
      · rintro k env h' ⟨j, rfl, hj, hN, g1, g5, g7, g9⟩
        by_cases hlt : j < ops.length
        · have d3 : decide (j < ops.length) = true := decide_eq_true hlt
          obtain ⟨a, ha⟩ : ∃ a, ops[j]? = some a := ⟨_, List.getElem?_eq_getElem hlt⟩
          obtain ⟨b, p, c, x1, x2, bv, kv, rfl, w1, w2, r1, r2⟩ := script_idx hs ha h'
          have ea := inc_ok (j := j) (by omega)
          have ld : loadN B h' (.base b) p 5 = some [.int .u8 a.1, .int .i64 a.2.1, bv, .int .i64 a.2.2.2.1, kv] := x2
          obtain ⟨di, ni, pi, dd, q, DS, PS, pw, dn, a1, a2, a3, a4⟩ := hN
          obtain ⟨ns, hb1, hb2⟩ := src_bytes r1
          have hka := hall a (List.mem_of_getElem? ha)
          simp -implicitDefEqProofs only [c4, a4_0b, a4_1b, a4_2b, a4_3b, a4_4b, a4_5b, a4_6b, a4_7b, a4_8b, a4_9b, a4_10b, a4_11b, a4_12b, a4_13b, a4_14b, a4_15b, a4_16b, a4_17b, a4_18b, a4_19b, a4_20b, a4_21b, a4_22b, a4_23b, a4_24b, a4_25b, a4_26b, a4_27b, a4_28b, a4_29b, a4_30b, a4_31b, a4_32b, a4_33b, a4_34b, a4_35b, a4_36b, a4_37b, a4_38b, a4_39b, a4_40b, a4_41b, WS_skip, WS_ops, WS_seq, WS_block, WS_cond, WS_exit, WS_ret, WB_true, WB_false, RS_nil, RS_seq, RS_seqE, RS_seqR, RS_blk, RS_blkE, RS_blkR, WP_nil, WP_cons, WP_guard, WG_true, WG_false, WX_val, WX_enter, KC_nil, getK_some, QC_normal, QC_ret, QL_normal, QL_exit, QL_ret, nbeq, ibeq, iltn, ilen, ite_true, ite_false, EV, ER, fill_nil, fill_cons, fillK_some, fillJ_some, CK, KC_cons, again_nil, again_cons, again_guard, againW_T, againW_F, againR_val, AV.same_refl, wantedA, Opd.ev, evs, Env.get, Env.set, Env.get_set, List.cons.injEq, and_false, false_and, and_self, putE, cond, getAll, getRes, packed, eqOp, isNilV, scalarK, arithOp, unOpA, takeN, List.drop, true_and, and_true, reduceIte, reduceCtorEq, false_implies, forall_const, iLe_eq, iLt_eq, iEq_eq, decide_true, decide_false, Bool.not_true, Bool.not_false, Bool.true_and, Bool.and_true, Bool.false_and, Bool.and_false, beq_self_eq_true, imp_self, Bool.true_eq_false, Bool.false_eq_true, Nat.zero_add, Nat.add_zero, Nat.zero_mul, Nat.mul_one, Nat.one_mul, Nat.sub_zero, beqT, beqF, g1, g5, g7, g9, tl, d3, x1, ld]
          refine step_any a1 (by omega) w1 w2 hb1 hb2 (fun h => ints_all r2 h) (by omega) fun h3 hN3 => ?_
          simp -implicitDefEqProofs only [c4, a4_0b, a4_1b, a4_2b, a4_3b, a4_4b, a4_5b, a4_6b, a4_7b, a4_8b, a4_9b, a4_10b, a4_11b, a4_12b, a4_13b, a4_14b, a4_15b, a4_16b, a4_17b, a4_18b, a4_19b, a4_20b, a4_21b, a4_22b, a4_23b, a4_24b, a4_25b, a4_26b, a4_27b, a4_28b, a4_29b, a4_30b, a4_31b, a4_32b, a4_33b, a4_34b, a4_35b, a4_36b, a4_37b, a4_38b, a4_39b, a4_40b, a4_41b, WS_skip, WS_ops, WS_seq, WS_block, WS_cond, WS_exit, WS_ret, WB_true, WB_false, RS_nil, RS_seq, RS_seqE, RS_seqR, RS_blk, RS_blkE, RS_blkR, WP_nil, WP_cons, WP_guard, WG_true, WG_false, WX_val, WX_enter, KC_nil, getK_some, QC_normal, QC_ret, QL_normal, QL_exit, QL_ret, nbeq, ibeq, iltn, ilen, ite_true, ite_false, EV, ER, fill_nil, fill_cons, fillK_some, fillJ_some, CK, KC_cons, again_nil, again_cons, again_guard, againW_T, againW_F, againR_val, AV.same_refl, wantedA, Opd.ev, evs, Env.get, Env.set, Env.get_set, List.cons.injEq, and_false, false_and, and_self, putE, cond, getAll, getRes, packed, eqOp, isNilV, scalarK, arithOp, unOpA, takeN, List.drop, true_and, and_true, reduceIte, reduceCtorEq, false_implies, forall_const, iLe_eq, iLt_eq, iEq_eq, decide_true, decide_false, Bool.not_true, Bool.not_false, Bool.true_and, Bool.and_true, Bool.false_and, Bool.and_false, beq_self_eq_true, imp_self, Bool.true_eq_false, Bool.false_eq_true, Nat.zero_add, Nat.add_zero, Nat.zero_mul, Nat.mul_one, Nat.one_mul, Nat.sub_zero, beqT, beqF, g9, ea, QL_normal]
          refine ⟨ops.length - (j + 1), by omega, j + 1, rfl, by omega, ?_, by simp [Env.get_set, g1, g5, g7]⟩
          obtain ⟨di', ni', pi', dd', q', DS', PS', pw', dn', b1, b2, b3, b4⟩ := hN3
          exact ⟨di', ni', pi', dd', q', DS', PS', pw', dn', b1, by omega, by omega, by omega⟩
        · have d3 : decide (j < ops.length) = false := decide_eq_false hlt
          have hj' : j = ops.length := by omega
          subst hj'
          simp -implicitDefEqProofs only [c4, a4_0b, a4_1b, a4_2b, a4_3b, a4_4b, a4_5b, a4_6b, a4_7b, a4_8b, a4_9b, a4_10b, a4_11b, a4_12b, a4_13b, a4_14b, a4_15b, a4_16b, a4_17b, a4_18b, a4_19b, a4_20b, a4_21b, a4_22b, a4_23b, a4_24b, a4_25b, a4_26b, a4_27b, a4_28b, a4_29b, a4_30b, a4_31b, a4_32b, a4_33b, a4_34b, a4_35b, a4_36b, a4_37b, a4_38b, a4_39b, a4_40b, a4_41b, WS_skip, WS_ops, WS_seq, WS_block, WS_cond, WS_exit, WS_ret, WB_true, WB_false, RS_nil, RS_seq, RS_seqE, RS_seqR, RS_blk, RS_blkE, RS_blkR, WP_nil, WP_cons, WP_guard, WG_true, WG_false, WX_val, WX_enter, KC_nil, getK_some, QC_normal, QC_ret, QL_normal, QL_exit, QL_ret, nbeq, ibeq, iltn, ilen, ite_true, ite_false, EV, ER, fill_nil, fill_cons, fillK_some, fillJ_some, CK, KC_cons, again_nil, again_cons, again_guard, againW_T, againW_F, againR_val, AV.same_refl, wantedA, Opd.ev, evs, Env.get, Env.set, Env.get_set, List.cons.injEq, and_false, false_and, and_self, putE, cond, getAll, getRes, packed, eqOp, isNilV, scalarK, arithOp, unOpA, takeN, List.drop, true_and, and_true, reduceIte, reduceCtorEq, false_implies, forall_const, iLe_eq, iLt_eq, iEq_eq, decide_true, decide_false, Bool.not_true, Bool.not_false, Bool.true_and, Bool.and_true, Bool.false_and, Bool.and_false, beq_self_eq_true, imp_self, Bool.true_eq_false, Bool.false_eq_true, Nat.zero_add, Nat.add_zero, Nat.zero_mul, Nat.mul_one, Nat.one_mul, Nat.sub_zero, beqT, beqF, g1, g5, g7, g9, tl, d3, QL_exit]
          refine WS_loop (k := Dn) (fun k env h' => ∃ j, k = Dn - j ∧ j ≤ Dn ∧ Next 0 s m Dn (ops.length + j) h' ∧ env.get [true, false] = .ptr (.own s) 0 ∧ env.get [true, true, true] = .ptr (.own m) 0 ∧ env.get [false, false, true] = .int .i64 (.ofNat j)) ?_ ?_
          · exact ⟨0, rfl, by omega, hN, by simp [Env.get_set, g5, g7]⟩
          · rintro k env h' ⟨j, rfl, hj, hN, g5, g7, g10⟩
            obtain ⟨di, ni, pi, dd, q, DS, PS, pw, dn, a1, a2, a3, a4⟩ := hN
            have hm := a1.M.hm
            rw [a2] at hm
            by_cases hlt : j < Dn
            · have d3 : decide (j < Dn) = true := decide_eq_true hlt
              have ea := inc_ok (j := j) (by omega)
              have o1 : RL.out [(1, .int .u8 (.ofNat 0)), (1, .int .i64 (.ofNat 0)), (1, .nilslice), (1, .int .i64 (.ofNat 0)), (1, .nilslice)] = [.int .u8 (.ofNat 0), .int .i64 (.ofNat 0), .nilslice, .int .i64 (.ofNat 0), .nilslice] := rfl
              simp -implicitDefEqProofs only [c4, a4_0b, a4_1b, a4_2b, a4_3b, a4_4b, a4_5b, a4_6b, a4_7b, a4_8b, a4_9b, a4_10b, a4_11b, a4_12b, a4_13b, a4_14b, a4_15b, a4_16b, a4_17b, a4_18b, a4_19b, a4_20b, a4_21b, a4_22b, a4_23b, a4_24b, a4_25b, a4_26b, a4_27b, a4_28b, a4_29b, a4_30b, a4_31b, a4_32b, a4_33b, a4_34b, a4_35b, a4_36b, a4_37b, a4_38b, a4_39b, a4_40b, a4_41b, WS_skip, WS_ops, WS_seq, WS_block, WS_cond, WS_exit, WS_ret, WB_true, WB_false, RS_nil, RS_seq, RS_seqE, RS_seqR, RS_blk, RS_blkE, RS_blkR, WP_nil, WP_cons, WP_guard, WG_true, WG_false, WX_val, WX_enter, KC_nil, getK_some, QC_normal, QC_ret, QL_normal, QL_exit, QL_ret, nbeq, ibeq, iltn, ilen, ite_true, ite_false, EV, ER, fill_nil, fill_cons, fillK_some, fillJ_some, CK, KC_cons, again_nil, again_cons, again_guard, againW_T, againW_F, againR_val, AV.same_refl, wantedA, Opd.ev, evs, Env.get, Env.set, Env.get_set, List.cons.injEq, and_false, false_and, and_self, putE, cond, getAll, getRes, packed, eqOp, isNilV, scalarK, arithOp, unOpA, takeN, List.drop, true_and, and_true, reduceIte, reduceCtorEq, false_implies, forall_const, iLe_eq, iLt_eq, iEq_eq, decide_true, decide_false, Bool.not_true, Bool.not_false, Bool.true_and, Bool.and_true, Bool.false_and, Bool.and_false, beq_self_eq_true, imp_self, Bool.true_eq_false, Bool.false_eq_true, Nat.zero_add, Nat.add_zero, Nat.zero_mul, Nat.mul_one, Nat.one_mul, Nat.sub_zero, beqT, beqF, g5, g7, g10, ldOwn hm, takeN, d3, o1, splice, List.length_cons, List.length_nil]
              refine step_any a1 (by omega) (ns := []) (ks := []) rfl rfl (.inl ⟨rfl, rfl⟩) (by intro c hc; simp at hc) (fun h => .inl ⟨rfl, rfl⟩) (by simp) fun h3 hN3 => ?_
              simp -implicitDefEqProofs only [c4, a4_0b, a4_1b, a4_2b, a4_3b, a4_4b, a4_5b, a4_6b, a4_7b, a4_8b, a4_9b, a4_10b, a4_11b, a4_12b, a4_13b, a4_14b, a4_15b, a4_16b, a4_17b, a4_18b, a4_19b, a4_20b, a4_21b, a4_22b, a4_23b, a4_24b, a4_25b, a4_26b, a4_27b, a4_28b, a4_29b, a4_30b, a4_31b, a4_32b, a4_33b, a4_34b, a4_35b, a4_36b, a4_37b, a4_38b, a4_39b, a4_40b, a4_41b, WS_skip, WS_ops, WS_seq, WS_block, WS_cond, WS_exit, WS_ret, WB_true, WB_false, RS_nil, RS_seq, RS_seqE, RS_seqR, RS_blk, RS_blkE, RS_blkR, WP_nil, WP_cons, WP_guard, WG_true, WG_false, WX_val, WX_enter, KC_nil, getK_some, QC_normal, QC_ret, QL_normal, QL_exit, QL_ret, nbeq, ibeq, iltn, ilen, ite_true, ite_false, EV, ER, fill_nil, fill_cons, fillK_some, fillJ_some, CK, KC_cons, again_nil, again_cons, again_guard, againW_T, againW_F, againR_val, AV.same_refl, wantedA, Opd.ev, evs, Env.get, Env.set, Env.get_set, List.cons.injEq, and_false, false_and, and_self, putE, cond, getAll, getRes, packed, eqOp, isNilV, scalarK, arithOp, unOpA, takeN, List.drop, true_and, and_true, reduceIte, reduceCtorEq, false_implies, forall_const, iLe_eq, iLt_eq, iEq_eq, decide_true, decide_false, Bool.not_true, Bool.not_false, Bool.true_and, Bool.and_true, Bool.false_and, Bool.and_false, beq_self_eq_true, imp_self, Bool.true_eq_false, Bool.false_eq_true, Nat.zero_add, Nat.add_zero, Nat.zero_mul, Nat.mul_one, Nat.one_mul, Nat.sub_zero, beqT, beqF, g10, ea, QL_normal]
              refine ⟨Dn - (j + 1), by omega, j + 1, rfl, by omega, ?_, by simp [Env.get_set, g5, g7]⟩
              obtain ⟨di', ni', pi', dd', q', DS', PS', pw', dn', b1, b2, b3, b4⟩ := hN3
              exact ⟨di', ni', pi', dd', q', DS', PS', pw', dn', b1, by omega, by omega, by omega⟩
            · have d3 : decide (j < Dn) = false := decide_eq_false hlt
              simp -implicitDefEqProofs only [c4, a4_0b, a4_1b, a4_2b, a4_3b, a4_4b, a4_5b, a4_6b, a4_7b, a4_8b, a4_9b, a4_10b, a4_11b, a4_12b, a4_13b, a4_14b, a4_15b, a4_16b, a4_17b, a4_18b, a4_19b, a4_20b, a4_21b, a4_22b, a4_23b, a4_24b, a4_25b, a4_26b, a4_27b, a4_28b, a4_29b, a4_30b, a4_31b, a4_32b, a4_33b, a4_34b, a4_35b, a4_36b, a4_37b, a4_38b, a4_39b, a4_40b, a4_41b, WS_skip, WS_ops, WS_seq, WS_block, WS_cond, WS_exit, WS_ret, WB_true, WB_false, RS_nil, RS_seq, RS_seqE, RS_seqR, RS_blk, RS_blkE, RS_blkR, WP_nil, WP_cons, WP_guard, WG_true, WG_false, WX_val, WX_enter, KC_nil, getK_some, QC_normal, QC_ret, QL_normal, QL_exit, QL_ret, nbeq, ibeq, iltn, ilen, ite_true, ite_false, EV, ER, fill_nil, fill_cons, fillK_some, fillJ_some, CK, KC_cons, again_nil, again_cons, again_guard, againW_T, againW_F, againR_val, AV.same_refl, wantedA, Opd.ev, evs, Env.get, Env.set, Env.get_set, List.cons.injEq, and_false, false_and, and_self, putE, cond, getAll, getRes, packed, eqOp, isNilV, scalarK, arithOp, unOpA, takeN, List.drop, true_and, and_true, reduceIte, reduceCtorEq, false_implies, forall_const, iLe_eq, iLt_eq, iEq_eq, decide_true, decide_false, Bool.not_true, Bool.not_false, Bool.true_and, Bool.and_true, Bool.false_and, Bool.and_false, beq_self_eq_true, imp_self, Bool.true_eq_false, Bool.false_eq_true, Nat.zero_add, Nat.add_zero, Nat.zero_mul, Nat.mul_one, Nat.one_mul, Nat.sub_zero, beqT, beqF, g7, g10, ldOwn hm, takeN, d3, QL_exit, shelves_is]
              exact hk _
    · simp -implicitDefEqProofs only [c4, a4_0b, a4_1b, a4_2b, a4_3b, a4_4b, a4_5b, a4_6b, a4_7b, a4_8b, a4_9b, a4_10b, a4_11b, a4_12b, a4_13b, a4_14b, a4_15b, a4_16b, a4_17b, a4_18b, a4_19b, a4_20b, a4_21b, a4_22b, a4_23b, a4_24b, a4_25b, a4_26b, a4_27b, a4_28b, a4_29b, a4_30b, a4_31b, a4_32b, a4_33b, a4_34b, a4_35b, a4_36b, a4_37b, a4_38b, a4_39b, a4_40b, a4_41b, WS_skip, WS_ops, WS_seq, WS_block, WS_cond, WS_exit, WS_ret, WB_true, WB_false, RS_nil, RS_seq, RS_seqE, RS_seqR, RS_blk, RS_blkE, RS_blkR, WP_nil, WP_cons, WP_guard, WG_true, WG_false, WX_val, WX_enter, KC_nil, getK_some, QC_normal, QC_ret, QL_normal, QL_exit, QL_ret, nbeq, ibeq, iltn, ilen, ite_true, ite_false, EV, ER, fill_nil, fill_cons, fillK_some, fillJ_some, CK, KC_cons, again_nil, again_cons, again_guard, againW_T, againW_F, againR_val, AV.same_refl, wantedA, Opd.ev, evs, Env.get, Env.set, Env.get_set, List.cons.injEq, and_false, false_and, and_self, putE, cond, getAll, getRes, packed, eqOp, isNilV, scalarK, arithOp, unOpA, takeN, List.drop, true_and, and_true, reduceIte, reduceCtorEq, false_implies, forall_const, iLe_eq, iLt_eq, iEq_eq, decide_true, decide_false, Bool.not_true, Bool.not_false, Bool.true_and, Bool.and_true, Bool.false_and, Bool.and_false, beq_self_eq_true, imp_self, Bool.true_eq_false, Bool.false_eq_true, Nat.zero_add, Nat.add_zero, Nat.zero_mul, Nat.mul_one, Nat.one_mul, Nat.sub_zero, beqT, beqF, new_bad hL, List.getElem?_cons_zero, List.getElem?_cons_succ]
      by_cases h0 : L < 64
      · have d1 : decide (L < Int.ofNat 64) = true := decide_eq_true h0
        simp -implicitDefEqProofs only [c4, a4_0b, a4_1b, a4_2b, a4_3b, a4_4b, a4_5b, a4_6b, a4_7b, a4_8b, a4_9b, a4_10b, a4_11b, a4_12b, a4_13b, a4_14b, a4_15b, a4_16b, a4_17b, a4_18b, a4_19b, a4_20b, a4_21b, a4_22b, a4_23b, a4_24b, a4_25b, a4_26b, a4_27b, a4_28b, a4_29b, a4_30b, a4_31b, a4_32b, a4_33b, a4_34b, a4_35b, a4_36b, a4_37b, a4_38b, a4_39b, a4_40b, a4_41b, WS_skip, WS_ops, WS_seq, WS_block, WS_cond, WS_exit, WS_ret, WB_true, WB_false, RS_nil, RS_seq, RS_seqE, RS_seqR, RS_blk, RS_blkE, RS_blkR, WP_nil, WP_cons, WP_guard, WG_true, WG_false, WX_val, WX_enter, KC_nil, getK_some, QC_normal, QC_ret, QL_normal, QL_exit, QL_ret, nbeq, ibeq, iltn, ilen, ite_true, ite_false, EV, ER, fill_nil, fill_cons, fillK_some, fillJ_some, CK, KC_cons, again_nil, again_cons, again_guard, againW_T, againW_F, againR_val, AV.same_refl, wantedA, Opd.ev, evs, Env.get, Env.set, Env.get_set, List.cons.injEq, and_false, false_and, and_self, putE, cond, getAll, getRes, packed, eqOp, isNilV, scalarK, arithOp, unOpA, takeN, List.drop, true_and, and_true, reduceIte, reduceCtorEq, false_implies, forall_const, iLe_eq, iLt_eq, iEq_eq, decide_true, decide_false, Bool.not_true, Bool.not_false, Bool.true_and, Bool.and_true, Bool.false_and, Bool.and_false, beq_self_eq_true, imp_self, Bool.true_eq_false, Bool.false_eq_true, Nat.zero_add, Nat.add_zero, Nat.zero_mul, Nat.mul_one, Nat.one_mul, Nat.sub_zero, beqT, beqF, d1, e1, shelves_is]
        exact hk _
      · have d1 : decide (L < Int.ofNat 64) = false := decide_eq_false h0
        have d2 : decide (Int.ofNat 65536 < L) = true := decide_eq_true (by omega)
        simp -implicitDefEqProofs only [c4, a4_0b, a4_1b, a4_2b, a4_3b, a4_4b, a4_5b, a4_6b, a4_7b, a4_8b, a4_9b, a4_10b, a4_11b, a4_12b, a4_13b, a4_14b, a4_15b, a4_16b, a4_17b, a4_18b, a4_19b, a4_20b, a4_21b, a4_22b, a4_23b, a4_24b, a4_25b, a4_26b, a4_27b, a4_28b, a4_29b, a4_30b, a4_31b, a4_32b, a4_33b, a4_34b, a4_35b, a4_36b, a4_37b, a4_38b, a4_39b, a4_40b, a4_41b, WS_skip, WS_ops, WS_seq, WS_block, WS_cond, WS_exit, WS_ret, WB_true, WB_false, RS_nil, RS_seq, RS_seqE, RS_seqR, RS_blk, RS_blkE, RS_blkR, WP_nil, WP_cons, WP_guard, WG_true, WG_false, WX_val, WX_enter, KC_nil, getK_some, QC_normal, QC_ret, QL_normal, QL_exit, QL_ret, nbeq, ibeq, iltn, ilen, ite_true, ite_false, EV, ER, fill_nil, fill_cons, fillK_some, fillJ_some, CK, KC_cons, again_nil, again_cons, again_guard, againW_T, againW_F, againR_val, AV.same_refl, wantedA, Opd.ev, evs, Env.get, Env.set, Env.get_set, List.cons.injEq, and_false, false_and, and_self, putE, cond, getAll, getRes, packed, eqOp, isNilV, scalarK, arithOp, unOpA, takeN, List.drop, true_and, and_true, reduceIte, reduceCtorEq, false_implies, forall_const, iLe_eq, iLt_eq, iEq_eq, decide_true, decide_false, Bool.not_true, Bool.not_false, Bool.true_and, Bool.and_true, Bool.false_and, Bool.and_false, beq_self_eq_true, imp_self, Bool.true_eq_false, Bool.false_eq_true, Nat.zero_add, Nat.add_zero, Nat.zero_mul, Nat.mul_one, Nat.one_mul, Nat.sub_zero, beqT, beqF, d1, d2, e1, shelves_is]
        exact hk _
end
end Go.Proofs.Ytohjmflbgohkhaa.E
