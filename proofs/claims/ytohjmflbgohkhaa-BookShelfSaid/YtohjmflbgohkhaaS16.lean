/- The model's shelf in memory, and its small methods. -/
import Derived.Test.YtohjmflbgohkhaaS15
namespace Go.Proofs.Ytohjmflbgohkhaa.E
set_option linter.all false
open Go

def padN (s : List Nat) : List Nat := s ++ List.replicate (64 - s.length) 0
theorem padN_len {s : List Nat} (h : s.length ≤ 64) : (padN s).length = 64 := by simp [padN]; omega

def puts (PS : List (Nat × List Nat)) : List AV := (PS.map fun w => [.int .i64 (.ofNat w.1), .str w.2]).flatten
def pq (PS : List (Nat × List Nat)) (q : Nat) : AV := match PS with
  | [] => .nilslice
  | _ :: _ => .slice (.own q) 0 PS.length PS.length (some 2)

structure ModAt (h : AHeap) (m dd q : Nat) (DS : List (List Nat)) (PS : List (Nat × List Nat)) (pw : Int) (dn : Bool) : Prop where
  hm : hcells h m = some [.slice (.own dd) 0 DS.length DS.length (some 1), pq PS q, .int .i64 pw, .bool dn]
  hd : hcells h dd = some (DS.map AV.str)
  hp : PS ≠ [] → hcells h q = some (puts PS) ∧ m ≠ q ∧ dd ≠ q
  aD : ∀ s ∈ DS, s.length = 64
  aP : ∀ w ∈ PS, w.2.length = 64 ∧ w.1 < DS.length
  big : DS.length < 100000000
  ne : m ≠ dd

def qf (PS : List (Nat × List Nat)) (q : Nat) : List Nat := match PS with
  | [] => []
  | _ :: _ => [q]

section
variable {B : Base} {h : AHeap} {m dd q : Nat} {DS : List (List Nat)} {PS : List (Nat × List Nat)} {pw : Int} {dn : Bool}

theorem ModAt.keep {h' : AHeap} {F : List Nat} (M : ModAt h m dd q DS PS pw dn) (sm : Same h h' F) (hF : m ∉ F ∧ dd ∉ F ∧ (PS ≠ [] → q ∉ F)) : ModAt h' m dd q DS PS pw dn :=
  ⟨sm.cells M.hm hF.1, sm.cells M.hd hF.2.1, fun hne => ⟨sm.cells (M.hp hne).1 (hF.2.2 hne), (M.hp hne).2⟩, M.aD, M.aP, M.big, M.ne⟩

theorem ModAt.put (M : ModAt h m dd q DS PS pw dn) {pw' : Int} {dn' : Bool} {PS' : List (Nat × List Nat)} (hP : PS' = [] ∨ PS' = PS) :
    ModAt (h.set m (.cells [.slice (.own dd) 0 DS.length DS.length (some 1), pq PS' q, .int .i64 pw', .bool dn'])) m dd q DS PS' pw' dn' := by
  refine ⟨hc_set M.hm, by rw [hc_set_ne M.ne]; exact M.hd, fun hne => ?_, M.aD, ?_, M.big, M.ne⟩
  · rcases hP with h1 | h1
    · exact absurd h1 hne
    · rw [h1] at hne ⊢
      obtain ⟨g1, g2, g3⟩ := M.hp hne
      exact ⟨by rw [hc_set_ne g2]; exact g1, g2, g3⟩
  · rcases hP with h1 | h1
    · rw [h1]; simp
    · rw [h1]; exact M.aP

theorem ModAt.setD (M : ModAt h m dd q DS PS pw dn) {DS' : List (List Nat)} (hl : DS'.length = DS.length) (aD : ∀ s ∈ DS', s.length = 64) : ModAt (h.set dd (.cells (DS'.map AV.str))) m dd q DS' PS pw dn :=
  ⟨by rw [hc_set_ne M.ne.symm, hl]; exact M.hm, hc_set M.hd, fun hne => ⟨by rw [hc_set_ne (M.hp hne).2.2]; exact (M.hp hne).1, (M.hp hne).2⟩, aD, fun w hw => by rw [hl]; exact M.aP w hw, by rw [hl]; exact M.big, M.ne⟩

/- call: the power -/
theorem mcall_no (M : ModAt h m dd q DS PS 0 dn) {K : AV → AHeap → Prop}
    (hk : ∀ h', ModAt h' m dd q DS PS 0 true → Same h h' [m] → h'.length = h.length → K (.bool false) h') : WC B G 32 [.ptr (.own m) 0] h K := by
  refine WC_fun (af := a32) rfl rfl rfl ?_
  rw [args1]
  have hm := M.hm
  have e0 : ((0 : Int) == Int.ofNat 0) = true := rfl
  have e1 : ((0 : Int) == 0) = true := rfl
  simp -implicitDefEqProofs only [c32, a32_0b, a32_1b, a32_2b, a32_3b, a32_4b, a32_5b, a32_6b, a32_7b, a32_8b, a32_9b, a32_10b, WS_skip, WS_ops, WS_seq, WS_block, WS_cond, WS_exit, WS_ret, WB_true, WB_false, RS_nil, RS_seq, RS_seqE, RS_seqR, RS_blk, RS_blkE, RS_blkR, WP_nil, WP_cons, WP_guard, WG_true, WG_false, WX_val, WX_enter, KC_nil, getK_some, QC_normal, QC_ret, QL_normal, QL_exit, QL_ret, nbeq, ibeq, iltn, ilen, ite_true, ite_false, EV, ER, fill_nil, fill_cons, fillK_some, fillJ_some, CK, KC_cons, again_nil, again_cons, again_guard, againW_T, againW_F, againR_val, AV.same_refl, wantedA, Opd.ev, evs, Env.get, Env.set, Env.get_set, List.cons.injEq, and_false, false_and, and_self, putE, cond, getAll, getRes, packed, eqOp, isNilV, scalarK, arithOp, unOpA, takeN, List.drop, true_and, and_true, reduceIte, reduceCtorEq, false_implies, forall_const, iLe_eq, iLt_eq, iEq_eq, decide_true, decide_false, Bool.not_true, Bool.not_false, Bool.true_and, Bool.and_true, Bool.false_and, Bool.and_false, beq_self_eq_true, imp_self, Bool.true_eq_false, Bool.false_eq_true, Nat.zero_add, Nat.add_zero, Nat.zero_mul, Nat.mul_one, Nat.one_mul, Nat.sub_zero, beqT, beqF, ldOwn hm, stOwn hm, e0, e1, takeN, splice, List.length_cons, List.length_nil]
  exact hk _ (M.put (.inr rfl)) (.set (by simp)) (by simp)

theorem mcall_ok (M : ModAt h m dd q DS PS pw dn) (hpw : pw ≠ 0) (hr : -1 ≤ pw ∧ pw < 2 ^ 63) {K : AV → AHeap → Prop}
    (hk : ∀ h', ModAt h' m dd q DS PS (if 0 < pw then pw - 1 else pw) dn → Same h h' [m] → h'.length = h.length → K (.bool true) h') : WC B G 32 [.ptr (.own m) 0] h K := by
  refine WC_fun (af := a32) rfl rfl rfl ?_
  rw [args1]
  have hm := M.hm
  have e0 : (pw == Int.ofNat 0) = false := by simpa using hpw
  have e1 : (pw == 0) = false := by simpa using hpw
  by_cases hp : 0 < pw
  · have hw : awrap .i64 (pw - Int.ofNat 1) = pw - 1 := by
      rw [awrap_eq, show pw - Int.ofNat 1 = pw - 1 from rfl]; exact IntWalk.i64_in _ ⟨by omega, by omega⟩
    have e2 : decide (Int.ofNat 0 < pw) = true := by simpa using hp
    simp -implicitDefEqProofs only [c32, a32_0b, a32_1b, a32_2b, a32_3b, a32_4b, a32_5b, a32_6b, a32_7b, a32_8b, a32_9b, a32_10b, WS_skip, WS_ops, WS_seq, WS_block, WS_cond, WS_exit, WS_ret, WB_true, WB_false, RS_nil, RS_seq, RS_seqE, RS_seqR, RS_blk, RS_blkE, RS_blkR, WP_nil, WP_cons, WP_guard, WG_true, WG_false, WX_val, WX_enter, KC_nil, getK_some, QC_normal, QC_ret, QL_normal, QL_exit, QL_ret, nbeq, ibeq, iltn, ilen, ite_true, ite_false, EV, ER, fill_nil, fill_cons, fillK_some, fillJ_some, CK, KC_cons, again_nil, again_cons, again_guard, againW_T, againW_F, againR_val, AV.same_refl, wantedA, Opd.ev, evs, Env.get, Env.set, Env.get_set, List.cons.injEq, and_false, false_and, and_self, putE, cond, getAll, getRes, packed, eqOp, isNilV, scalarK, arithOp, unOpA, takeN, List.drop, true_and, and_true, reduceIte, reduceCtorEq, false_implies, forall_const, iLe_eq, iLt_eq, iEq_eq, decide_true, decide_false, Bool.not_true, Bool.not_false, Bool.true_and, Bool.and_true, Bool.false_and, Bool.and_false, beq_self_eq_true, imp_self, Bool.true_eq_false, Bool.false_eq_true, Nat.zero_add, Nat.add_zero, Nat.zero_mul, Nat.mul_one, Nat.one_mul, Nat.sub_zero, beqT, beqF, ldOwn hm, stOwn hm, e0, e1, e2, hw, takeN, splice, List.length_cons, List.length_nil]
    exact hk _ (by rw [if_pos hp]; exact M.put (.inr rfl)) (.set (by simp)) (by simp)
  · have e2 : decide (Int.ofNat 0 < pw) = false := by simpa using hp
    simp -implicitDefEqProofs only [c32, a32_0b, a32_1b, a32_2b, a32_3b, a32_4b, a32_5b, a32_6b, a32_7b, a32_8b, a32_9b, a32_10b, WS_skip, WS_ops, WS_seq, WS_block, WS_cond, WS_exit, WS_ret, WB_true, WB_false, RS_nil, RS_seq, RS_seqE, RS_seqR, RS_blk, RS_blkE, RS_blkR, WP_nil, WP_cons, WP_guard, WG_true, WG_false, WX_val, WX_enter, KC_nil, getK_some, QC_normal, QC_ret, QL_normal, QL_exit, QL_ret, nbeq, ibeq, iltn, ilen, ite_true, ite_false, EV, ER, fill_nil, fill_cons, fillK_some, fillJ_some, CK, KC_cons, again_nil, again_cons, again_guard, againW_T, againW_F, againR_val, AV.same_refl, wantedA, Opd.ev, evs, Env.get, Env.set, Env.get_set, List.cons.injEq, and_false, false_and, and_self, putE, cond, getAll, getRes, packed, eqOp, isNilV, scalarK, arithOp, unOpA, takeN, List.drop, true_and, and_true, reduceIte, reduceCtorEq, false_implies, forall_const, iLe_eq, iLt_eq, iEq_eq, decide_true, decide_false, Bool.not_true, Bool.not_false, Bool.true_and, Bool.and_true, Bool.false_and, Bool.and_false, beq_self_eq_true, imp_self, Bool.true_eq_false, Bool.false_eq_true, Nat.zero_add, Nat.add_zero, Nat.zero_mul, Nat.mul_one, Nat.one_mul, Nat.sub_zero, beqT, beqF, ldOwn hm, e0, e1, e2, takeN]
    exact hk h (by rw [if_neg hp]; exact M) (.refl _ _) rfl

theorem mstop_down (M : ModAt h m dd q DS PS pw true) {n : Int} : ∀ K : AV → AHeap → Prop, WC B G 28 [.ptr (.own m) 0, .int .i64 n] h K ↔ K (.int .i64 (.ofNat 90)) h := by
  refine WC_iff fun K hk => WC_fun (af := a28) rfl rfl rfl ?_
  rw [args2]
  have hm := M.hm
  simp -implicitDefEqProofs only [c28, a28_0b, a28_1b, a28_2b, a28_3b, a28_4b, a28_5b, a28_6b, a28_7b, a28_8b, a28_9b, a28_10b, WS_skip, WS_ops, WS_seq, WS_block, WS_cond, WS_exit, WS_ret, WB_true, WB_false, RS_nil, RS_seq, RS_seqE, RS_seqR, RS_blk, RS_blkE, RS_blkR, WP_nil, WP_cons, WP_guard, WG_true, WG_false, WX_val, WX_enter, KC_nil, getK_some, QC_normal, QC_ret, QL_normal, QL_exit, QL_ret, nbeq, ibeq, iltn, ilen, ite_true, ite_false, EV, ER, fill_nil, fill_cons, fillK_some, fillJ_some, CK, KC_cons, again_nil, again_cons, again_guard, againW_T, againW_F, againR_val, AV.same_refl, wantedA, Opd.ev, evs, Env.get, Env.set, Env.get_set, List.cons.injEq, and_false, false_and, and_self, putE, cond, getAll, getRes, packed, eqOp, isNilV, scalarK, arithOp, unOpA, takeN, List.drop, true_and, and_true, reduceIte, reduceCtorEq, false_implies, forall_const, iLe_eq, iLt_eq, iEq_eq, decide_true, decide_false, Bool.not_true, Bool.not_false, Bool.true_and, Bool.and_true, Bool.false_and, Bool.and_false, beq_self_eq_true, imp_self, Bool.true_eq_false, Bool.false_eq_true, Nat.zero_add, Nat.add_zero, Nat.zero_mul, Nat.mul_one, Nat.one_mul, Nat.sub_zero, beqT, beqF, ldOwn hm, takeN]
  exact hk
theorem mstop_arg (M : ModAt h m dd q DS PS pw false) {n : Int} (hn : n < 0) : ∀ K : AV → AHeap → Prop, WC B G 28 [.ptr (.own m) 0, .int .i64 n] h K ↔ K (.int .i64 (.ofNat 1)) h := by
  refine WC_iff fun K hk => WC_fun (af := a28) rfl rfl rfl ?_
  rw [args2]
  have hm := M.hm
  have e1 : decide (n < Int.ofNat 0) = true := decide_eq_true hn
  simp -implicitDefEqProofs only [c28, a28_0b, a28_1b, a28_2b, a28_3b, a28_4b, a28_5b, a28_6b, a28_7b, a28_8b, a28_9b, a28_10b, WS_skip, WS_ops, WS_seq, WS_block, WS_cond, WS_exit, WS_ret, WB_true, WB_false, RS_nil, RS_seq, RS_seqE, RS_seqR, RS_blk, RS_blkE, RS_blkR, WP_nil, WP_cons, WP_guard, WG_true, WG_false, WX_val, WX_enter, KC_nil, getK_some, QC_normal, QC_ret, QL_normal, QL_exit, QL_ret, nbeq, ibeq, iltn, ilen, ite_true, ite_false, EV, ER, fill_nil, fill_cons, fillK_some, fillJ_some, CK, KC_cons, again_nil, again_cons, again_guard, againW_T, againW_F, againR_val, AV.same_refl, wantedA, Opd.ev, evs, Env.get, Env.set, Env.get_set, List.cons.injEq, and_false, false_and, and_self, putE, cond, getAll, getRes, packed, eqOp, isNilV, scalarK, arithOp, unOpA, takeN, List.drop, true_and, and_true, reduceIte, reduceCtorEq, false_implies, forall_const, iLe_eq, iLt_eq, iEq_eq, decide_true, decide_false, Bool.not_true, Bool.not_false, Bool.true_and, Bool.and_true, Bool.false_and, Bool.and_false, beq_self_eq_true, imp_self, Bool.true_eq_false, Bool.false_eq_true, Nat.zero_add, Nat.add_zero, Nat.zero_mul, Nat.mul_one, Nat.one_mul, Nat.sub_zero, beqT, beqF, ldOwn hm, takeN, e1]
  exact hk
theorem mstop_ok (M : ModAt h m dd q DS PS pw false) {n : Int} (hn : ¬ n < 0) {K : AV → AHeap → Prop}
    (hk : ∀ h', ModAt h' m dd q DS PS n false → Same h h' [m] → h'.length = h.length → K (.int .i64 (.ofNat 0)) h') : WC B G 28 [.ptr (.own m) 0, .int .i64 n] h K := by
  refine WC_fun (af := a28) rfl rfl rfl ?_
  rw [args2]
  have hm := M.hm
  have e1 : decide (n < Int.ofNat 0) = false := decide_eq_false hn
  simp -implicitDefEqProofs only [c28, a28_0b, a28_1b, a28_2b, a28_3b, a28_4b, a28_5b, a28_6b, a28_7b, a28_8b, a28_9b, a28_10b, WS_skip, WS_ops, WS_seq, WS_block, WS_cond, WS_exit, WS_ret, WB_true, WB_false, RS_nil, RS_seq, RS_seqE, RS_seqR, RS_blk, RS_blkE, RS_blkR, WP_nil, WP_cons, WP_guard, WG_true, WG_false, WX_val, WX_enter, KC_nil, getK_some, QC_normal, QC_ret, QL_normal, QL_exit, QL_ret, nbeq, ibeq, iltn, ilen, ite_true, ite_false, EV, ER, fill_nil, fill_cons, fillK_some, fillJ_some, CK, KC_cons, again_nil, again_cons, again_guard, againW_T, againW_F, againR_val, AV.same_refl, wantedA, Opd.ev, evs, Env.get, Env.set, Env.get_set, List.cons.injEq, and_false, false_and, and_self, putE, cond, getAll, getRes, packed, eqOp, isNilV, scalarK, arithOp, unOpA, takeN, List.drop, true_and, and_true, reduceIte, reduceCtorEq, false_implies, forall_const, iLe_eq, iLt_eq, iEq_eq, decide_true, decide_false, Bool.not_true, Bool.not_false, Bool.true_and, Bool.and_true, Bool.false_and, Bool.and_false, beq_self_eq_true, imp_self, Bool.true_eq_false, Bool.false_eq_true, Nat.zero_add, Nat.add_zero, Nat.zero_mul, Nat.mul_one, Nat.one_mul, Nat.sub_zero, beqT, beqF, ldOwn hm, stOwn hm, takeN, e1, splice, List.length_cons, List.length_nil]
  exact hk _ (M.put (.inr rfl)) (.set (by simp)) (by simp)

/- padded -/
theorem padded_is {s : List Nat} (hs : s.length ≤ 64) : ∀ K : AV → AHeap → Prop, WC B G 31 [.str s] h K ↔ K (.str (padN s)) h := by
  refine WC_iff fun K hk => WC_fun (af := a31) rfl rfl rfl ?_
  rw [args1]
  simp -implicitDefEqProofs only [c31, a31_0b, a31_1b, a31_2b, a31_3b, a31_4b, a31_5b, a31_6b, a31_7b, a31_8b, a31_9b, WS_skip, WS_ops, WS_seq, WS_block, WS_cond, WS_exit, WS_ret, WB_true, WB_false, RS_nil, RS_seq, RS_seqE, RS_seqR, RS_blk, RS_blkE, RS_blkR, WP_nil, WP_cons, WP_guard, WG_true, WG_false, WX_val, WX_enter, KC_nil, getK_some, QC_normal, QC_ret, QL_normal, QL_exit, QL_ret, nbeq, ibeq, iltn, ilen, ite_true, ite_false, EV, ER, fill_nil, fill_cons, fillK_some, fillJ_some, CK, KC_cons, again_nil, again_cons, again_guard, againW_T, againW_F, againR_val, AV.same_refl, wantedA, Opd.ev, evs, Env.get, Env.set, Env.get_set, List.cons.injEq, and_false, false_and, and_self, putE, cond, getAll, getRes, packed, eqOp, isNilV, scalarK, arithOp, unOpA, takeN, List.drop, true_and, and_true, reduceIte, reduceCtorEq, false_implies, forall_const, iLe_eq, iLt_eq, iEq_eq, decide_true, decide_false, Bool.not_true, Bool.not_false, Bool.true_and, Bool.and_true, Bool.false_and, Bool.and_false, beq_self_eq_true, imp_self, Bool.true_eq_false, Bool.false_eq_true, Nat.zero_add, Nat.add_zero, Nat.zero_mul, Nat.mul_one, Nat.one_mul, Nat.sub_zero, beqT, beqF]
  refine WS_loop (k := 64 - s.length) (fun k env h' => ∃ j, k = 64 - s.length - j ∧ s.length + j ≤ 64 ∧ h' = h ∧ env.get [] = .str (s ++ List.replicate j 0)) ?_ ?_
  · exact ⟨0, by simp [Env.get, hs]⟩
  · rintro k env h' ⟨j, rfl, hj, rfl, e0⟩
    have hl : (s ++ List.replicate j 0).length = s.length + j := by simp
    by_cases hlt : s.length + j < 64
    · have d1 : decide (s.length + j < 64) = true := decide_eq_true hlt
      have d2 : decide (s.length + j + [0].length < 1000000000000000000) = true := decide_eq_true (by simp; omega)
      have d3 : Nat.blt (s.length + j + [0].length) 1000000000000000000 = true := by rw [Nat.blt_eq]; simp; omega
      simp -implicitDefEqProofs only [c31, a31_0b, a31_1b, a31_2b, a31_3b, a31_4b, a31_5b, a31_6b, a31_7b, a31_8b, a31_9b, WS_skip, WS_ops, WS_seq, WS_block, WS_cond, WS_exit, WS_ret, WB_true, WB_false, RS_nil, RS_seq, RS_seqE, RS_seqR, RS_blk, RS_blkE, RS_blkR, WP_nil, WP_cons, WP_guard, WG_true, WG_false, WX_val, WX_enter, KC_nil, getK_some, QC_normal, QC_ret, QL_normal, QL_exit, QL_ret, nbeq, ibeq, iltn, ilen, ite_true, ite_false, EV, ER, fill_nil, fill_cons, fillK_some, fillJ_some, CK, KC_cons, again_nil, again_cons, again_guard, againW_T, againW_F, againR_val, AV.same_refl, wantedA, Opd.ev, evs, Env.get, Env.set, Env.get_set, List.cons.injEq, and_false, false_and, and_self, putE, cond, getAll, getRes, packed, eqOp, isNilV, scalarK, arithOp, unOpA, takeN, List.drop, true_and, and_true, reduceIte, reduceCtorEq, false_implies, forall_const, iLe_eq, iLt_eq, iEq_eq, decide_true, decide_false, Bool.not_true, Bool.not_false, Bool.true_and, Bool.and_true, Bool.false_and, Bool.and_false, beq_self_eq_true, imp_self, Bool.true_eq_false, Bool.false_eq_true, Nat.zero_add, Nat.add_zero, Nat.zero_mul, Nat.mul_one, Nat.one_mul, Nat.sub_zero, beqT, beqF, e0, hl, d1, QL_normal, d3]
      exact ⟨64 - s.length - (j + 1), by omega, j + 1, rfl, by omega, by simp [Env.get_set, List.replicate_succ', List.append_assoc]⟩
    · have d1 : decide (s.length + j < 64) = false := decide_eq_false hlt
      simp -implicitDefEqProofs only [c31, a31_0b, a31_1b, a31_2b, a31_3b, a31_4b, a31_5b, a31_6b, a31_7b, a31_8b, a31_9b, WS_skip, WS_ops, WS_seq, WS_block, WS_cond, WS_exit, WS_ret, WB_true, WB_false, RS_nil, RS_seq, RS_seqE, RS_seqR, RS_blk, RS_blkE, RS_blkR, WP_nil, WP_cons, WP_guard, WG_true, WG_false, WX_val, WX_enter, KC_nil, getK_some, QC_normal, QC_ret, QL_normal, QL_exit, QL_ret, nbeq, ibeq, iltn, ilen, ite_true, ite_false, EV, ER, fill_nil, fill_cons, fillK_some, fillJ_some, CK, KC_cons, again_nil, again_cons, again_guard, againW_T, againW_F, againR_val, AV.same_refl, wantedA, Opd.ev, evs, Env.get, Env.set, Env.get_set, List.cons.injEq, and_false, false_and, and_self, putE, cond, getAll, getRes, packed, eqOp, isNilV, scalarK, arithOp, unOpA, takeN, List.drop, true_and, and_true, reduceIte, reduceCtorEq, false_implies, forall_const, iLe_eq, iLt_eq, iEq_eq, decide_true, decide_false, Bool.not_true, Bool.not_false, Bool.true_and, Bool.and_true, Bool.false_and, Bool.and_false, beq_self_eq_true, imp_self, Bool.true_eq_false, Bool.false_eq_true, Nat.zero_add, Nat.add_zero, Nat.zero_mul, Nat.mul_one, Nat.one_mul, Nat.sub_zero, beqT, beqF, e0, hl, d1, QL_exit]
      have : j = 64 - s.length := by omega
      subst this
      exact hk
end
end Go.Proofs.Ytohjmflbgohkhaa.E
