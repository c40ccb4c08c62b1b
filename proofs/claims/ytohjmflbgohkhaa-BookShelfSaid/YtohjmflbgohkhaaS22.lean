/- BookShelf: one operation of the script. -/
import Derived.Test.YtohjmflbgohkhaaS21
namespace Go.Proofs.Ytohjmflbgohkhaa.E
set_option linter.all false
open Go

section
variable {B : Base} {h : AHeap} {s di ni pi m dd q : Nat} {DS : List (List Nat)} {PS : List (Nat × List Nat)} {pw : Int} {dn : Bool}

/- what is left behind an operation -/
def Next (n s m : Nat) (DSl PSl : Nat) (h : AHeap) : Prop := ∃ di ni pi dd q DS PS pw dn, Both h s di ni pi m dd q DS PS pw dn ∧ DS.length = DSl ∧ PS.length ≤ PSl ∧ n ≤ h.length

theorem valid_nat {i : Int} {n : Nat} (h : 0 ≤ i ∧ i < Int.ofNat n) : ∃ j : Nat, j < n ∧ i = Int.ofNat j := by
  obtain ⟨j, rfl⟩ := Int.eq_ofNat_of_zero_le h.1
  exact ⟨j, by have := h.2; simp at this; exact this, rfl⟩
theorem beqI (k : Nat) : (Int.ofNat k == Int.ofNat k) = true := by simp

set_option maxHeartbeats 2000000 in
theorem step_read (A : Both h s di ni pi m dd q DS PS pw dn) (hP : PS.length < 1000) {kind : Nat} {i n : Int} {bv kv : AV} (hk0 : kind % 6 = 0) {K : AV → AHeap → Prop}
    (hk : ∀ h', Next h.length s m DS.length (PS.length + 1) h' → K (.bool true) h') :
    WC B G 15 [.ptr (.own s) 0, .ptr (.own m) 0, .agg [.int .u8 (.ofNat kind), .int .i64 i, bv, .int .i64 n, kv]] h K := by
  refine WC_fun (af := a15) rfl rfl rfl ?_
  rw [args3]
  have sm0 := Same.app h [.cells [.int .u8 (.ofNat kind), .int .i64 i, bv, .int .i64 n, kv]] []
  have A0 := A.keep sm0
  have hx : hcells (h ++ [.cells [.int .u8 (.ofNat kind), .int .i64 i, bv, .int .i64 n, kv]]) h.length = some _ := hc_new
  have hl0 : h.length ≤ (h ++ [AObj.cells [.int .u8 (.ofNat kind), .int .i64 i, bv, .int .i64 n, kv]]).length := by simp
  have e6 : (Int.ofNat 6 == 0) = false := rfl
  have ek : (Int.ofNat kind).tmod (Int.ofNat 6) = .ofNat 0 := by
    show ((kind % 6 : Nat) : Int) = _; rw [hk0]; rfl
  simp -implicitDefEqProofs only [c15, a15_0b, a15_1b, a15_2b, a15_3b, a15_4b, a15_5b, a15_6b, a15_7b, a15_8b, a15_9b, a15_10b, a15_11b, a15_12b, a15_13b, a15_14b, a15_15b, a15_16b, a15_17b, a15_18b, a15_19b, a15_20b, a15_21b, a15_22b, a15_23b, WS_skip, WS_ops, WS_seq, WS_block, WS_cond, WS_exit, WS_ret, WB_true, WB_false, RS_nil, RS_seq, RS_seqE, RS_seqR, RS_blk, RS_blkE, RS_blkR, WP_nil, WP_cons, WP_guard, WG_true, WG_false, WX_val, WX_enter, KC_nil, getK_some, QC_normal, QC_ret, QL_normal, QL_exit, QL_ret, nbeq, ibeq, iltn, ilen, ite_true, ite_false, EV, ER, fill_nil, fill_cons, fillK_some, fillJ_some, CK, KC_cons, again_nil, again_cons, again_guard, againW_T, againW_F, againR_val, AV.same_refl, wantedA, Opd.ev, evs, Env.get, Env.set, Env.get_set, List.cons.injEq, and_false, false_and, and_self, putE, cond, getAll, getRes, packed, eqOp, isNilV, scalarK, arithOp, unOpA, takeN, List.drop, true_and, and_true, reduceIte, reduceCtorEq, false_implies, forall_const, iLe_eq, iLt_eq, iEq_eq, decide_true, decide_false, Bool.not_true, Bool.not_false, Bool.true_and, Bool.and_true, Bool.false_and, Bool.and_false, beq_self_eq_true, imp_self, Bool.true_eq_false, Bool.false_eq_true, Nat.zero_add, Nat.add_zero, Nat.zero_mul, Nat.mul_one, Nat.one_mul, Nat.sub_zero, beqT, beqF]
  generalize h ++ [AObj.cells [.int .u8 (.ofNat kind), .int .i64 i, bv, .int .i64 n, kv]] = h0 at sm0 A0 hx hl0
  have e0 := beqI 0
  have hm := A0.M.hm
  have hpos := A.pos
  cases dn with
  | true =>
    have dI := down_is (B := B) A0.S
    have e90 := beqI 90
    simp -implicitDefEqProofs only [c15, a15_0b, a15_1b, a15_2b, a15_3b, a15_4b, a15_5b, a15_6b, a15_7b, a15_8b, a15_9b, a15_10b, a15_11b, a15_12b, a15_13b, a15_14b, a15_15b, a15_16b, a15_17b, a15_18b, a15_19b, a15_20b, a15_21b, a15_22b, a15_23b, WS_skip, WS_ops, WS_seq, WS_block, WS_cond, WS_exit, WS_ret, WB_true, WB_false, RS_nil, RS_seq, RS_seqE, RS_seqR, RS_blk, RS_blkE, RS_blkR, WP_nil, WP_cons, WP_guard, WG_true, WG_false, WX_val, WX_enter, KC_nil, getK_some, QC_normal, QC_ret, QL_normal, QL_exit, QL_ret, nbeq, ibeq, iltn, ilen, ite_true, ite_false, EV, ER, fill_nil, fill_cons, fillK_some, fillJ_some, CK, KC_cons, again_nil, again_cons, again_guard, againW_T, againW_F, againR_val, AV.same_refl, wantedA, Opd.ev, evs, Env.get, Env.set, Env.get_set, List.cons.injEq, and_false, false_and, and_self, putE, cond, getAll, getRes, packed, eqOp, isNilV, scalarK, arithOp, unOpA, takeN, List.drop, true_and, and_true, reduceIte, reduceCtorEq, false_implies, forall_const, iLe_eq, iLt_eq, iEq_eq, decide_true, decide_false, Bool.not_true, Bool.not_false, Bool.true_and, Bool.and_true, Bool.false_and, Bool.and_false, beq_self_eq_true, imp_self, Bool.true_eq_false, Bool.false_eq_true, Nat.zero_add, Nat.add_zero, Nat.zero_mul, Nat.mul_one, Nat.one_mul, Nat.sub_zero, beqT, beqF, ldOwn hx, takeN, e6, ek, e0, read_down A0.S, mread_down A0.M, List.getElem?_cons_zero, List.getElem?_cons_succ, e90, isStrV, srcCells, ofByteCells, dI, ldOwn hm]
    exact hk _ ⟨_, _, _, _, _, _, _, _, _, A0, rfl, by omega, hl0⟩
  | false =>
    have dI := down_is (B := B) A0.S
    by_cases hi : 0 ≤ i ∧ i < Int.ofNat DS.length
    · obtain ⟨j, hj, rfl⟩ := valid_nat hi
      obtain ⟨t, ht, hst, htl⟩ := A.seen hj
      simp -implicitDefEqProofs only [c15, a15_0b, a15_1b, a15_2b, a15_3b, a15_4b, a15_5b, a15_6b, a15_7b, a15_8b, a15_9b, a15_10b, a15_11b, a15_12b, a15_13b, a15_14b, a15_15b, a15_16b, a15_17b, a15_18b, a15_19b, a15_20b, a15_21b, a15_22b, a15_23b, WS_skip, WS_ops, WS_seq, WS_block, WS_cond, WS_exit, WS_ret, WB_true, WB_false, RS_nil, RS_seq, RS_seqE, RS_seqR, RS_blk, RS_blkE, RS_blkR, WP_nil, WP_cons, WP_guard, WG_true, WG_false, WX_val, WX_enter, KC_nil, getK_some, QC_normal, QC_ret, QL_normal, QL_exit, QL_ret, nbeq, ibeq, iltn, ilen, ite_true, ite_false, EV, ER, fill_nil, fill_cons, fillK_some, fillJ_some, CK, KC_cons, again_nil, again_cons, again_guard, againW_T, againW_F, againR_val, AV.same_refl, wantedA, Opd.ev, evs, Env.get, Env.set, Env.get_set, List.cons.injEq, and_false, false_and, and_self, putE, cond, getAll, getRes, packed, eqOp, isNilV, scalarK, arithOp, unOpA, takeN, List.drop, true_and, and_true, reduceIte, reduceCtorEq, false_implies, forall_const, iLe_eq, iLt_eq, iEq_eq, decide_true, decide_false, Bool.not_true, Bool.not_false, Bool.true_and, Bool.and_true, Bool.false_and, Bool.and_false, beq_self_eq_true, imp_self, Bool.true_eq_false, Bool.false_eq_true, Nat.zero_add, Nat.add_zero, Nat.zero_mul, Nat.mul_one, Nat.one_mul, Nat.sub_zero, beqT, beqF, ldOwn hx, takeN, e6, ek, e0]
      refine read_ok A0.S (i := j) (by rw [encD_len]; exact hj) (encD_get ht) ?_
      have sm1 : Same h0 (h0 ++ [.cells []] ++ [.cells (byteCells t)]) [] := (Same.app h0 [.cells []] []).trans (Same.app _ _ []) (by simp)
      have A1 := A0.keep sm1
      have hm1 := A1.M.hm
      have hx1 : hcells (h0 ++ [.cells []] ++ [.cells (byteCells t)]) h.length = some _ := sm1.cells hx (by simp)
      have hy1 : hcells (h0 ++ [.cells []] ++ [.cells (byteCells t)]) (h0.length + 1) = some (byteCells t) := by
        have := hc_new (h := h0 ++ [.cells []]) (c := byteCells t); simpa using this
      have sc : srcCells B (h0 ++ [.cells []] ++ [.cells (byteCells t)]) 1 (.slice (.own (h0.length + 1)) 0 64 64 (some 1)) = some (64, byteCells t) := by
        have : loadN B (h0 ++ [.cells []] ++ [.cells (byteCells t)]) (.own (h0.length + 1)) 0 (64 * 1) = some (byteCells t) := by
          rw [ldOwn hy1, List.drop_zero, takeN_some (by rw [bc_len]; omega), List.take_of_length_le (by rw [bc_len]; omega)]
        simp only [srcCells, this]
      have hl1 := sm1.1
      generalize h0 ++ [AObj.cells []] ++ [AObj.cells (byteCells t)] = h1 at sm1 A1 hm1 hx1 hy1 sc hl1
      have mr := mread_ok (B := B) A1.M (by omega) hj ht
      have dI1 := down_is (B := B) A1.S
      simp -implicitDefEqProofs only [c15, a15_0b, a15_1b, a15_2b, a15_3b, a15_4b, a15_5b, a15_6b, a15_7b, a15_8b, a15_9b, a15_10b, a15_11b, a15_12b, a15_13b, a15_14b, a15_15b, a15_16b, a15_17b, a15_18b, a15_19b, a15_20b, a15_21b, a15_22b, a15_23b, WS_skip, WS_ops, WS_seq, WS_block, WS_cond, WS_exit, WS_ret, WB_true, WB_false, RS_nil, RS_seq, RS_seqE, RS_seqR, RS_blk, RS_blkE, RS_blkR, WP_nil, WP_cons, WP_guard, WG_true, WG_false, WX_val, WX_enter, KC_nil, getK_some, QC_normal, QC_ret, QL_normal, QL_exit, QL_ret, nbeq, ibeq, iltn, ilen, ite_true, ite_false, EV, ER, fill_nil, fill_cons, fillK_some, fillJ_some, CK, KC_cons, again_nil, again_cons, again_guard, againW_T, againW_F, againR_val, AV.same_refl, wantedA, Opd.ev, evs, Env.get, Env.set, Env.get_set, List.cons.injEq, and_false, false_and, and_self, putE, cond, getAll, getRes, packed, eqOp, isNilV, scalarK, arithOp, unOpA, takeN, List.drop, true_and, and_true, reduceIte, reduceCtorEq, false_implies, forall_const, iLe_eq, iLt_eq, iEq_eq, decide_true, decide_false, Bool.not_true, Bool.not_false, Bool.true_and, Bool.and_true, Bool.false_and, Bool.and_false, beq_self_eq_true, imp_self, Bool.true_eq_false, Bool.false_eq_true, Nat.zero_add, Nat.add_zero, Nat.zero_mul, Nat.mul_one, Nat.one_mul, Nat.sub_zero, beqT, beqF, ldOwn hx1, takeN, List.getElem?_cons_zero, List.getElem?_cons_succ, isStrV, sc, bc_of hst, dI1, ldOwn hm1, mr, e0]
      exact hk _ ⟨_, _, _, _, _, _, _, _, _, A1, rfl, by omega, by omega⟩
    · have hi' : ¬ (0 ≤ i ∧ i < Int.ofNat (encD DS).length) := by rw [encD_len]; exact hi
      have e1 := beqI 1
      simp -implicitDefEqProofs only [c15, a15_0b, a15_1b, a15_2b, a15_3b, a15_4b, a15_5b, a15_6b, a15_7b, a15_8b, a15_9b, a15_10b, a15_11b, a15_12b, a15_13b, a15_14b, a15_15b, a15_16b, a15_17b, a15_18b, a15_19b, a15_20b, a15_21b, a15_22b, a15_23b, WS_skip, WS_ops, WS_seq, WS_block, WS_cond, WS_exit, WS_ret, WB_true, WB_false, RS_nil, RS_seq, RS_seqE, RS_seqR, RS_blk, RS_blkE, RS_blkR, WP_nil, WP_cons, WP_guard, WG_true, WG_false, WX_val, WX_enter, KC_nil, getK_some, QC_normal, QC_ret, QL_normal, QL_exit, QL_ret, nbeq, ibeq, iltn, ilen, ite_true, ite_false, EV, ER, fill_nil, fill_cons, fillK_some, fillJ_some, CK, KC_cons, again_nil, again_cons, again_guard, againW_T, againW_F, againR_val, AV.same_refl, wantedA, Opd.ev, evs, Env.get, Env.set, Env.get_set, List.cons.injEq, and_false, false_and, and_self, putE, cond, getAll, getRes, packed, eqOp, isNilV, scalarK, arithOp, unOpA, takeN, List.drop, true_and, and_true, reduceIte, reduceCtorEq, false_implies, forall_const, iLe_eq, iLt_eq, iEq_eq, decide_true, decide_false, Bool.not_true, Bool.not_false, Bool.true_and, Bool.and_true, Bool.false_and, Bool.and_false, beq_self_eq_true, imp_self, Bool.true_eq_false, Bool.false_eq_true, Nat.zero_add, Nat.add_zero, Nat.zero_mul, Nat.mul_one, Nat.one_mul, Nat.sub_zero, beqT, beqF, ldOwn hx, takeN, e6, ek, e0, read_arg A0.S hi', mread_arg A0.M hi, List.getElem?_cons_zero, List.getElem?_cons_succ, e1, isStrV, srcCells, ofByteCells, dI, ldOwn hm]
      exact hk _ ⟨_, _, _, _, _, _, _, _, _, A0, rfl, by omega, hl0⟩

/- a step of the program's shelf and one of the model's, each in its own memory -/
theorem Both.mk1 {h1 h2 : AHeap} {pi' q' : Nat} {pw' : Int} {dn' : Bool} {PS' : List (Nat × List Nat)} {DS' : List (List Nat)} {di' ni' dd' : Nat} (A : Both h s di ni pi m dd q DS PS pw dn)
    (S : ShelfAt h1 s di' ni' pi' (encD DS') (encD (laidG DS' PS')) (encP PS') pw' dn') (M : ModAt h2 m dd' q' DS' PS' pw' dn') {F2 : List Nat} (sm2 : Same h1 h2 F2)
    (hF2 : ∀ x ∈ F2, x = m ∨ x = dd ∨ (PS ≠ [] ∧ x = q)) (hl : h.length ≤ h1.length)
    (ddi : di' = di ∨ h.length ≤ di') (hni : ni' = ni ∨ h.length ≤ ni') (hpi : PS' ≠ [] → (PS ≠ [] ∧ pi' = pi) ∨ h.length ≤ pi') (hdd : dd' = dd) (hq : PS' ≠ [] → (PS ≠ [] ∧ q' = q) ∨ h1.length ≤ q')
    (sD : ∀ t ∈ DS', Small t) (sP : ∀ w ∈ PS', Small w.2) (rng : -1 ≤ pw' ∧ pw' < 2 ^ 63) (pos : 0 < DS'.length) : Both h2 s di' ni' pi' m dd' q' DS' PS' pw' dn' := by
  obtain ⟨l1, l2, l3, l4, l5, l6, l7⟩ := A.lt
  obtain ⟨ed, en, hs⟩ := S.hs
  have b1 := hc_lt hs
  have b2 := hc_lt S.hd
  have b3 := hc_lt S.hn
  have b4 := fun hne => hc_lt (S.hp (encP_nil.2 hne)).1
  subst hdd
  have A1 := A.a1
  have A2 := A.a2
  have A3 := A.a3
  have n1 : s ∉ F2 := fun hh => by
    rcases hF2 s hh with h | h | ⟨h0, h⟩
    · omega
    · omega
    · have := A3 h0; omega
  have n2 : di' ∉ F2 := fun hh => by
    rcases hF2 _ hh with h | h | ⟨h0, h⟩
    · rcases ddi with e | e <;> omega
    · rcases ddi with e | e <;> omega
    · have := A3 h0; have := l7 h0; rcases ddi with e | e <;> omega
  have n3 : ni' ∉ F2 := fun hh => by
    rcases hF2 _ hh with h | h | ⟨h0, h⟩
    · rcases hni with e | e <;> omega
    · rcases hni with e | e <;> omega
    · have := A3 h0; have := l7 h0; rcases hni with e | e <;> omega
  have n4 : encP PS' ≠ [] → pi' ∉ F2 := fun hne hh => by
    rcases hpi (encP_nil.1 hne) with ⟨g0, e⟩ | e
    · have := A1.2.2.2 g0; have := A2.2.2.2 g0; have := A3 g0
      rcases hF2 _ hh with h | h | ⟨h0, h⟩ <;> omega
    · rcases hF2 _ hh with h | h | ⟨h0, h⟩
      · omega
      · omega
      · have := l7 h0; omega
  refine ⟨S.keep sm2 ⟨n1, n2, n3, n4⟩, M, sD, sP, rng, pos, ⟨A1.1, ?_, ?_, ?_⟩, ⟨A2.1, ?_, ?_, ?_⟩, fun hne => ?_⟩
  · rcases ddi with e | e <;> omega
  · rcases hni with e | e <;> omega
  · intro hne
    rcases hpi hne with ⟨g0, e⟩ | e
    · have := A1.2.2.2 g0; omega
    · omega
  · rcases ddi with e | e <;> omega
  · rcases hni with e | e <;> omega
  · intro hne
    rcases hpi hne with ⟨g0, e⟩ | e
    · have := A2.2.2.2 g0; omega
    · omega
  · have b4 := b4 hne
    rcases hq hne with ⟨g0, e⟩ | e
    · have := A3 g0
      have := l7 g0
      refine ⟨by omega, ?_, ?_, ?_⟩
      · rcases ddi with e | e <;> omega
      · rcases hni with e | e <;> omega
      · rcases hpi hne with ⟨_, e⟩ | e <;> omega
    · refine ⟨by omega, by omega, by omega, by omega⟩

set_option maxHeartbeats 2000000 in
theorem step_write (A : Both h s di ni pi m dd q DS PS pw dn) (hP : PS.length < 1000) {kind : Nat} {i n : Int} {bv kv : AV} {ns : List Nat} (hb : Src B bv (byteCells ns)) (hsm : Small ns) (hk0 : kind % 6 = 1) {K : AV → AHeap → Prop}
    (hk : ∀ h', Next h.length s m DS.length (PS.length + 1) h' → K (.bool true) h') :
    WC B G 15 [.ptr (.own s) 0, .ptr (.own m) 0, .agg [.int .u8 (.ofNat kind), .int .i64 i, bv, .int .i64 n, kv]] h K := by
  refine WC_fun (af := a15) rfl rfl rfl ?_
  rw [args3]
  have sm0 := Same.app h [.cells [.int .u8 (.ofNat kind), .int .i64 i, bv, .int .i64 n, kv]] []
  have A0 := A.keep sm0
  have hx : hcells (h ++ [.cells [.int .u8 (.ofNat kind), .int .i64 i, bv, .int .i64 n, kv]]) h.length = some _ := hc_new
  have hl0 : h.length ≤ (h ++ [AObj.cells [.int .u8 (.ofNat kind), .int .i64 i, bv, .int .i64 n, kv]]).length := by simp
  have e6 : (Int.ofNat 6 == 0) = false := rfl
  have ek : (Int.ofNat kind).tmod (Int.ofNat 6) = .ofNat 1 := by
    show ((kind % 6 : Nat) : Int) = _; rw [hk0]; rfl
  have k0 : (Int.ofNat 1 == Int.ofNat 0) = false := rfl
  have k1 : (Int.ofNat 1 == Int.ofNat 1) = true := rfl
  have k2 : (Int.ofNat 1 == Int.ofNat 2) = false := rfl
  have k3 : (Int.ofNat 1 == Int.ofNat 3) = false := rfl
  have k4 : (Int.ofNat 1 == Int.ofNat 4) = false := rfl
  simp -implicitDefEqProofs only [c15, a15_0b, a15_1b, a15_2b, a15_3b, a15_4b, a15_5b, a15_6b, a15_7b, a15_8b, a15_9b, a15_10b, a15_11b, a15_12b, a15_13b, a15_14b, a15_15b, a15_16b, a15_17b, a15_18b, a15_19b, a15_20b, a15_21b, a15_22b, a15_23b, WS_skip, WS_ops, WS_seq, WS_block, WS_cond, WS_exit, WS_ret, WB_true, WB_false, RS_nil, RS_seq, RS_seqE, RS_seqR, RS_blk, RS_blkE, RS_blkR, WP_nil, WP_cons, WP_guard, WG_true, WG_false, WX_val, WX_enter, KC_nil, getK_some, QC_normal, QC_ret, QL_normal, QL_exit, QL_ret, nbeq, ibeq, iltn, ilen, ite_true, ite_false, EV, ER, fill_nil, fill_cons, fillK_some, fillJ_some, CK, KC_cons, again_nil, again_cons, again_guard, againW_T, againW_F, againR_val, AV.same_refl, wantedA, Opd.ev, evs, Env.get, Env.set, Env.get_set, List.cons.injEq, and_false, false_and, and_self, putE, cond, getAll, getRes, packed, eqOp, isNilV, scalarK, arithOp, unOpA, takeN, List.drop, true_and, and_true, reduceIte, reduceCtorEq, false_implies, forall_const, iLe_eq, iLt_eq, iEq_eq, decide_true, decide_false, Bool.not_true, Bool.not_false, Bool.true_and, Bool.and_true, Bool.false_and, Bool.and_false, beq_self_eq_true, imp_self, Bool.true_eq_false, Bool.false_eq_true, Nat.zero_add, Nat.add_zero, Nat.zero_mul, Nat.mul_one, Nat.one_mul, Nat.sub_zero, beqT, beqF]
  have hxl := hc_lt hx
  have lt := A.lt
  generalize h ++ [AObj.cells [.int .u8 (.ofNat kind), .int .i64 i, bv, .int .i64 n, kv]] = h0 at sm0 A0 hx hl0 hxl
  have e0 := beqI 0
  have e1 := beqI 1
  have e2 := beqI 2
  have e90 := beqI 90
  have hm := A0.M.hm
  have sc : ∀ h, srcCells B h 1 bv = some (ns.length, byteCells ns) := fun h => by rw [srcCells_ok hb h, bc_len]
  have sb : isStrV bv = false := by rcases hb with ⟨rfl, -⟩ | ⟨b, o, c, e, rfl, -⟩ <;> rfl
  have oa := bc_of hsm
  have ag : AV.same bv bv = true := AV.same_refl _
  have dI := down_is (B := B) A0.S
  cases dn with
  | true =>
    simp -implicitDefEqProofs only [c15, a15_0b, a15_1b, a15_2b, a15_3b, a15_4b, a15_5b, a15_6b, a15_7b, a15_8b, a15_9b, a15_10b, a15_11b, a15_12b, a15_13b, a15_14b, a15_15b, a15_16b, a15_17b, a15_18b, a15_19b, a15_20b, a15_21b, a15_22b, a15_23b, WS_skip, WS_ops, WS_seq, WS_block, WS_cond, WS_exit, WS_ret, WB_true, WB_false, RS_nil, RS_seq, RS_seqE, RS_seqR, RS_blk, RS_blkE, RS_blkR, WP_nil, WP_cons, WP_guard, WG_true, WG_false, WX_val, WX_enter, KC_nil, getK_some, QC_normal, QC_ret, QL_normal, QL_exit, QL_ret, nbeq, ibeq, iltn, ilen, ite_true, ite_false, EV, ER, fill_nil, fill_cons, fillK_some, fillJ_some, CK, KC_cons, again_nil, again_cons, again_guard, againW_T, againW_F, againR_val, AV.same_refl, wantedA, Opd.ev, evs, Env.get, Env.set, Env.get_set, List.cons.injEq, and_false, false_and, and_self, putE, cond, getAll, getRes, packed, eqOp, isNilV, scalarK, arithOp, unOpA, takeN, List.drop, true_and, and_true, reduceIte, reduceCtorEq, false_implies, forall_const, iLe_eq, iLt_eq, iEq_eq, decide_true, decide_false, Bool.not_true, Bool.not_false, Bool.true_and, Bool.and_true, Bool.false_and, Bool.and_false, beq_self_eq_true, imp_self, Bool.true_eq_false, Bool.false_eq_true, Nat.zero_add, Nat.add_zero, Nat.zero_mul, Nat.mul_one, Nat.one_mul, Nat.sub_zero, beqT, beqF, ldOwn hx, takeN, e6, ek, k0, k1, k2, k3, k4, e90, sb, sc, oa, write_down A0.S, mwrite_down A0.M, dI, ldOwn hm]
    exact hk _ ⟨_, _, _, _, _, _, _, _, _, A0, rfl, by omega, hl0⟩
  | false =>
    by_cases hi : 0 ≤ i ∧ i < Int.ofNat DS.length
    · obtain ⟨j, hj, rfl⟩ := valid_nat hi
      have hje : j < (encD DS).length := by rw [encD_len]; exact hj
      by_cases hlen : 64 < ns.length
      · simp -implicitDefEqProofs only [c15, a15_0b, a15_1b, a15_2b, a15_3b, a15_4b, a15_5b, a15_6b, a15_7b, a15_8b, a15_9b, a15_10b, a15_11b, a15_12b, a15_13b, a15_14b, a15_15b, a15_16b, a15_17b, a15_18b, a15_19b, a15_20b, a15_21b, a15_22b, a15_23b, WS_skip, WS_ops, WS_seq, WS_block, WS_cond, WS_exit, WS_ret, WB_true, WB_false, RS_nil, RS_seq, RS_seqE, RS_seqR, RS_blk, RS_blkE, RS_blkR, WP_nil, WP_cons, WP_guard, WG_true, WG_false, WX_val, WX_enter, KC_nil, getK_some, QC_normal, QC_ret, QL_normal, QL_exit, QL_ret, nbeq, ibeq, iltn, ilen, ite_true, ite_false, EV, ER, fill_nil, fill_cons, fillK_some, fillJ_some, CK, KC_cons, again_nil, again_cons, again_guard, againW_T, againW_F, againR_val, AV.same_refl, wantedA, Opd.ev, evs, Env.get, Env.set, Env.get_set, List.cons.injEq, and_false, false_and, and_self, putE, cond, getAll, getRes, packed, eqOp, isNilV, scalarK, arithOp, unOpA, takeN, List.drop, true_and, and_true, reduceIte, reduceCtorEq, false_implies, forall_const, iLe_eq, iLt_eq, iEq_eq, decide_true, decide_false, Bool.not_true, Bool.not_false, Bool.true_and, Bool.and_true, Bool.false_and, Bool.and_false, beq_self_eq_true, imp_self, Bool.true_eq_false, Bool.false_eq_true, Nat.zero_add, Nat.add_zero, Nat.zero_mul, Nat.mul_one, Nat.one_mul, Nat.sub_zero, beqT, beqF, ldOwn hx, takeN, e6, ek, k0, k1, k2, k3, k4, e2, sb, sc, oa, write_long A0.S hje hb (by rw [bc_len]; exact hlen), mwrite_long A0.M hj hlen, dI, ldOwn hm]
        exact hk _ ⟨_, _, _, _, _, _, _, _, _, A0, rfl, by omega, hl0⟩
      · have hle : (byteCells ns).length ≤ 64 := by rw [bc_len]; omega
        by_cases hpw : pw = 0
        · subst hpw
          simp -implicitDefEqProofs only [c15, a15_0b, a15_1b, a15_2b, a15_3b, a15_4b, a15_5b, a15_6b, a15_7b, a15_8b, a15_9b, a15_10b, a15_11b, a15_12b, a15_13b, a15_14b, a15_15b, a15_16b, a15_17b, a15_18b, a15_19b, a15_20b, a15_21b, a15_22b, a15_23b, WS_skip, WS_ops, WS_seq, WS_block, WS_cond, WS_exit, WS_ret, WB_true, WB_false, RS_nil, RS_seq, RS_seqE, RS_seqR, RS_blk, RS_blkE, RS_blkR, WP_nil, WP_cons, WP_guard, WG_true, WG_false, WX_val, WX_enter, KC_nil, getK_some, QC_normal, QC_ret, QL_normal, QL_exit, QL_ret, nbeq, ibeq, iltn, ilen, ite_true, ite_false, EV, ER, fill_nil, fill_cons, fillK_some, fillJ_some, CK, KC_cons, again_nil, again_cons, again_guard, againW_T, againW_F, againR_val, AV.same_refl, wantedA, Opd.ev, evs, Env.get, Env.set, Env.get_set, List.cons.injEq, and_false, false_and, and_self, putE, cond, getAll, getRes, packed, eqOp, isNilV, scalarK, arithOp, unOpA, takeN, List.drop, true_and, and_true, reduceIte, reduceCtorEq, false_implies, forall_const, iLe_eq, iLt_eq, iEq_eq, decide_true, decide_false, Bool.not_true, Bool.not_false, Bool.true_and, Bool.and_true, Bool.false_and, Bool.and_false, beq_self_eq_true, imp_self, Bool.true_eq_false, Bool.false_eq_true, Nat.zero_add, Nat.add_zero, Nat.zero_mul, Nat.mul_one, Nat.one_mul, Nat.sub_zero, beqT, beqF, ldOwn hx, takeN, e6, ek, k0, k1, k2, k3, k4, sb, sc, oa]
          refine write_power A0.S hje hb hle fun h1 S1 sm1 hl1 => ?_
          have hx1 := sm1.cells hx (by simp; omega)
          have M1 := A0.M.keep sm1 (by simp; exact ⟨A.a1.1, A.a2.1, fun h => (A.a3 h).1⟩)
          simp -implicitDefEqProofs only [c15, a15_0b, a15_1b, a15_2b, a15_3b, a15_4b, a15_5b, a15_6b, a15_7b, a15_8b, a15_9b, a15_10b, a15_11b, a15_12b, a15_13b, a15_14b, a15_15b, a15_16b, a15_17b, a15_18b, a15_19b, a15_20b, a15_21b, a15_22b, a15_23b, WS_skip, WS_ops, WS_seq, WS_block, WS_cond, WS_exit, WS_ret, WB_true, WB_false, RS_nil, RS_seq, RS_seqE, RS_seqR, RS_blk, RS_blkE, RS_blkR, WP_nil, WP_cons, WP_guard, WG_true, WG_false, WX_val, WX_enter, KC_nil, getK_some, QC_normal, QC_ret, QL_normal, QL_exit, QL_ret, nbeq, ibeq, iltn, ilen, ite_true, ite_false, EV, ER, fill_nil, fill_cons, fillK_some, fillJ_some, CK, KC_cons, again_nil, again_cons, again_guard, againW_T, againW_F, againR_val, AV.same_refl, wantedA, Opd.ev, evs, Env.get, Env.set, Env.get_set, List.cons.injEq, and_false, false_and, and_self, putE, cond, getAll, getRes, packed, eqOp, isNilV, scalarK, arithOp, unOpA, takeN, List.drop, true_and, and_true, reduceIte, reduceCtorEq, false_implies, forall_const, iLe_eq, iLt_eq, iEq_eq, decide_true, decide_false, Bool.not_true, Bool.not_false, Bool.true_and, Bool.and_true, Bool.false_and, Bool.and_false, beq_self_eq_true, imp_self, Bool.true_eq_false, Bool.false_eq_true, Nat.zero_add, Nat.add_zero, Nat.zero_mul, Nat.mul_one, Nat.one_mul, Nat.sub_zero, beqT, beqF, ldOwn hx, takeN, e6, ek, k0, k1, k2, k3, k4, sb, sc, oa, ldOwn hx1]
          refine mwrite_power M1 hj (by omega) fun h2 M2 sm2 hl2 => ?_
          have A2 := A0.mk1 S1 M2 sm2 (by simp) (by omega) (.inl rfl) (.inl rfl) (fun h => .inl ⟨h, rfl⟩) rfl (fun h => .inl ⟨h, rfl⟩) A.sD A.sP A.rng A.pos
          have hm2 := M2.hm
          simp -implicitDefEqProofs only [c15, a15_0b, a15_1b, a15_2b, a15_3b, a15_4b, a15_5b, a15_6b, a15_7b, a15_8b, a15_9b, a15_10b, a15_11b, a15_12b, a15_13b, a15_14b, a15_15b, a15_16b, a15_17b, a15_18b, a15_19b, a15_20b, a15_21b, a15_22b, a15_23b, WS_skip, WS_ops, WS_seq, WS_block, WS_cond, WS_exit, WS_ret, WB_true, WB_false, RS_nil, RS_seq, RS_seqE, RS_seqR, RS_blk, RS_blkE, RS_blkR, WP_nil, WP_cons, WP_guard, WG_true, WG_false, WX_val, WX_enter, KC_nil, getK_some, QC_normal, QC_ret, QL_normal, QL_exit, QL_ret, nbeq, ibeq, iltn, ilen, ite_true, ite_false, EV, ER, fill_nil, fill_cons, fillK_some, fillJ_some, CK, KC_cons, again_nil, again_cons, again_guard, againW_T, againW_F, againR_val, AV.same_refl, wantedA, Opd.ev, evs, Env.get, Env.set, Env.get_set, List.cons.injEq, and_false, false_and, and_self, putE, cond, getAll, getRes, packed, eqOp, isNilV, scalarK, arithOp, unOpA, takeN, List.drop, true_and, and_true, reduceIte, reduceCtorEq, false_implies, forall_const, iLe_eq, iLt_eq, iEq_eq, decide_true, decide_false, Bool.not_true, Bool.not_false, Bool.true_and, Bool.and_true, Bool.false_and, Bool.and_false, beq_self_eq_true, imp_self, Bool.true_eq_false, Bool.false_eq_true, Nat.zero_add, Nat.add_zero, Nat.zero_mul, Nat.mul_one, Nat.one_mul, Nat.sub_zero, beqT, beqF, ldOwn hx, takeN, e6, ek, k0, k1, k2, k3, k4, e90, down_is (B := B) A2.S, ldOwn hm2]
          exact hk _ ⟨_, _, _, _, _, _, _, _, _, A2, rfl, by omega, by omega⟩
        · simp -implicitDefEqProofs only [c15, a15_0b, a15_1b, a15_2b, a15_3b, a15_4b, a15_5b, a15_6b, a15_7b, a15_8b, a15_9b, a15_10b, a15_11b, a15_12b, a15_13b, a15_14b, a15_15b, a15_16b, a15_17b, a15_18b, a15_19b, a15_20b, a15_21b, a15_22b, a15_23b, WS_skip, WS_ops, WS_seq, WS_block, WS_cond, WS_exit, WS_ret, WB_true, WB_false, RS_nil, RS_seq, RS_seqE, RS_seqR, RS_blk, RS_blkE, RS_blkR, WP_nil, WP_cons, WP_guard, WG_true, WG_false, WX_val, WX_enter, KC_nil, getK_some, QC_normal, QC_ret, QL_normal, QL_exit, QL_ret, nbeq, ibeq, iltn, ilen, ite_true, ite_false, EV, ER, fill_nil, fill_cons, fillK_some, fillJ_some, CK, KC_cons, again_nil, again_cons, again_guard, againW_T, againW_F, againR_val, AV.same_refl, wantedA, Opd.ev, evs, Env.get, Env.set, Env.get_set, List.cons.injEq, and_false, false_and, and_self, putE, cond, getAll, getRes, packed, eqOp, isNilV, scalarK, arithOp, unOpA, takeN, List.drop, true_and, and_true, reduceIte, reduceCtorEq, false_implies, forall_const, iLe_eq, iLt_eq, iEq_eq, decide_true, decide_false, Bool.not_true, Bool.not_false, Bool.true_and, Bool.and_true, Bool.false_and, Bool.and_false, beq_self_eq_true, imp_self, Bool.true_eq_false, Bool.false_eq_true, Nat.zero_add, Nat.add_zero, Nat.zero_mul, Nat.mul_one, Nat.one_mul, Nat.sub_zero, beqT, beqF, ldOwn hx, takeN, e6, ek, k0, k1, k2, k3, k4, sb, sc, oa]
          refine write_ok A0.S hje hpw A.rng hb hle (by rw [encP_len]; omega) fun h1 pi1 S1 sm1 hp1 => ?_
          have hx1 := sm1.cells hx (by
            have := A.lt
            rw [pf_enc]
            by_cases hne : PS = []
            · simp [hne]; omega
            · rw [if_neg hne]; have := this.2.2.2.1 hne; simp; omega)
          have M1 := A0.M.keep sm1 (by
            rw [pf_enc]
            by_cases hne : PS = []
            · simp [hne]; exact ⟨⟨A.a1.1, A.a1.2.2.1⟩, A.a2.1, A.a2.2.2.1⟩
            · rw [if_neg hne]; simp; exact ⟨⟨A.a1.1, A.a1.2.2.1, A.a1.2.2.2 hne⟩, ⟨A.a2.1, A.a2.2.2.1, A.a2.2.2.2 hne⟩, fun h => ⟨(A.a3 h).1, (A.a3 h).2.2.1, (A.a3 h).2.2.2⟩⟩)
          simp -implicitDefEqProofs only [c15, a15_0b, a15_1b, a15_2b, a15_3b, a15_4b, a15_5b, a15_6b, a15_7b, a15_8b, a15_9b, a15_10b, a15_11b, a15_12b, a15_13b, a15_14b, a15_15b, a15_16b, a15_17b, a15_18b, a15_19b, a15_20b, a15_21b, a15_22b, a15_23b, WS_skip, WS_ops, WS_seq, WS_block, WS_cond, WS_exit, WS_ret, WB_true, WB_false, RS_nil, RS_seq, RS_seqE, RS_seqR, RS_blk, RS_blkE, RS_blkR, WP_nil, WP_cons, WP_guard, WG_true, WG_false, WX_val, WX_enter, KC_nil, getK_some, QC_normal, QC_ret, QL_normal, QL_exit, QL_ret, nbeq, ibeq, iltn, ilen, ite_true, ite_false, EV, ER, fill_nil, fill_cons, fillK_some, fillJ_some, CK, KC_cons, again_nil, again_cons, again_guard, againW_T, againW_F, againR_val, AV.same_refl, wantedA, Opd.ev, evs, Env.get, Env.set, Env.get_set, List.cons.injEq, and_false, false_and, and_self, putE, cond, getAll, getRes, packed, eqOp, isNilV, scalarK, arithOp, unOpA, takeN, List.drop, true_and, and_true, reduceIte, reduceCtorEq, false_implies, forall_const, iLe_eq, iLt_eq, iEq_eq, decide_true, decide_false, Bool.not_true, Bool.not_false, Bool.true_and, Bool.and_true, Bool.false_and, Bool.and_false, beq_self_eq_true, imp_self, Bool.true_eq_false, Bool.false_eq_true, Nat.zero_add, Nat.add_zero, Nat.zero_mul, Nat.mul_one, Nat.one_mul, Nat.sub_zero, beqT, beqF, ldOwn hx, takeN, e6, ek, k0, k1, k2, k3, k4, sb, sc, oa, ldOwn hx1]
          refine mwrite_ok M1 hj hpw A.rng (by omega) (by omega) fun h2 q2 M2 sm2 hq2 => ?_
          have eS : ShelfAt h1 s di ni pi1 (encD DS) (encD (laidG DS (PS ++ [(j, padN ns)]))) (encP (PS ++ [(j, padN ns)])) (if 0 < pw then pw - 1 else pw) false := by
            have e1 : encP (PS ++ [(j, padN ns)]) = encP PS ++ [(j, pad (byteCells ns))] := by simp [encP, bc_pad]
            have e2 : encD (laidG DS (PS ++ [(j, padN ns)])) = (encD (laidG DS PS)).set j (pad (byteCells ns)) := by rw [laidG_snoc, encD_set, bc_pad]
            rw [e1, e2]; exact S1
          have A2 := A0.mk1 eS M2 sm2 (fun x hx => by
            rw [qf_if] at hx
            by_cases hne : PS = []
            · rw [if_pos hne] at hx; simp at hx; exact .inl hx
            · rw [if_neg hne] at hx; simp at hx; rcases hx with h | h
              · exact .inl h
              · exact .inr (.inr ⟨hne, h⟩)) (sm1.1) (.inl rfl) (.inl rfl) (fun h => .inr hp1) rfl (fun h => .inr hq2) A.sD (fun w hw => by
                rcases List.mem_append.1 hw with h1 | h1
                · exact A.sP w h1
                · simp at h1; subst h1; exact small_pad hsm) (by have := A.rng; split <;> omega) A.pos
          have hm2 := M2.hm
          simp -implicitDefEqProofs only [c15, a15_0b, a15_1b, a15_2b, a15_3b, a15_4b, a15_5b, a15_6b, a15_7b, a15_8b, a15_9b, a15_10b, a15_11b, a15_12b, a15_13b, a15_14b, a15_15b, a15_16b, a15_17b, a15_18b, a15_19b, a15_20b, a15_21b, a15_22b, a15_23b, WS_skip, WS_ops, WS_seq, WS_block, WS_cond, WS_exit, WS_ret, WB_true, WB_false, RS_nil, RS_seq, RS_seqE, RS_seqR, RS_blk, RS_blkE, RS_blkR, WP_nil, WP_cons, WP_guard, WG_true, WG_false, WX_val, WX_enter, KC_nil, getK_some, QC_normal, QC_ret, QL_normal, QL_exit, QL_ret, nbeq, ibeq, iltn, ilen, ite_true, ite_false, EV, ER, fill_nil, fill_cons, fillK_some, fillJ_some, CK, KC_cons, again_nil, again_cons, again_guard, againW_T, againW_F, againR_val, AV.same_refl, wantedA, Opd.ev, evs, Env.get, Env.set, Env.get_set, List.cons.injEq, and_false, false_and, and_self, putE, cond, getAll, getRes, packed, eqOp, isNilV, scalarK, arithOp, unOpA, takeN, List.drop, true_and, and_true, reduceIte, reduceCtorEq, false_implies, forall_const, iLe_eq, iLt_eq, iEq_eq, decide_true, decide_false, Bool.not_true, Bool.not_false, Bool.true_and, Bool.and_true, Bool.false_and, Bool.and_false, beq_self_eq_true, imp_self, Bool.true_eq_false, Bool.false_eq_true, Nat.zero_add, Nat.add_zero, Nat.zero_mul, Nat.mul_one, Nat.one_mul, Nat.sub_zero, beqT, beqF, ldOwn hx, takeN, e6, ek, k0, k1, k2, k3, k4, e0, down_is (B := B) A2.S, ldOwn hm2]
          have := sm1.1
          have := sm2.1
          exact hk _ ⟨_, _, _, _, _, _, _, _, _, A2, rfl, by simp, by omega⟩
    · have hi' : ¬ (0 ≤ i ∧ i < Int.ofNat (encD DS).length) := by rw [encD_len]; exact hi
      simp -implicitDefEqProofs only [c15, a15_0b, a15_1b, a15_2b, a15_3b, a15_4b, a15_5b, a15_6b, a15_7b, a15_8b, a15_9b, a15_10b, a15_11b, a15_12b, a15_13b, a15_14b, a15_15b, a15_16b, a15_17b, a15_18b, a15_19b, a15_20b, a15_21b, a15_22b, a15_23b, WS_skip, WS_ops, WS_seq, WS_block, WS_cond, WS_exit, WS_ret, WB_true, WB_false, RS_nil, RS_seq, RS_seqE, RS_seqR, RS_blk, RS_blkE, RS_blkR, WP_nil, WP_cons, WP_guard, WG_true, WG_false, WX_val, WX_enter, KC_nil, getK_some, QC_normal, QC_ret, QL_normal, QL_exit, QL_ret, nbeq, ibeq, iltn, ilen, ite_true, ite_false, EV, ER, fill_nil, fill_cons, fillK_some, fillJ_some, CK, KC_cons, again_nil, again_cons, again_guard, againW_T, againW_F, againR_val, AV.same_refl, wantedA, Opd.ev, evs, Env.get, Env.set, Env.get_set, List.cons.injEq, and_false, false_and, and_self, putE, cond, getAll, getRes, packed, eqOp, isNilV, scalarK, arithOp, unOpA, takeN, List.drop, true_and, and_true, reduceIte, reduceCtorEq, false_implies, forall_const, iLe_eq, iLt_eq, iEq_eq, decide_true, decide_false, Bool.not_true, Bool.not_false, Bool.true_and, Bool.and_true, Bool.false_and, Bool.and_false, beq_self_eq_true, imp_self, Bool.true_eq_false, Bool.false_eq_true, Nat.zero_add, Nat.add_zero, Nat.zero_mul, Nat.mul_one, Nat.one_mul, Nat.sub_zero, beqT, beqF, ldOwn hx, takeN, e6, ek, k0, k1, k2, k3, k4, e1, sb, sc, oa, write_arg A0.S hi', mwrite_arg A0.M hi, dI, ldOwn hm]
      exact hk _ ⟨_, _, _, _, _, _, _, _, _, A0, rfl, by omega, hl0⟩
end
end Go.Proofs.Ytohjmflbgohkhaa.E
