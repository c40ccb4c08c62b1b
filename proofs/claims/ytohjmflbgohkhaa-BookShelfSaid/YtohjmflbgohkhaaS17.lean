/- The model's Read, Write, Press. -/
import Derived.Test.YtohjmflbgohkhaaS16
namespace Go.Proofs.Ytohjmflbgohkhaa.E
set_option linter.all false
open Go

def laidG {α : Type} (D : List α) (P : List (Nat × α)) : List α := P.foldl (fun D w => D.set w.1 w.2) D
theorem laidG_len {α : Type} (P : List (Nat × α)) : ∀ D : List α, (laidG D P).length = D.length := by
  induction P with
  | nil => intro D; rfl
  | cons w P ih => intro D; show (laidG (D.set w.1 w.2) P).length = _; rw [ih]; simp
theorem laidG_snoc {α : Type} (D : List α) (P : List (Nat × α)) (w) : laidG D (P ++ [w]) = (laidG D P).set w.1 w.2 := by simp [laidG]

/- a list of the run's own that is only appended to -/
def lv (es n q : Nat) : AV := match n with
  | 0 => .nilslice
  | n + 1 => .slice (.own q) 0 (n + 1) (n + 1) (some es)
def deadI (n q : Nat) (h : AHeap) : AHeap := match n with
  | 0 => h
  | _ + 1 => h.set q .dead
theorem append_lv {B : Base} {h : AHeap} {es bytes n q k : Nat} {C new : List AV} {x : AV} (hq : n ≠ 0 → hcells h q = some C) (hC : C.length = n * es) (hx : srcCells B h es x = some (k, new)) (hk : k ≠ 0)
    (hr : (n + k) * bytes ≤ 35184372088832) : appendOp B h es bytes (lv es n q) x = some (lv es (n + k) h.length, deadI n q h ++ [.cells (C ++ new)]) := by
  unfold appendOp
  rw [hx]
  cases n with
  | zero =>
    cases k with
    | zero => exact absurd rfl hk
    | succ k =>
      have h1 : roomy ((k + 1) * bytes) = true := by unfold roomy; exact Nat.ble_eq_true_of_le (by simpa using hr)
      have h2 : C = [] := by simpa using hC
      rw [Nat.zero_add, h2]
      simp only [lv, h1, cond, deadI, List.nil_append]
  | succ n =>
    have hq := hq (by omega)
    have h1 : roomy ((n + 1 + k) * bytes) = true := by unfold roomy; exact Nat.ble_eq_true_of_le hr
    have h2 : Nat.ble (n + 1 + k) (n + 1) = false := by
      cases hb : Nat.ble (n + 1 + k) (n + 1)
      · rfl
      · have := Nat.le_of_ble_eq_true hb; omega
    have h3 : takeN ((n + 1) * es) (C.drop 0) = some C := by rw [List.drop_zero, takeN_some (by omega), ← hC, List.take_length]
    have h4 : (Nat.beq (0 + (n + 1) * es) C.length && Nat.beq es es) = true := by simp [hC]
    have h5 : n + 1 + k = (n + k) + 1 := by omega
    simp only [lv, h2, h1, loadN, hq, h3, h4, deadI]
    rw [h5]

theorem lv_len (es n q : Nat) (h : AHeap) : lenR (lv es n q) h = some (.val (.int .i64 (.ofNat n)) h) := by cases n <;> rfl
theorem lv_idx {es n q j : Nat} (hj : j < n) (h : AHeap) : idxSR es (lv es n q) (.int .i64 (.ofNat j)) h = some (.val (.ptr (.own q) (j * es)) h) := by
  cases n with
  | zero => omega
  | succ n => rw [lv, r_idxS, inRange_ok hj, r_ptr, Nat.zero_add]
theorem pq_lv (PS : List (Nat × List Nat)) (q : Nat) : pq PS q = lv 2 PS.length q := by cases PS <;> rfl
theorem lv_cells (es n q : Nat) : (lv es n q).cellsOk = some [lv es n q] := by cases n <;> rfl

theorem puts_len (PS : List (Nat × List Nat)) : (puts PS).length = PS.length * 2 := by
  unfold puts
  have : AllLen 2 (PS.map fun w => [AV.int .i64 (.ofNat w.1), .str w.2]) := by
    intro l hl
    obtain ⟨w, -, rfl⟩ := List.mem_map.1 hl
    rfl
  rw [flat_len this, List.length_map]
theorem puts_drop {PS : List (Nat × List Nat)} {j : Nat} {w} (hw : PS[j]? = some w) : (puts PS).drop (j * 2) = .int .i64 (.ofNat w.1) :: .str w.2 :: puts (PS.drop (j + 1)) := by
  unfold puts
  have : AllLen 2 (PS.map fun w => [AV.int .i64 (.ofNat w.1), .str w.2]) := by
    intro l hl
    obtain ⟨w, -, rfl⟩ := List.mem_map.1 hl
    rfl
  rw [flat_drop j this, ← List.map_drop]
  obtain ⟨hlt, he⟩ := List.getElem?_eq_some_iff.1 hw
  rw [List.drop_eq_getElem_cons hlt, he]; rfl
theorem puts_one {PS : List (Nat × List Nat)} {j : Nat} {w} (hw : PS[j]? = some w) {h : AHeap} {q : Nat} (hq : hcells h q = some (puts PS)) (B : Base) :
    loadN B h (.own q) (j * 2) 1 = some [.int .i64 (.ofNat w.1)] ∧ loadN B h (.own q) (j * 2 + 1) 1 = some [.str w.2] ∧ loadN B h (.own q) (j * 2) 2 = some [.int .i64 (.ofNat w.1), .str w.2] := by
  refine ⟨?_, ?_, ?_⟩
  · rw [ldOwn hq, puts_drop hw]; rfl
  · rw [ldOwn hq, ← List.drop_drop, puts_drop hw]; rfl
  · rw [ldOwn hq, puts_drop hw]; rfl
theorem strs_one {DS : List (List Nat)} {i : Nat} {s} (hs : DS[i]? = some s) {h : AHeap} {d : Nat} (hd : hcells h d = some (DS.map AV.str)) (B : Base) : loadN B h (.own d) i 1 = some [.str s] := by
  rw [ldOwn hd, ← List.map_drop]
  obtain ⟨hlt, he⟩ := List.getElem?_eq_some_iff.1 hs
  rw [List.drop_eq_getElem_cons hlt, he]; rfl

theorem inc_ok {j : Nat} (h : j < 1000000000000) : awrap .i64 (iAdd (.ofNat j) (.ofNat 1)) = .ofNat (j + 1) := by
  rw [awrap_eq]; exact IntWalk.i64_in _ ⟨by show _ ≤ ((j + 1 : Nat) : Int); omega, by show ((j + 1 : Nat) : Int) ≤ _; omega⟩

section
variable {B : Base} {h : AHeap} {m dd q : Nat} {DS : List (List Nat)} {PS : List (Nat × List Nat)} {pw : Int} {dn : Bool}

theorem mread_down (M : ModAt h m dd q DS PS pw true) {i : Int} : ∀ K : AV → AHeap → Prop, WC B G 24 [.ptr (.own m) 0, .int .i64 i] h K ↔ K (.tuple [.str [], .int .i64 (.ofNat 90)]) h := by
  refine WC_iff fun K hk => WC_fun (af := a24) rfl rfl rfl ?_
  rw [args2]
  have hm := M.hm
  simp -implicitDefEqProofs only [c24, a24_0b, a24_1b, a24_2b, a24_3b, a24_4b, a24_5b, a24_6b, a24_7b, a24_8b, a24_9b, a24_10b, a24_11b, a24_12b, a24_13b, a24_14b, a24_15b, a24_16b, a24_17b, a24_18b, a24_19b, a24_20b, a24_21b, a24_22b, a24_23b, WS_skip, WS_ops, WS_seq, WS_block, WS_cond, WS_exit, WS_ret, WB_true, WB_false, RS_nil, RS_seq, RS_seqE, RS_seqR, RS_blk, RS_blkE, RS_blkR, WP_nil, WP_cons, WP_guard, WG_true, WG_false, WX_val, WX_enter, KC_nil, getK_some, QC_normal, QC_ret, QL_normal, QL_exit, QL_ret, nbeq, ibeq, iltn, ilen, ite_true, ite_false, EV, ER, fill_nil, fill_cons, fillK_some, fillJ_some, CK, KC_cons, again_nil, again_cons, again_guard, againW_T, againW_F, againR_val, AV.same_refl, wantedA, Opd.ev, evs, Env.get, Env.set, Env.get_set, List.cons.injEq, and_false, false_and, and_self, putE, cond, getAll, getRes, packed, eqOp, isNilV, scalarK, arithOp, unOpA, takeN, List.drop, true_and, and_true, reduceIte, reduceCtorEq, false_implies, forall_const, iLe_eq, iLt_eq, iEq_eq, decide_true, decide_false, Bool.not_true, Bool.not_false, Bool.true_and, Bool.and_true, Bool.false_and, Bool.and_false, beq_self_eq_true, imp_self, Bool.true_eq_false, Bool.false_eq_true, Nat.zero_add, Nat.add_zero, Nat.zero_mul, Nat.mul_one, Nat.one_mul, Nat.sub_zero, beqT, beqF, ldOwn hm, takeN]
  exact hk

theorem mread_arg (M : ModAt h m dd q DS PS pw false) {i : Int} (hi : ¬ (0 ≤ i ∧ i < Int.ofNat DS.length)) : ∀ K : AV → AHeap → Prop, WC B G 24 [.ptr (.own m) 0, .int .i64 i] h K ↔ K (.tuple [.str [], .int .i64 (.ofNat 1)]) h := by
  refine WC_iff fun K hk => WC_fun (af := a24) rfl rfl rfl ?_
  rw [args2]
  have hm := M.hm
  by_cases h0 : i < 0
  · have d1 : decide (i < Int.ofNat 0) = true := decide_eq_true h0
    simp -implicitDefEqProofs only [c24, a24_0b, a24_1b, a24_2b, a24_3b, a24_4b, a24_5b, a24_6b, a24_7b, a24_8b, a24_9b, a24_10b, a24_11b, a24_12b, a24_13b, a24_14b, a24_15b, a24_16b, a24_17b, a24_18b, a24_19b, a24_20b, a24_21b, a24_22b, a24_23b, WS_skip, WS_ops, WS_seq, WS_block, WS_cond, WS_exit, WS_ret, WB_true, WB_false, RS_nil, RS_seq, RS_seqE, RS_seqR, RS_blk, RS_blkE, RS_blkR, WP_nil, WP_cons, WP_guard, WG_true, WG_false, WX_val, WX_enter, KC_nil, getK_some, QC_normal, QC_ret, QL_normal, QL_exit, QL_ret, nbeq, ibeq, iltn, ilen, ite_true, ite_false, EV, ER, fill_nil, fill_cons, fillK_some, fillJ_some, CK, KC_cons, again_nil, again_cons, again_guard, againW_T, againW_F, againR_val, AV.same_refl, wantedA, Opd.ev, evs, Env.get, Env.set, Env.get_set, List.cons.injEq, and_false, false_and, and_self, putE, cond, getAll, getRes, packed, eqOp, isNilV, scalarK, arithOp, unOpA, takeN, List.drop, true_and, and_true, reduceIte, reduceCtorEq, false_implies, forall_const, iLe_eq, iLt_eq, iEq_eq, decide_true, decide_false, Bool.not_true, Bool.not_false, Bool.true_and, Bool.and_true, Bool.false_and, Bool.and_false, beq_self_eq_true, imp_self, Bool.true_eq_false, Bool.false_eq_true, Nat.zero_add, Nat.add_zero, Nat.zero_mul, Nat.mul_one, Nat.one_mul, Nat.sub_zero, beqT, beqF, ldOwn hm, takeN, d1]
    exact hk
  · have d1 : decide (i < Int.ofNat 0) = false := decide_eq_false h0
    have d2 : decide (Int.ofNat DS.length ≤ i) = true := decide_eq_true (by omega)
    simp -implicitDefEqProofs only [c24, a24_0b, a24_1b, a24_2b, a24_3b, a24_4b, a24_5b, a24_6b, a24_7b, a24_8b, a24_9b, a24_10b, a24_11b, a24_12b, a24_13b, a24_14b, a24_15b, a24_16b, a24_17b, a24_18b, a24_19b, a24_20b, a24_21b, a24_22b, a24_23b, WS_skip, WS_ops, WS_seq, WS_block, WS_cond, WS_exit, WS_ret, WB_true, WB_false, RS_nil, RS_seq, RS_seqE, RS_seqR, RS_blk, RS_blkE, RS_blkR, WP_nil, WP_cons, WP_guard, WG_true, WG_false, WX_val, WX_enter, KC_nil, getK_some, QC_normal, QC_ret, QL_normal, QL_exit, QL_ret, nbeq, ibeq, iltn, ilen, ite_true, ite_false, EV, ER, fill_nil, fill_cons, fillK_some, fillJ_some, CK, KC_cons, again_nil, again_cons, again_guard, againW_T, againW_F, againR_val, AV.same_refl, wantedA, Opd.ev, evs, Env.get, Env.set, Env.get_set, List.cons.injEq, and_false, false_and, and_self, putE, cond, getAll, getRes, packed, eqOp, isNilV, scalarK, arithOp, unOpA, takeN, List.drop, true_and, and_true, reduceIte, reduceCtorEq, false_implies, forall_const, iLe_eq, iLt_eq, iEq_eq, decide_true, decide_false, Bool.not_true, Bool.not_false, Bool.true_and, Bool.and_true, Bool.false_and, Bool.and_false, beq_self_eq_true, imp_self, Bool.true_eq_false, Bool.false_eq_true, Nat.zero_add, Nat.add_zero, Nat.zero_mul, Nat.mul_one, Nat.one_mul, Nat.sub_zero, beqT, beqF, ldOwn hm, takeN, d1, d2]
    exact hk

set_option maxHeartbeats 1000000 in
theorem mread_ok (M : ModAt h m dd q DS PS pw false) (hP : PS.length < 1000000) {i : Nat} (hi : i < DS.length) {l : List Nat} (hl : (laidG DS PS)[i]? = some l) : ∀ K : AV → AHeap → Prop, WC B G 24 [.ptr (.own m) 0, .int .i64 (.ofNat i)] h K ↔ K (.tuple [.str l, .int .i64 (.ofNat 0)]) h := by
  refine WC_iff fun K hk => WC_fun (af := a24) rfl rfl rfl ?_
  rw [args2]
  have hm := M.hm
  rw [pq_lv] at hm
  have d1 : decide (Int.ofNat i < Int.ofNat 0) = false := decide_eq_false (by simp)
  have d2 : decide (DS.length ≤ i) = false := decide_eq_false (by omega)
  have d3 : decide (i < 0) = false := decide_eq_false (by omega)
  obtain ⟨s0, hs0⟩ : ∃ s0, DS[i]? = some s0 := ⟨_, List.getElem?_eq_getElem hi⟩
  have ir := inRange_ok hi
  simp -implicitDefEqProofs only [c24, a24_0b, a24_1b, a24_2b, a24_3b, a24_4b, a24_5b, a24_6b, a24_7b, a24_8b, a24_9b, a24_10b, a24_11b, a24_12b, a24_13b, a24_14b, a24_15b, a24_16b, a24_17b, a24_18b, a24_19b, a24_20b, a24_21b, a24_22b, a24_23b, WS_skip, WS_ops, WS_seq, WS_block, WS_cond, WS_exit, WS_ret, WB_true, WB_false, RS_nil, RS_seq, RS_seqE, RS_seqR, RS_blk, RS_blkE, RS_blkR, WP_nil, WP_cons, WP_guard, WG_true, WG_false, WX_val, WX_enter, KC_nil, getK_some, QC_normal, QC_ret, QL_normal, QL_exit, QL_ret, nbeq, ibeq, iltn, ilen, ite_true, ite_false, EV, ER, fill_nil, fill_cons, fillK_some, fillJ_some, CK, KC_cons, again_nil, again_cons, again_guard, againW_T, againW_F, againR_val, AV.same_refl, wantedA, Opd.ev, evs, Env.get, Env.set, Env.get_set, List.cons.injEq, and_false, false_and, and_self, putE, cond, getAll, getRes, packed, eqOp, isNilV, scalarK, arithOp, unOpA, takeN, List.drop, true_and, and_true, reduceIte, reduceCtorEq, false_implies, forall_const, iLe_eq, iLt_eq, iEq_eq, decide_true, decide_false, Bool.not_true, Bool.not_false, Bool.true_and, Bool.and_true, Bool.false_and, Bool.and_false, beq_self_eq_true, imp_self, Bool.true_eq_false, Bool.false_eq_true, Nat.zero_add, Nat.add_zero, Nat.zero_mul, Nat.mul_one, Nat.one_mul, Nat.sub_zero, beqT, beqF, ldOwn hm, takeN, d1, d2, d3, ir, strs_one hs0 M.hd B]
  refine WS_loop (k := PS.length) (fun k env h' => ∃ j s, k = PS.length - j ∧ j ≤ PS.length ∧ h' = h ∧ (laidG DS (PS.take j))[i]? = some s ∧ env.get [] = .ptr (.own m) 0 ∧ env.get [true] = .int .i64 (.ofNat i) ∧ env.get [false, false] = .str s ∧ env.get [true, true, true] = .int .i64 (.ofNat j)) ?_ ?_
  · exact ⟨0, s0, by simp [Env.get, hs0, laidG]⟩
  · rintro k env h' ⟨j, s, rfl, hj, rfl, hs, e0, e1, e6, e7⟩
    by_cases hlt : j < PS.length
    · have d4 : decide (j < PS.length) = true := decide_eq_true hlt
      obtain ⟨w, hw⟩ : ∃ w, PS[j]? = some w := ⟨_, List.getElem?_eq_getElem hlt⟩
      have hq := (M.hp (by rintro rfl; simp at hlt)).1
      obtain ⟨p1, p2, p3⟩ := puts_one hw hq B
      have hts : PS.take (j + 1) = PS.take j ++ [w] := by rw [List.take_succ, hw]; rfl
      have ea := inc_ok (j := j) (by omega)
      have li := lv_idx (es := 2) (q := q) hlt h'
      by_cases hwi : w.1 = i
      · have d5 : decide (w.1 = i) = true := decide_eq_true hwi
        simp -implicitDefEqProofs only [c24, a24_0b, a24_1b, a24_2b, a24_3b, a24_4b, a24_5b, a24_6b, a24_7b, a24_8b, a24_9b, a24_10b, a24_11b, a24_12b, a24_13b, a24_14b, a24_15b, a24_16b, a24_17b, a24_18b, a24_19b, a24_20b, a24_21b, a24_22b, a24_23b, WS_skip, WS_ops, WS_seq, WS_block, WS_cond, WS_exit, WS_ret, WB_true, WB_false, RS_nil, RS_seq, RS_seqE, RS_seqR, RS_blk, RS_blkE, RS_blkR, WP_nil, WP_cons, WP_guard, WG_true, WG_false, WX_val, WX_enter, KC_nil, getK_some, QC_normal, QC_ret, QL_normal, QL_exit, QL_ret, nbeq, ibeq, iltn, ilen, ite_true, ite_false, EV, ER, fill_nil, fill_cons, fillK_some, fillJ_some, CK, KC_cons, again_nil, again_cons, again_guard, againW_T, againW_F, againR_val, AV.same_refl, wantedA, Opd.ev, evs, Env.get, Env.set, Env.get_set, List.cons.injEq, and_false, false_and, and_self, putE, cond, getAll, getRes, packed, eqOp, isNilV, scalarK, arithOp, unOpA, takeN, List.drop, true_and, and_true, reduceIte, reduceCtorEq, false_implies, forall_const, iLe_eq, iLt_eq, iEq_eq, decide_true, decide_false, Bool.not_true, Bool.not_false, Bool.true_and, Bool.and_true, Bool.false_and, Bool.and_false, beq_self_eq_true, imp_self, Bool.true_eq_false, Bool.false_eq_true, Nat.zero_add, Nat.add_zero, Nat.zero_mul, Nat.mul_one, Nat.one_mul, Nat.sub_zero, beqT, beqF, e0, e1, e6, e7, ldOwn hm, takeN, lv_len, d4, li, p1, p2, d5, ea, QL_normal]
        refine ⟨PS.length - (j + 1), by omega, j + 1, w.2, rfl, by omega, ?_, by simp [Env.get_set, e0, e1]⟩
        rw [hts, laidG_snoc, hwi, List.getElem?_set_self (by rw [laidG_len]; exact hi)]
      · have d5 : decide (w.1 = i) = false := decide_eq_false hwi
        simp -implicitDefEqProofs only [c24, a24_0b, a24_1b, a24_2b, a24_3b, a24_4b, a24_5b, a24_6b, a24_7b, a24_8b, a24_9b, a24_10b, a24_11b, a24_12b, a24_13b, a24_14b, a24_15b, a24_16b, a24_17b, a24_18b, a24_19b, a24_20b, a24_21b, a24_22b, a24_23b, WS_skip, WS_ops, WS_seq, WS_block, WS_cond, WS_exit, WS_ret, WB_true, WB_false, RS_nil, RS_seq, RS_seqE, RS_seqR, RS_blk, RS_blkE, RS_blkR, WP_nil, WP_cons, WP_guard, WG_true, WG_false, WX_val, WX_enter, KC_nil, getK_some, QC_normal, QC_ret, QL_normal, QL_exit, QL_ret, nbeq, ibeq, iltn, ilen, ite_true, ite_false, EV, ER, fill_nil, fill_cons, fillK_some, fillJ_some, CK, KC_cons, again_nil, again_cons, again_guard, againW_T, againW_F, againR_val, AV.same_refl, wantedA, Opd.ev, evs, Env.get, Env.set, Env.get_set, List.cons.injEq, and_false, false_and, and_self, putE, cond, getAll, getRes, packed, eqOp, isNilV, scalarK, arithOp, unOpA, takeN, List.drop, true_and, and_true, reduceIte, reduceCtorEq, false_implies, forall_const, iLe_eq, iLt_eq, iEq_eq, decide_true, decide_false, Bool.not_true, Bool.not_false, Bool.true_and, Bool.and_true, Bool.false_and, Bool.and_false, beq_self_eq_true, imp_self, Bool.true_eq_false, Bool.false_eq_true, Nat.zero_add, Nat.add_zero, Nat.zero_mul, Nat.mul_one, Nat.one_mul, Nat.sub_zero, beqT, beqF, e0, e1, e6, e7, ldOwn hm, takeN, lv_len, d4, li, p1, p2, d5, ea, QL_normal]
        refine ⟨PS.length - (j + 1), by omega, j + 1, s, rfl, by omega, ?_, by simp [Env.get_set, e0, e1, e6]⟩
        rw [hts, laidG_snoc, List.getElem?_set_ne hwi]; exact hs
    · have d4 : decide (j < PS.length) = false := decide_eq_false hlt
      have hj' : j = PS.length := by omega
      subst hj'
      rw [List.take_length, hl] at hs
      cases hs
      simp -implicitDefEqProofs only [c24, a24_0b, a24_1b, a24_2b, a24_3b, a24_4b, a24_5b, a24_6b, a24_7b, a24_8b, a24_9b, a24_10b, a24_11b, a24_12b, a24_13b, a24_14b, a24_15b, a24_16b, a24_17b, a24_18b, a24_19b, a24_20b, a24_21b, a24_22b, a24_23b, WS_skip, WS_ops, WS_seq, WS_block, WS_cond, WS_exit, WS_ret, WB_true, WB_false, RS_nil, RS_seq, RS_seqE, RS_seqR, RS_blk, RS_blkE, RS_blkR, WP_nil, WP_cons, WP_guard, WG_true, WG_false, WX_val, WX_enter, KC_nil, getK_some, QC_normal, QC_ret, QL_normal, QL_exit, QL_ret, nbeq, ibeq, iltn, ilen, ite_true, ite_false, EV, ER, fill_nil, fill_cons, fillK_some, fillJ_some, CK, KC_cons, again_nil, again_cons, again_guard, againW_T, againW_F, againR_val, AV.same_refl, wantedA, Opd.ev, evs, Env.get, Env.set, Env.get_set, List.cons.injEq, and_false, false_and, and_self, putE, cond, getAll, getRes, packed, eqOp, isNilV, scalarK, arithOp, unOpA, takeN, List.drop, true_and, and_true, reduceIte, reduceCtorEq, false_implies, forall_const, iLe_eq, iLt_eq, iEq_eq, decide_true, decide_false, Bool.not_true, Bool.not_false, Bool.true_and, Bool.and_true, Bool.false_and, Bool.and_false, beq_self_eq_true, imp_self, Bool.true_eq_false, Bool.false_eq_true, Nat.zero_add, Nat.add_zero, Nat.zero_mul, Nat.mul_one, Nat.one_mul, Nat.sub_zero, beqT, beqF, e0, e6, e7, ldOwn hm, takeN, lv_len, d4, QL_exit]
      exact hk

theorem mwrite_down (M : ModAt h m dd q DS PS pw true) {i : Int} {v : AV} : ∀ K : AV → AHeap → Prop, WC B G 25 [.ptr (.own m) 0, .int .i64 i, v] h K ↔ K (.int .i64 (.ofNat 90)) h := by
  refine WC_iff fun K hk => WC_fun (af := a25) rfl rfl rfl ?_
  rw [args3]
  have hm := M.hm
  simp -implicitDefEqProofs only [c25, a25_0b, a25_1b, a25_2b, a25_3b, a25_4b, a25_5b, a25_6b, a25_7b, a25_8b, a25_9b, a25_10b, a25_11b, a25_12b, a25_13b, a25_14b, a25_15b, a25_16b, a25_17b, a25_18b, WS_skip, WS_ops, WS_seq, WS_block, WS_cond, WS_exit, WS_ret, WB_true, WB_false, RS_nil, RS_seq, RS_seqE, RS_seqR, RS_blk, RS_blkE, RS_blkR, WP_nil, WP_cons, WP_guard, WG_true, WG_false, WX_val, WX_enter, KC_nil, getK_some, QC_normal, QC_ret, QL_normal, QL_exit, QL_ret, nbeq, ibeq, iltn, ilen, ite_true, ite_false, EV, ER, fill_nil, fill_cons, fillK_some, fillJ_some, CK, KC_cons, again_nil, again_cons, again_guard, againW_T, againW_F, againR_val, AV.same_refl, wantedA, Opd.ev, evs, Env.get, Env.set, Env.get_set, List.cons.injEq, and_false, false_and, and_self, putE, cond, getAll, getRes, packed, eqOp, isNilV, scalarK, arithOp, unOpA, takeN, List.drop, true_and, and_true, reduceIte, reduceCtorEq, false_implies, forall_const, iLe_eq, iLt_eq, iEq_eq, decide_true, decide_false, Bool.not_true, Bool.not_false, Bool.true_and, Bool.and_true, Bool.false_and, Bool.and_false, beq_self_eq_true, imp_self, Bool.true_eq_false, Bool.false_eq_true, Nat.zero_add, Nat.add_zero, Nat.zero_mul, Nat.mul_one, Nat.one_mul, Nat.sub_zero, beqT, beqF, ldOwn hm, takeN]
  exact hk

theorem mwrite_arg (M : ModAt h m dd q DS PS pw false) {i : Int} {v : AV} (hi : ¬ (0 ≤ i ∧ i < Int.ofNat DS.length)) : ∀ K : AV → AHeap → Prop, WC B G 25 [.ptr (.own m) 0, .int .i64 i, v] h K ↔ K (.int .i64 (.ofNat 1)) h := by
  refine WC_iff fun K hk => WC_fun (af := a25) rfl rfl rfl ?_
  rw [args3]
  have hm := M.hm
  by_cases h0 : i < 0
  · have d1 : decide (i < Int.ofNat 0) = true := decide_eq_true h0
    simp -implicitDefEqProofs only [c25, a25_0b, a25_1b, a25_2b, a25_3b, a25_4b, a25_5b, a25_6b, a25_7b, a25_8b, a25_9b, a25_10b, a25_11b, a25_12b, a25_13b, a25_14b, a25_15b, a25_16b, a25_17b, a25_18b, WS_skip, WS_ops, WS_seq, WS_block, WS_cond, WS_exit, WS_ret, WB_true, WB_false, RS_nil, RS_seq, RS_seqE, RS_seqR, RS_blk, RS_blkE, RS_blkR, WP_nil, WP_cons, WP_guard, WG_true, WG_false, WX_val, WX_enter, KC_nil, getK_some, QC_normal, QC_ret, QL_normal, QL_exit, QL_ret, nbeq, ibeq, iltn, ilen, ite_true, ite_false, EV, ER, fill_nil, fill_cons, fillK_some, fillJ_some, CK, KC_cons, again_nil, again_cons, again_guard, againW_T, againW_F, againR_val, AV.same_refl, wantedA, Opd.ev, evs, Env.get, Env.set, Env.get_set, List.cons.injEq, and_false, false_and, and_self, putE, cond, getAll, getRes, packed, eqOp, isNilV, scalarK, arithOp, unOpA, takeN, List.drop, true_and, and_true, reduceIte, reduceCtorEq, false_implies, forall_const, iLe_eq, iLt_eq, iEq_eq, decide_true, decide_false, Bool.not_true, Bool.not_false, Bool.true_and, Bool.and_true, Bool.false_and, Bool.and_false, beq_self_eq_true, imp_self, Bool.true_eq_false, Bool.false_eq_true, Nat.zero_add, Nat.add_zero, Nat.zero_mul, Nat.mul_one, Nat.one_mul, Nat.sub_zero, beqT, beqF, ldOwn hm, takeN, d1]
    exact hk
  · have d1 : decide (i < Int.ofNat 0) = false := decide_eq_false h0
    have d2 : decide (Int.ofNat DS.length ≤ i) = true := decide_eq_true (by omega)
    simp -implicitDefEqProofs only [c25, a25_0b, a25_1b, a25_2b, a25_3b, a25_4b, a25_5b, a25_6b, a25_7b, a25_8b, a25_9b, a25_10b, a25_11b, a25_12b, a25_13b, a25_14b, a25_15b, a25_16b, a25_17b, a25_18b, WS_skip, WS_ops, WS_seq, WS_block, WS_cond, WS_exit, WS_ret, WB_true, WB_false, RS_nil, RS_seq, RS_seqE, RS_seqR, RS_blk, RS_blkE, RS_blkR, WP_nil, WP_cons, WP_guard, WG_true, WG_false, WX_val, WX_enter, KC_nil, getK_some, QC_normal, QC_ret, QL_normal, QL_exit, QL_ret, nbeq, ibeq, iltn, ilen, ite_true, ite_false, EV, ER, fill_nil, fill_cons, fillK_some, fillJ_some, CK, KC_cons, again_nil, again_cons, again_guard, againW_T, againW_F, againR_val, AV.same_refl, wantedA, Opd.ev, evs, Env.get, Env.set, Env.get_set, List.cons.injEq, and_false, false_and, and_self, putE, cond, getAll, getRes, packed, eqOp, isNilV, scalarK, arithOp, unOpA, takeN, List.drop, true_and, and_true, reduceIte, reduceCtorEq, false_implies, forall_const, iLe_eq, iLt_eq, iEq_eq, decide_true, decide_false, Bool.not_true, Bool.not_false, Bool.true_and, Bool.and_true, Bool.false_and, Bool.and_false, beq_self_eq_true, imp_self, Bool.true_eq_false, Bool.false_eq_true, Nat.zero_add, Nat.add_zero, Nat.zero_mul, Nat.mul_one, Nat.one_mul, Nat.sub_zero, beqT, beqF, ldOwn hm, takeN, d1, d2]
    exact hk

theorem mwrite_long (M : ModAt h m dd q DS PS pw false) {i : Nat} {s : List Nat} (hi : i < DS.length) (hs : 64 < s.length) : ∀ K : AV → AHeap → Prop, WC B G 25 [.ptr (.own m) 0, .int .i64 (.ofNat i), .str s] h K ↔ K (.int .i64 (.ofNat 2)) h := by
  refine WC_iff fun K hk => WC_fun (af := a25) rfl rfl rfl ?_
  rw [args3]
  have hm := M.hm
  have d1 : decide (i < 0) = false := decide_eq_false (by omega)
  have d2 : decide (DS.length ≤ i) = false := decide_eq_false (by omega)
  have d3 : decide (64 < s.length) = true := decide_eq_true hs
  simp -implicitDefEqProofs only [c25, a25_0b, a25_1b, a25_2b, a25_3b, a25_4b, a25_5b, a25_6b, a25_7b, a25_8b, a25_9b, a25_10b, a25_11b, a25_12b, a25_13b, a25_14b, a25_15b, a25_16b, a25_17b, a25_18b, WS_skip, WS_ops, WS_seq, WS_block, WS_cond, WS_exit, WS_ret, WB_true, WB_false, RS_nil, RS_seq, RS_seqE, RS_seqR, RS_blk, RS_blkE, RS_blkR, WP_nil, WP_cons, WP_guard, WG_true, WG_false, WX_val, WX_enter, KC_nil, getK_some, QC_normal, QC_ret, QL_normal, QL_exit, QL_ret, nbeq, ibeq, iltn, ilen, ite_true, ite_false, EV, ER, fill_nil, fill_cons, fillK_some, fillJ_some, CK, KC_cons, again_nil, again_cons, again_guard, againW_T, againW_F, againR_val, AV.same_refl, wantedA, Opd.ev, evs, Env.get, Env.set, Env.get_set, List.cons.injEq, and_false, false_and, and_self, putE, cond, getAll, getRes, packed, eqOp, isNilV, scalarK, arithOp, unOpA, takeN, List.drop, true_and, and_true, reduceIte, reduceCtorEq, false_implies, forall_const, iLe_eq, iLt_eq, iEq_eq, decide_true, decide_false, Bool.not_true, Bool.not_false, Bool.true_and, Bool.and_true, Bool.false_and, Bool.and_false, beq_self_eq_true, imp_self, Bool.true_eq_false, Bool.false_eq_true, Nat.zero_add, Nat.add_zero, Nat.zero_mul, Nat.mul_one, Nat.one_mul, Nat.sub_zero, beqT, beqF, ldOwn hm, takeN, d1, d2, d3]
  exact hk

theorem mwrite_power (M : ModAt h m dd q DS PS 0 false) {i : Nat} {s : List Nat} (hi : i < DS.length) (hs : s.length ≤ 64) {K : AV → AHeap → Prop}
    (hk : ∀ h', ModAt h' m dd q DS PS 0 true → Same h h' [m] → h'.length = h.length → K (.int .i64 (.ofNat 90)) h') : WC B G 25 [.ptr (.own m) 0, .int .i64 (.ofNat i), .str s] h K := by
  refine WC_fun (af := a25) rfl rfl rfl ?_
  rw [args3]
  have hm := M.hm
  have d1 : decide (i < 0) = false := decide_eq_false (by omega)
  have d2 : decide (DS.length ≤ i) = false := decide_eq_false (by omega)
  have d3 : decide (64 < s.length) = false := decide_eq_false (by omega)
  simp -implicitDefEqProofs only [c25, a25_0b, a25_1b, a25_2b, a25_3b, a25_4b, a25_5b, a25_6b, a25_7b, a25_8b, a25_9b, a25_10b, a25_11b, a25_12b, a25_13b, a25_14b, a25_15b, a25_16b, a25_17b, a25_18b, WS_skip, WS_ops, WS_seq, WS_block, WS_cond, WS_exit, WS_ret, WB_true, WB_false, RS_nil, RS_seq, RS_seqE, RS_seqR, RS_blk, RS_blkE, RS_blkR, WP_nil, WP_cons, WP_guard, WG_true, WG_false, WX_val, WX_enter, KC_nil, getK_some, QC_normal, QC_ret, QL_normal, QL_exit, QL_ret, nbeq, ibeq, iltn, ilen, ite_true, ite_false, EV, ER, fill_nil, fill_cons, fillK_some, fillJ_some, CK, KC_cons, again_nil, again_cons, again_guard, againW_T, againW_F, againR_val, AV.same_refl, wantedA, Opd.ev, evs, Env.get, Env.set, Env.get_set, List.cons.injEq, and_false, false_and, and_self, putE, cond, getAll, getRes, packed, eqOp, isNilV, scalarK, arithOp, unOpA, takeN, List.drop, true_and, and_true, reduceIte, reduceCtorEq, false_implies, forall_const, iLe_eq, iLt_eq, iEq_eq, decide_true, decide_false, Bool.not_true, Bool.not_false, Bool.true_and, Bool.and_true, Bool.false_and, Bool.and_false, beq_self_eq_true, imp_self, Bool.true_eq_false, Bool.false_eq_true, Nat.zero_add, Nat.add_zero, Nat.zero_mul, Nat.mul_one, Nat.one_mul, Nat.sub_zero, beqT, beqF, ldOwn hm, takeN, d1, d2, d3]
  refine mcall_no M fun h' M' sm hl => ?_
  simp -implicitDefEqProofs only [c25, a25_0b, a25_1b, a25_2b, a25_3b, a25_4b, a25_5b, a25_6b, a25_7b, a25_8b, a25_9b, a25_10b, a25_11b, a25_12b, a25_13b, a25_14b, a25_15b, a25_16b, a25_17b, a25_18b, WS_skip, WS_ops, WS_seq, WS_block, WS_cond, WS_exit, WS_ret, WB_true, WB_false, RS_nil, RS_seq, RS_seqE, RS_seqR, RS_blk, RS_blkE, RS_blkR, WP_nil, WP_cons, WP_guard, WG_true, WG_false, WX_val, WX_enter, KC_nil, getK_some, QC_normal, QC_ret, QL_normal, QL_exit, QL_ret, nbeq, ibeq, iltn, ilen, ite_true, ite_false, EV, ER, fill_nil, fill_cons, fillK_some, fillJ_some, CK, KC_cons, again_nil, again_cons, again_guard, againW_T, againW_F, againR_val, AV.same_refl, wantedA, Opd.ev, evs, Env.get, Env.set, Env.get_set, List.cons.injEq, and_false, false_and, and_self, putE, cond, getAll, getRes, packed, eqOp, isNilV, scalarK, arithOp, unOpA, takeN, List.drop, true_and, and_true, reduceIte, reduceCtorEq, false_implies, forall_const, iLe_eq, iLt_eq, iEq_eq, decide_true, decide_false, Bool.not_true, Bool.not_false, Bool.true_and, Bool.and_true, Bool.false_and, Bool.and_false, beq_self_eq_true, imp_self, Bool.true_eq_false, Bool.false_eq_true, Nat.zero_add, Nat.add_zero, Nat.zero_mul, Nat.mul_one, Nat.one_mul, Nat.sub_zero, beqT, beqF]
  exact hk h' M' sm hl

theorem src_one {B : Base} {h : AHeap} {x es : Nat} {c : List AV} (hx : hcells h x = some c) (hc : c.length = es) : srcCells B h es (.slice (.own x) 0 1 1 none) = some (1, c) := by
  have : loadN B h (.own x) 0 (1 * es) = some c := by
    rw [ldOwn hx, List.drop_zero, Nat.one_mul, takeN_some (by omega), ← hc, List.take_length]
  simp only [srcCells, this]

theorem deadI_hc {n q : Nat} {h : AHeap} {j : Nat} (hj : n ≠ 0 → j ≠ q) : hcells (deadI n q h) j = hcells h j := by
  cases n with
  | zero => rfl
  | succ n => exact hc_set_ne (hj (by omega)).symm
theorem deadI_len (n q : Nat) (h : AHeap) : (deadI n q h).length = h.length := by cases n <;> simp [deadI]
theorem deadI_same (n q : Nat) (h : AHeap) {F : List Nat} (hF : n ≠ 0 → q ∈ F) : Same h (deadI n q h) F := by
  cases n with
  | zero => exact .refl _ _
  | succ n => exact .set (hF (by omega))

set_option maxHeartbeats 1000000 in
theorem mwrite_ok (M : ModAt h m dd q DS PS pw false) {i : Nat} {s : List Nat} (hi : i < DS.length) (hpw : pw ≠ 0) (hr : -1 ≤ pw ∧ pw < 2 ^ 63) (hs : s.length ≤ 64) (hP : PS.length < 1000000) {K : AV → AHeap → Prop}
    (hk : ∀ h' q', ModAt h' m dd q' DS (PS ++ [(i, padN s)]) (if 0 < pw then pw - 1 else pw) false → Same h h' (m :: qf PS q) → h.length ≤ q' → K (.int .i64 (.ofNat 0)) h') :
    WC B G 25 [.ptr (.own m) 0, .int .i64 (.ofNat i), .str s] h K := by
  refine WC_fun (af := a25) rfl rfl rfl ?_
  rw [args3]
  have hm := M.hm
  have d1 : decide (i < 0) = false := decide_eq_false (by omega)
  have d2 : decide (DS.length ≤ i) = false := decide_eq_false (by omega)
  have d3 : decide (64 < s.length) = false := decide_eq_false (by omega)
  simp -implicitDefEqProofs only [c25, a25_0b, a25_1b, a25_2b, a25_3b, a25_4b, a25_5b, a25_6b, a25_7b, a25_8b, a25_9b, a25_10b, a25_11b, a25_12b, a25_13b, a25_14b, a25_15b, a25_16b, a25_17b, a25_18b, WS_skip, WS_ops, WS_seq, WS_block, WS_cond, WS_exit, WS_ret, WB_true, WB_false, RS_nil, RS_seq, RS_seqE, RS_seqR, RS_blk, RS_blkE, RS_blkR, WP_nil, WP_cons, WP_guard, WG_true, WG_false, WX_val, WX_enter, KC_nil, getK_some, QC_normal, QC_ret, QL_normal, QL_exit, QL_ret, nbeq, ibeq, iltn, ilen, ite_true, ite_false, EV, ER, fill_nil, fill_cons, fillK_some, fillJ_some, CK, KC_cons, again_nil, again_cons, again_guard, againW_T, againW_F, againR_val, AV.same_refl, wantedA, Opd.ev, evs, Env.get, Env.set, Env.get_set, List.cons.injEq, and_false, false_and, and_self, putE, cond, getAll, getRes, packed, eqOp, isNilV, scalarK, arithOp, unOpA, takeN, List.drop, true_and, and_true, reduceIte, reduceCtorEq, false_implies, forall_const, iLe_eq, iLt_eq, iEq_eq, decide_true, decide_false, Bool.not_true, Bool.not_false, Bool.true_and, Bool.and_true, Bool.false_and, Bool.and_false, beq_self_eq_true, imp_self, Bool.true_eq_false, Bool.false_eq_true, Nat.zero_add, Nat.add_zero, Nat.zero_mul, Nat.mul_one, Nat.one_mul, Nat.sub_zero, beqT, beqF, ldOwn hm, takeN, d1, d2, d3]
  refine mcall_ok M hpw hr fun h1 M1 sm1 hl1 => ?_
  have hm1 := M1.hm
  rw [pq_lv] at hm1
  simp -implicitDefEqProofs only [c25, a25_0b, a25_1b, a25_2b, a25_3b, a25_4b, a25_5b, a25_6b, a25_7b, a25_8b, a25_9b, a25_10b, a25_11b, a25_12b, a25_13b, a25_14b, a25_15b, a25_16b, a25_17b, a25_18b, WS_skip, WS_ops, WS_seq, WS_block, WS_cond, WS_exit, WS_ret, WB_true, WB_false, RS_nil, RS_seq, RS_seqE, RS_seqR, RS_blk, RS_blkE, RS_blkR, WP_nil, WP_cons, WP_guard, WG_true, WG_false, WX_val, WX_enter, KC_nil, getK_some, QC_normal, QC_ret, QL_normal, QL_exit, QL_ret, nbeq, ibeq, iltn, ilen, ite_true, ite_false, EV, ER, fill_nil, fill_cons, fillK_some, fillJ_some, CK, KC_cons, again_nil, again_cons, again_guard, againW_T, againW_F, againR_val, AV.same_refl, wantedA, Opd.ev, evs, Env.get, Env.set, Env.get_set, List.cons.injEq, and_false, false_and, and_self, putE, cond, getAll, getRes, packed, eqOp, isNilV, scalarK, arithOp, unOpA, takeN, List.drop, true_and, and_true, reduceIte, reduceCtorEq, false_implies, forall_const, iLe_eq, iLt_eq, iEq_eq, decide_true, decide_false, Bool.not_true, Bool.not_false, Bool.true_and, Bool.and_true, Bool.false_and, Bool.and_false, beq_self_eq_true, imp_self, Bool.true_eq_false, Bool.false_eq_true, Nat.zero_add, Nat.add_zero, Nat.zero_mul, Nat.mul_one, Nat.one_mul, Nat.sub_zero, beqT, beqF, ldOwn hm1, takeN, padded_is hs]
  have o1 : RL.out [(1, .int .i64 (.ofNat 0)), (1, .str [])] = [.int .i64 (.ofNat 0), .str []] := rfl
  have o2 : timesL 1 [.int .i64 (.ofNat 0), .str []] = [.int .i64 (.ofNat 0), .str []] := rfl
  simp -implicitDefEqProofs only [c25, a25_0b, a25_1b, a25_2b, a25_3b, a25_4b, a25_5b, a25_6b, a25_7b, a25_8b, a25_9b, a25_10b, a25_11b, a25_12b, a25_13b, a25_14b, a25_15b, a25_16b, a25_17b, a25_18b, WS_skip, WS_ops, WS_seq, WS_block, WS_cond, WS_exit, WS_ret, WB_true, WB_false, RS_nil, RS_seq, RS_seqE, RS_seqR, RS_blk, RS_blkE, RS_blkR, WP_nil, WP_cons, WP_guard, WG_true, WG_false, WX_val, WX_enter, KC_nil, getK_some, QC_normal, QC_ret, QL_normal, QL_exit, QL_ret, nbeq, ibeq, iltn, ilen, ite_true, ite_false, EV, ER, fill_nil, fill_cons, fillK_some, fillJ_some, CK, KC_cons, again_nil, again_cons, again_guard, againW_T, againW_F, againR_val, AV.same_refl, wantedA, Opd.ev, evs, Env.get, Env.set, Env.get_set, List.cons.injEq, and_false, false_and, and_self, putE, cond, getAll, getRes, packed, eqOp, isNilV, scalarK, arithOp, unOpA, takeN, List.drop, true_and, and_true, reduceIte, reduceCtorEq, false_implies, forall_const, iLe_eq, iLt_eq, iEq_eq, decide_true, decide_false, Bool.not_true, Bool.not_false, Bool.true_and, Bool.and_true, Bool.false_and, Bool.and_false, beq_self_eq_true, imp_self, Bool.true_eq_false, Bool.false_eq_true, Nat.zero_add, Nat.add_zero, Nat.zero_mul, Nat.mul_one, Nat.one_mul, Nat.sub_zero, beqT, beqF, o1, o2, splice, List.length_cons, List.length_nil, Nat.reduceAdd]
  have hne : PS ++ [(i, padN s)] ≠ [] := by simp
  have hmd := M1.ne
  have hlm := hc_lt hm1
  have hld := hc_lt M1.hd
  generalize hh2 : h1 ++ [AObj.cells [.int .i64 (.ofNat i), .str (padN s)]] = h2
  have hl2 : h2.length = h1.length + 1 := by rw [← hh2]; simp
  have hx2 : hcells h2 h1.length = some [.int .i64 (.ofNat i), .str (padN s)] := by rw [← hh2]; exact hc_new
  have hm2 := hh2 ▸ hc_app (l := [AObj.cells [.int .i64 (.ofNat i), .str (padN s)]]) hm1
  have hd2 := hh2 ▸ hc_app (l := [AObj.cells [.int .i64 (.ofNat i), .str (padN s)]]) M1.hd
  have hq2 : PS.length ≠ 0 → hcells h2 q = some (puts PS) := fun hne => by
    rw [← hh2]; exact hc_app (M1.hp (by rintro rfl; exact hne rfl)).1
  have hqm : PS.length ≠ 0 → m ≠ q := fun hne => (M1.hp (by rintro rfl; exact hne rfl)).2.1
  have hqd : PS.length ≠ 0 → dd ≠ q := fun hne => (M1.hp (by rintro rfl; exact hne rfl)).2.2
  have sm2 : Same h1 h2 [] := by rw [← hh2]; exact .app _ _ _
  have ap := append_lv (B := B) (bytes := 24) hq2 (puts_len PS) (src_one hx2 (es := 2) rfl) (by omega) (by omega)
  rw [ap]
  have hpq : puts (PS ++ [(i, padN s)]) = puts PS ++ [.int .i64 (.ofNat i), .str (padN s)] := by simp [puts]
  rw [← hpq]
  generalize hh3 : deadI PS.length q h2 ++ [AObj.cells (puts (PS ++ [(i, padN s)]))] = h3
  have hm3 : hcells h3 m = _ := hh3 ▸ hc_app ((deadI_hc hqm).trans hm2)
  have hd3 : hcells h3 dd = _ := hh3 ▸ hc_app ((deadI_hc hqd).trans hd2)
  have hx3 : hcells h3 h2.length = some (puts (PS ++ [(i, padN s)])) := by rw [← hh3, ← deadI_len PS.length q h2]; exact hc_new
  have sm3 : Same h2 h3 (qf PS q) := by
    rw [← hh3]
    refine (deadI_same _ _ _ fun hne => ?_).trans (.app _ _ []) (by simp)
    cases PS with
    | nil => exact absurd rfl hne
    | cons => simp [qf]
  simp -implicitDefEqProofs only [c25, a25_0b, a25_1b, a25_2b, a25_3b, a25_4b, a25_5b, a25_6b, a25_7b, a25_8b, a25_9b, a25_10b, a25_11b, a25_12b, a25_13b, a25_14b, a25_15b, a25_16b, a25_17b, a25_18b, WS_skip, WS_ops, WS_seq, WS_block, WS_cond, WS_exit, WS_ret, WB_true, WB_false, RS_nil, RS_seq, RS_seqE, RS_seqR, RS_blk, RS_blkE, RS_blkR, WP_nil, WP_cons, WP_guard, WG_true, WG_false, WX_val, WX_enter, KC_nil, getK_some, QC_normal, QC_ret, QL_normal, QL_exit, QL_ret, nbeq, ibeq, iltn, ilen, ite_true, ite_false, EV, ER, fill_nil, fill_cons, fillK_some, fillJ_some, CK, KC_cons, again_nil, again_cons, again_guard, againW_T, againW_F, againR_val, AV.same_refl, wantedA, Opd.ev, evs, Env.get, Env.set, Env.get_set, List.cons.injEq, and_false, false_and, and_self, putE, cond, getAll, getRes, packed, eqOp, isNilV, scalarK, arithOp, unOpA, takeN, List.drop, true_and, and_true, reduceIte, reduceCtorEq, false_implies, forall_const, iLe_eq, iLt_eq, iEq_eq, decide_true, decide_false, Bool.not_true, Bool.not_false, Bool.true_and, Bool.and_true, Bool.false_and, Bool.and_false, beq_self_eq_true, imp_self, Bool.true_eq_false, Bool.false_eq_true, Nat.zero_add, Nat.add_zero, Nat.zero_mul, Nat.mul_one, Nat.one_mul, Nat.sub_zero, beqT, beqF, lv_cells, stOwn hm3, splice, List.length_cons, List.length_nil]
  refine hk _ h2.length ⟨?_, ?_, fun _ => ⟨?_, by omega, by omega⟩, M.aD, ?_, M.big, hmd⟩ ?_ (by omega)
  · rw [hc_set hm3, pq_lv]; simp
  · rw [hc_set_ne hmd]; exact hd3
  · rw [hc_set_ne (by omega)]; exact hx3
  · intro w hw
    rcases List.mem_append.1 hw with h1 | h1
    · exact M.aP w h1
    · simp at h1; subst h1; exact ⟨padN_len hs, hi⟩
  · have a1 : Same h h3 (m :: qf PS q) := Same.trans (F1 := qf PS q) (Same.trans (F1 := []) ⟨sm1.1, fun j hj hn => sm1.2 j hj fun hm => hn (by simp at hm; simp [hm])⟩ sm2 (by simp)) sm3 fun j hj => .inl (by simp [hj])
    exact Same.trans (F1 := [m]) a1 (.set (by simp)) fun j hj => .inl (by simp at hj; simp [hj])

theorem mpress_down (M : ModAt h m dd q DS PS pw true) : ∀ K : AV → AHeap → Prop, WC B G 26 [.ptr (.own m) 0] h K ↔ K (.int .i64 (.ofNat 90)) h := by
  refine WC_iff fun K hk => WC_fun (af := a26) rfl rfl rfl ?_
  rw [args1]
  have hm := M.hm
  simp -implicitDefEqProofs only [c26, a26_0b, a26_1b, a26_2b, a26_3b, a26_4b, a26_5b, a26_6b, a26_7b, a26_8b, a26_9b, a26_10b, a26_11b, a26_12b, a26_13b, a26_14b, a26_15b, a26_16b, a26_17b, WS_skip, WS_ops, WS_seq, WS_block, WS_cond, WS_exit, WS_ret, WB_true, WB_false, RS_nil, RS_seq, RS_seqE, RS_seqR, RS_blk, RS_blkE, RS_blkR, WP_nil, WP_cons, WP_guard, WG_true, WG_false, WX_val, WX_enter, KC_nil, getK_some, QC_normal, QC_ret, QL_normal, QL_exit, QL_ret, nbeq, ibeq, iltn, ilen, ite_true, ite_false, EV, ER, fill_nil, fill_cons, fillK_some, fillJ_some, CK, KC_cons, again_nil, again_cons, again_guard, againW_T, againW_F, againR_val, AV.same_refl, wantedA, Opd.ev, evs, Env.get, Env.set, Env.get_set, List.cons.injEq, and_false, false_and, and_self, putE, cond, getAll, getRes, packed, eqOp, isNilV, scalarK, arithOp, unOpA, takeN, List.drop, true_and, and_true, reduceIte, reduceCtorEq, false_implies, forall_const, iLe_eq, iLt_eq, iEq_eq, decide_true, decide_false, Bool.not_true, Bool.not_false, Bool.true_and, Bool.and_true, Bool.false_and, Bool.and_false, beq_self_eq_true, imp_self, Bool.true_eq_false, Bool.false_eq_true, Nat.zero_add, Nat.add_zero, Nat.zero_mul, Nat.mul_one, Nat.one_mul, Nat.sub_zero, beqT, beqF, ldOwn hm, takeN]
  exact hk

theorem mpress_power (M : ModAt h m dd q DS PS 0 false) {K : AV → AHeap → Prop}
    (hk : ∀ h', ModAt h' m dd q DS PS 0 true → Same h h' [m] → h'.length = h.length → K (.int .i64 (.ofNat 90)) h') : WC B G 26 [.ptr (.own m) 0] h K := by
  refine WC_fun (af := a26) rfl rfl rfl ?_
  rw [args1]
  have hm := M.hm
  simp -implicitDefEqProofs only [c26, a26_0b, a26_1b, a26_2b, a26_3b, a26_4b, a26_5b, a26_6b, a26_7b, a26_8b, a26_9b, a26_10b, a26_11b, a26_12b, a26_13b, a26_14b, a26_15b, a26_16b, a26_17b, WS_skip, WS_ops, WS_seq, WS_block, WS_cond, WS_exit, WS_ret, WB_true, WB_false, RS_nil, RS_seq, RS_seqE, RS_seqR, RS_blk, RS_blkE, RS_blkR, WP_nil, WP_cons, WP_guard, WG_true, WG_false, WX_val, WX_enter, KC_nil, getK_some, QC_normal, QC_ret, QL_normal, QL_exit, QL_ret, nbeq, ibeq, iltn, ilen, ite_true, ite_false, EV, ER, fill_nil, fill_cons, fillK_some, fillJ_some, CK, KC_cons, again_nil, again_cons, again_guard, againW_T, againW_F, againR_val, AV.same_refl, wantedA, Opd.ev, evs, Env.get, Env.set, Env.get_set, List.cons.injEq, and_false, false_and, and_self, putE, cond, getAll, getRes, packed, eqOp, isNilV, scalarK, arithOp, unOpA, takeN, List.drop, true_and, and_true, reduceIte, reduceCtorEq, false_implies, forall_const, iLe_eq, iLt_eq, iEq_eq, decide_true, decide_false, Bool.not_true, Bool.not_false, Bool.true_and, Bool.and_true, Bool.false_and, Bool.and_false, beq_self_eq_true, imp_self, Bool.true_eq_false, Bool.false_eq_true, Nat.zero_add, Nat.add_zero, Nat.zero_mul, Nat.mul_one, Nat.one_mul, Nat.sub_zero, beqT, beqF, ldOwn hm, takeN]
  refine mcall_no M fun h' M' sm hl => ?_
  simp -implicitDefEqProofs only [c26, a26_0b, a26_1b, a26_2b, a26_3b, a26_4b, a26_5b, a26_6b, a26_7b, a26_8b, a26_9b, a26_10b, a26_11b, a26_12b, a26_13b, a26_14b, a26_15b, a26_16b, a26_17b, WS_skip, WS_ops, WS_seq, WS_block, WS_cond, WS_exit, WS_ret, WB_true, WB_false, RS_nil, RS_seq, RS_seqE, RS_seqR, RS_blk, RS_blkE, RS_blkR, WP_nil, WP_cons, WP_guard, WG_true, WG_false, WX_val, WX_enter, KC_nil, getK_some, QC_normal, QC_ret, QL_normal, QL_exit, QL_ret, nbeq, ibeq, iltn, ilen, ite_true, ite_false, EV, ER, fill_nil, fill_cons, fillK_some, fillJ_some, CK, KC_cons, again_nil, again_cons, again_guard, againW_T, againW_F, againR_val, AV.same_refl, wantedA, Opd.ev, evs, Env.get, Env.set, Env.get_set, List.cons.injEq, and_false, false_and, and_self, putE, cond, getAll, getRes, packed, eqOp, isNilV, scalarK, arithOp, unOpA, takeN, List.drop, true_and, and_true, reduceIte, reduceCtorEq, false_implies, forall_const, iLe_eq, iLt_eq, iEq_eq, decide_true, decide_false, Bool.not_true, Bool.not_false, Bool.true_and, Bool.and_true, Bool.false_and, Bool.and_false, beq_self_eq_true, imp_self, Bool.true_eq_false, Bool.false_eq_true, Nat.zero_add, Nat.add_zero, Nat.zero_mul, Nat.mul_one, Nat.one_mul, Nat.sub_zero, beqT, beqF]
  exact hk h' M' sm hl

theorem strs_set {DS : List (List Nat)} {i : Nat} (hi : i < DS.length) (t : List Nat) : splice (DS.map AV.str) i [.str t] = some ((DS.set i t).map AV.str) := by
  rw [splice_some (by simp; omega), List.map_set, List.set_eq_take_append_cons_drop, if_pos (by simpa using hi)]
  simp

set_option maxHeartbeats 1000000 in
theorem mpress_ok (M : ModAt h m dd q DS PS pw false) (hpw : pw ≠ 0) (hr : -1 ≤ pw ∧ pw < 2 ^ 63) (hP : PS.length < 1000000) {K : AV → AHeap → Prop}
    (hk : ∀ h', ModAt h' m dd q (laidG DS PS) [] (if 0 < pw then pw - 1 else pw) false → Same h h' [m, dd] → K (.int .i64 (.ofNat 0)) h') : WC B G 26 [.ptr (.own m) 0] h K := by
  refine WC_fun (af := a26) rfl rfl rfl ?_
  rw [args1]
  have hm := M.hm
  simp -implicitDefEqProofs only [c26, a26_0b, a26_1b, a26_2b, a26_3b, a26_4b, a26_5b, a26_6b, a26_7b, a26_8b, a26_9b, a26_10b, a26_11b, a26_12b, a26_13b, a26_14b, a26_15b, a26_16b, a26_17b, WS_skip, WS_ops, WS_seq, WS_block, WS_cond, WS_exit, WS_ret, WB_true, WB_false, RS_nil, RS_seq, RS_seqE, RS_seqR, RS_blk, RS_blkE, RS_blkR, WP_nil, WP_cons, WP_guard, WG_true, WG_false, WX_val, WX_enter, KC_nil, getK_some, QC_normal, QC_ret, QL_normal, QL_exit, QL_ret, nbeq, ibeq, iltn, ilen, ite_true, ite_false, EV, ER, fill_nil, fill_cons, fillK_some, fillJ_some, CK, KC_cons, again_nil, again_cons, again_guard, againW_T, againW_F, againR_val, AV.same_refl, wantedA, Opd.ev, evs, Env.get, Env.set, Env.get_set, List.cons.injEq, and_false, false_and, and_self, putE, cond, getAll, getRes, packed, eqOp, isNilV, scalarK, arithOp, unOpA, takeN, List.drop, true_and, and_true, reduceIte, reduceCtorEq, false_implies, forall_const, iLe_eq, iLt_eq, iEq_eq, decide_true, decide_false, Bool.not_true, Bool.not_false, Bool.true_and, Bool.and_true, Bool.false_and, Bool.and_false, beq_self_eq_true, imp_self, Bool.true_eq_false, Bool.false_eq_true, Nat.zero_add, Nat.add_zero, Nat.zero_mul, Nat.mul_one, Nat.one_mul, Nat.sub_zero, beqT, beqF, ldOwn hm, takeN]
  refine mcall_ok M hpw hr fun h1 M1 sm1 hl1 => ?_
  simp -implicitDefEqProofs only [c26, a26_0b, a26_1b, a26_2b, a26_3b, a26_4b, a26_5b, a26_6b, a26_7b, a26_8b, a26_9b, a26_10b, a26_11b, a26_12b, a26_13b, a26_14b, a26_15b, a26_16b, a26_17b, WS_skip, WS_ops, WS_seq, WS_block, WS_cond, WS_exit, WS_ret, WB_true, WB_false, RS_nil, RS_seq, RS_seqE, RS_seqR, RS_blk, RS_blkE, RS_blkR, WP_nil, WP_cons, WP_guard, WG_true, WG_false, WX_val, WX_enter, KC_nil, getK_some, QC_normal, QC_ret, QL_normal, QL_exit, QL_ret, nbeq, ibeq, iltn, ilen, ite_true, ite_false, EV, ER, fill_nil, fill_cons, fillK_some, fillJ_some, CK, KC_cons, again_nil, again_cons, again_guard, againW_T, againW_F, againR_val, AV.same_refl, wantedA, Opd.ev, evs, Env.get, Env.set, Env.get_set, List.cons.injEq, and_false, false_and, and_self, putE, cond, getAll, getRes, packed, eqOp, isNilV, scalarK, arithOp, unOpA, takeN, List.drop, true_and, and_true, reduceIte, reduceCtorEq, false_implies, forall_const, iLe_eq, iLt_eq, iEq_eq, decide_true, decide_false, Bool.not_true, Bool.not_false, Bool.true_and, Bool.and_true, Bool.false_and, Bool.and_false, beq_self_eq_true, imp_self, Bool.true_eq_false, Bool.false_eq_true, Nat.zero_add, Nat.add_zero, Nat.zero_mul, Nat.mul_one, Nat.one_mul, Nat.sub_zero, beqT, beqF]
  refine WS_loop (k := PS.length) (fun k env h' => ∃ j, k = PS.length - j ∧ j ≤ PS.length ∧ ModAt h' m dd q (laidG DS (PS.take j)) PS (if 0 < pw then pw - 1 else pw) false ∧ Same h1 h' [dd] ∧ env.get [] = .ptr (.own m) 0 ∧ env.get [true, true] = .int .i64 (.ofNat j)) ?_ ?_
  · exact ⟨0, rfl, by omega, by simpa [laidG] using M1, .refl _ _, by simp [Env.get]⟩
  · rintro k env h' ⟨j, rfl, hj, M2, sm2, e0, e3⟩
    have hm2 := M2.hm
    rw [pq_lv] at hm2
    by_cases hlt : j < PS.length
    · have d4 : decide (j < PS.length) = true := decide_eq_true hlt
      obtain ⟨w, hw⟩ : ∃ w, PS[j]? = some w := ⟨_, List.getElem?_eq_getElem hlt⟩
      have hq := (M2.hp (by rintro rfl; simp at hlt)).1
      obtain ⟨p1, p2, p3⟩ := puts_one hw hq B
      have hts : PS.take (j + 1) = PS.take j ++ [w] := by rw [List.take_succ, hw]; rfl
      have ea := inc_ok (j := j) (by omega)
      have li := lv_idx (es := 2) (q := q) hlt h'
      have hwm := M2.aP w (List.mem_of_getElem? hw)
      have iw := inRange_ok hwm.2
      have hs := strs_set hwm.2 w.2
      simp -implicitDefEqProofs only [c26, a26_0b, a26_1b, a26_2b, a26_3b, a26_4b, a26_5b, a26_6b, a26_7b, a26_8b, a26_9b, a26_10b, a26_11b, a26_12b, a26_13b, a26_14b, a26_15b, a26_16b, a26_17b, WS_skip, WS_ops, WS_seq, WS_block, WS_cond, WS_exit, WS_ret, WB_true, WB_false, RS_nil, RS_seq, RS_seqE, RS_seqR, RS_blk, RS_blkE, RS_blkR, WP_nil, WP_cons, WP_guard, WG_true, WG_false, WX_val, WX_enter, KC_nil, getK_some, QC_normal, QC_ret, QL_normal, QL_exit, QL_ret, nbeq, ibeq, iltn, ilen, ite_true, ite_false, EV, ER, fill_nil, fill_cons, fillK_some, fillJ_some, CK, KC_cons, again_nil, again_cons, again_guard, againW_T, againW_F, againR_val, AV.same_refl, wantedA, Opd.ev, evs, Env.get, Env.set, Env.get_set, List.cons.injEq, and_false, false_and, and_self, putE, cond, getAll, getRes, packed, eqOp, isNilV, scalarK, arithOp, unOpA, takeN, List.drop, true_and, and_true, reduceIte, reduceCtorEq, false_implies, forall_const, iLe_eq, iLt_eq, iEq_eq, decide_true, decide_false, Bool.not_true, Bool.not_false, Bool.true_and, Bool.and_true, Bool.false_and, Bool.and_false, beq_self_eq_true, imp_self, Bool.true_eq_false, Bool.false_eq_true, Nat.zero_add, Nat.add_zero, Nat.zero_mul, Nat.mul_one, Nat.one_mul, Nat.sub_zero, beqT, beqF, e0, e3, ldOwn hm2, takeN, lv_len, d4, li, p1, p2, iw, stOwn M2.hd, hs, List.length_cons, List.length_nil, ea, QL_normal]
      refine ⟨PS.length - (j + 1), by omega, j + 1, rfl, by omega, ?_, ?_, by simp [Env.get_set, e0]⟩
      · rw [hts, laidG_snoc]
        refine M2.setD (by simp) fun t ht => ?_
        rcases List.mem_or_eq_of_mem_set ht with h1 | h1
        · exact M2.aD t h1
        · rw [h1]; exact hwm.1
      · exact sm2.trans (F1 := [dd]) (.set (by simp)) fun i hi => .inl hi
    · have d4 : decide (j < PS.length) = false := decide_eq_false hlt
      have hj' : j = PS.length := by omega
      subst hj'
      rw [List.take_length] at M2 hm2
      simp -implicitDefEqProofs only [c26, a26_0b, a26_1b, a26_2b, a26_3b, a26_4b, a26_5b, a26_6b, a26_7b, a26_8b, a26_9b, a26_10b, a26_11b, a26_12b, a26_13b, a26_14b, a26_15b, a26_16b, a26_17b, WS_skip, WS_ops, WS_seq, WS_block, WS_cond, WS_exit, WS_ret, WB_true, WB_false, RS_nil, RS_seq, RS_seqE, RS_seqR, RS_blk, RS_blkE, RS_blkR, WP_nil, WP_cons, WP_guard, WG_true, WG_false, WX_val, WX_enter, KC_nil, getK_some, QC_normal, QC_ret, QL_normal, QL_exit, QL_ret, nbeq, ibeq, iltn, ilen, ite_true, ite_false, EV, ER, fill_nil, fill_cons, fillK_some, fillJ_some, CK, KC_cons, again_nil, again_cons, again_guard, againW_T, againW_F, againR_val, AV.same_refl, wantedA, Opd.ev, evs, Env.get, Env.set, Env.get_set, List.cons.injEq, and_false, false_and, and_self, putE, cond, getAll, getRes, packed, eqOp, isNilV, scalarK, arithOp, unOpA, takeN, List.drop, true_and, and_true, reduceIte, reduceCtorEq, false_implies, forall_const, iLe_eq, iLt_eq, iEq_eq, decide_true, decide_false, Bool.not_true, Bool.not_false, Bool.true_and, Bool.and_true, Bool.false_and, Bool.and_false, beq_self_eq_true, imp_self, Bool.true_eq_false, Bool.false_eq_true, Nat.zero_add, Nat.add_zero, Nat.zero_mul, Nat.mul_one, Nat.one_mul, Nat.sub_zero, beqT, beqF, e0, e3, ldOwn hm2, stOwn hm2, takeN, lv_len, d4, QL_exit, splice, List.length_cons, List.length_nil]
      refine hk _ (M2.put (PS' := []) (.inl rfl)) ?_
      refine Same.trans (F1 := [m]) (Same.trans (F1 := [dd]) ⟨sm1.1, fun j hj hn => sm1.2 j hj fun hm => hn (by simp at hm; simp [hm])⟩ sm2 fun i hi => .inl (by simp at hi; simp [hi])) (.set (by simp)) fun i hi => .inl (by simp at hi; simp [hi])
end
end Go.Proofs.Ytohjmflbgohkhaa.E
