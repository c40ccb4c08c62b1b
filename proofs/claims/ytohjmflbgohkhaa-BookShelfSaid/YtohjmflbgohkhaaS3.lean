/- What Write does. -/
import Derived.Test.YtohjmflbgohkhaaS2
namespace Go.Proofs.Ytohjmflbgohkhaa.E
set_option linter.all false
open Go

def z8 : AV := .int .u8 (.ofNat 0)
def zs : List AV := List.replicate 64 z8
def pad (cs : List AV) : List AV := cs ++ List.replicate (64 - cs.length) z8

theorem repE (v : AV) (acc : List AV) : ∀ n, rep n v acc = List.replicate n v ++ acc
  | 0 => rfl
  | n + 1 => by simp [rep, repE v acc n, List.replicate_succ]
theorem out64 : RL.out [(64, .int .u8 (.ofNat 0))] = zs := by simp [RL.out, repE, zs, z8]
theorem outW : RL.out [(1, .int .i64 (.ofNat 0)), (64, .int .u8 (.ofNat 0))] = .int .i64 (.ofNat 0) :: zs := by simp [RL.out, repE, zs, z8]
theorem pad_len {cs : List AV} (h : cs.length ≤ 64) : (pad cs).length = 64 := by simp [pad]; omega
theorem zs_len : zs.length = 64 := by simp [zs]
theorem splice_pad {cs : List AV} (h : cs.length ≤ 64) : splice zs 0 cs = some (pad cs) := by
  rw [splice_some (by rw [zs_len]; omega)]
  simp only [zs, pad, List.take_zero, List.nil_append, Nat.zero_add, List.drop_replicate]
theorem splice_nil (cs : List AV) : splice cs 0 [] = some cs := by cases cs <;> rfl

/- what is read from elsewhere: it does not change -/
def Src (B : Base) (bv : AV) (cs : List AV) : Prop := (bv = .nilslice ∧ cs = []) ∨ ∃ b o c e, bv = .slice (.base b) o cs.length c e ∧ baseCells B b o cs.length = some cs

section
variable {B : Base} {h : AHeap} {s di ni pi : Nat} {D N : List (List AV)} {P : List (Nat × List AV)} {pw : Int} {dn : Bool}

def pf (P : List (Nat × List AV)) (pi : Nat) : List Nat := match P with
  | [] => []
  | _ :: _ => [pi]

def dead (P : List (Nat × List AV)) (pi : Nat) (h : AHeap) : AHeap := match P with
  | [] => h
  | _ :: _ => h.set pi .dead

theorem wflat_len {P : List (Nat × List AV)} (aP : ∀ w ∈ P, w.2.length = 64) : AllLen 65 (P.map wcells) := by
  intro l hl
  obtain ⟨w, hw, rfl⟩ := List.mem_map.1 hl
  simp [wcells, aP w hw]

theorem appendP {x : Nat} {w : Nat × List AV} (hx : hcells h x = some (wcells w)) (hw : w.2.length = 64) (hp : P ≠ [] → hcells h pi = some (P.map wcells).flatten) (aP : ∀ w ∈ P, w.2.length = 64) (hl : P.length < 1000000) :
    appendOp B h 65 72 (pv P pi) (.slice (.own x) 0 1 1 none) = some (.slice (.own h.length) 0 (P.length + 1) (P.length + 1) (some 65), dead P pi h ++ [.cells ((P ++ [w]).map wcells).flatten]) := by
  have h65 : (wcells w).length = 65 := by simp [wcells, hw]
  have hs : loadN B h (.own x) 0 (1 * 65) = some (wcells w) := by
    rw [ldOwn hx, List.drop_zero, takeN_some (by omega)]
    rw [show 1 * 65 = (wcells w).length by omega, List.take_length]
  cases P with
  | nil =>
    have hr : roomy (1 * 72) = true := by decide
    simp only [appendOp, srcCells, hs, pv, hr, cond, dead, List.length_nil, Nat.zero_add, List.nil_append, List.map_cons, List.map_nil, List.flatten_cons, List.flatten_nil, List.append_nil]
  | cons p P' =>
    have hc := hp (by simp)
    have hfl := flat_len (wflat_len aP)
    rw [List.length_map] at hfl
    generalize hPP : p :: P' = Q at *
    have hpv : pv Q pi = .slice (.own pi) 0 Q.length Q.length (some 65) := by rw [← hPP]; rfl
    have hde : dead Q pi h = h.set pi .dead := by rw [← hPP]; rfl
    have hb : Nat.ble (Q.length + 1) Q.length = false := by
      cases hq : Nat.ble (Q.length + 1) Q.length
      · rfl
      · have := Nat.le_of_ble_eq_true hq; omega
    have hr : roomy ((Q.length + 1) * 72) = true := by
      unfold roomy; exact Nat.ble_eq_true_of_le (by omega)
    have ho : loadN B h (.own pi) 0 (Q.length * 65) = some (Q.map wcells).flatten := by
      rw [ldOwn hc, List.drop_zero, takeN_some (by omega), ← hfl, List.take_length]
    have hq : (Nat.beq (0 + Q.length * 65) (Q.map wcells).flatten.length && Nat.beq 65 65) = true := by
      rw [hfl]; simp
    simp only [appendOp, srcCells, hs, hpv, hb, hr, ho, hc, hq, hde]
    simp [wcells]

theorem srcCells_ok {bv : AV} {cs : List AV} (hb : Src B bv cs) (h : AHeap) : srcCells B h 1 bv = some (cs.length, cs) := by
  rcases hb with ⟨rfl, rfl⟩ | ⟨b, o, c, e, rfl, hl⟩
  · rfl
  · simp only [srcCells, loadN, Nat.mul_one, hl]

theorem len_ok {bv : AV} {cs : List AV} (hb : Src B bv cs) {env : Env} {h : AHeap} {x : Opd} (hx : x.ev env = bv) : evalOp B env h (.len x) = some (.val (.int .i64 (.ofNat cs.length)) h) := by
  rcases hb with ⟨rfl, rfl⟩ | ⟨b, o, c, e, rfl, hl⟩
  · simp only [evalOp, hx]; rfl
  · simp only [evalOp, hx]

theorem inRange_ok {i n : Nat} (h : i < n) : inRange (Int.ofNat i) n = some i := by
  have : Nat.blt i n = true := by simpa using h
  simp only [inRange, this, cond]

theorem dead_hc {j : Nat} (hj : P ≠ [] → j ≠ pi) : hcells (dead P pi h) j = hcells h j := by
  cases P with
  | nil => rfl
  | cons p P => exact hc_set_ne fun e => hj (by simp) e.symm
theorem dead_len (P : List (Nat × List AV)) (pi : Nat) (h : AHeap) : (dead P pi h).length = h.length := by cases P <;> simp [dead]
theorem dead_same (P : List (Nat × List AV)) (pi : Nat) (h : AHeap) : Same h (dead P pi h) (s :: ni :: pf P pi) := by
  cases P with
  | nil => exact .refl _ _
  | cons p P => exact .set (by simp [pf])
theorem pv_snoc (P : List (Nat × List AV)) (w : Nat × List AV) (q : Nat) : pv (P ++ [w]) q = .slice (.own q) 0 (P.length + 1) (P.length + 1) (some 65) := by cases P <;> simp [pv]

set_option maxHeartbeats 1000000 in
theorem write_ok (S : ShelfAt h s di ni pi D N P pw false) {i : Nat} (hi : i < D.length) (hpw : pw ≠ 0) (hr : -1 ≤ pw ∧ pw < 2 ^ 63) {bv : AV} {cs : List AV} (hb : Src B bv cs) (hn : cs.length ≤ 64) (hP : P.length < 1000000) {K : AV → AHeap → Prop}
    (hk : ∀ h' pi', ShelfAt h' s di ni pi' D (N.set i (pad cs)) (P ++ [(i, pad cs)]) (if 0 < pw then pw - 1 else pw) false → Same h h' (s :: ni :: pf P pi) → h.length ≤ pi' → K (.int .i64 (.ofNat 0)) h') :
    WC B G 7 [.ptr (.own s) 0, .int .i64 (.ofNat i), bv] h K := by
  obtain ⟨ed, en, hs⟩ := S.hs
  refine WC_fun (af := a7) rfl rfl rfl ?_
  rw [args3]
  have e00 : decide (0 ≤ Int.ofNat i) = true := by simp
  have e01 : decide (i < D.length) = true := by simpa using hi
  have e1 : decide (64 < cs.length) = false := by simp; omega
  have hD : D.length < 1000000000 := by have := S.big; omega
  have hb2 : ∀ h : AHeap, srcCells B h 1 bv = some (cs.length, cs) := fun h => srcCells_ok hb h
  have e2 : decide (Int.ofNat 64 < 0) = false := rfl
  have m1 : List.take (cs.length.min 64) cs = cs := List.take_of_length_le (by show cs.length ≤ min cs.length 64; omega)
  have sp := splice_pad hn
  have pl := pad_len hn
  have t64 : takeN 64 (pad cs) = some (pad cs) := by rw [takeN_some (by omega), ← pl, List.take_length]
  have ir := inRange_ok hi
  have hNi : i < N.length := by rw [S.len]; exact hi
  have hNl : N[i].length = 64 := S.aN _ (List.getElem_mem hNi)
  have spn : splice N.flatten (i * 64) (pad cs) = some (N.set i (pad cs)).flatten := by
    have h1 : splice N[i] 0 (pad cs) = some (pad cs) := splice_all (by rw [hNl, pl])
    have h2 := flat_splice (n := 64) (ls := N) (i := i) (l := N[i]) (o := 0) (vs := pad cs) (r := pad cs) S.aN (List.getElem?_eq_getElem hNi) h1
    rw [Nat.add_zero] at h2
    exact h2
  have spw1 : splice (.int .i64 (.ofNat 0) :: zs) 0 [.int .i64 (.ofNat i)] = some (.int .i64 (.ofNat i) :: zs) := by simp only [splice, splice_nil]
  have spw2 : splice (.int .i64 (.ofNat i) :: zs) 1 (pad cs) = some (.int .i64 (.ofNat i) :: pad cs) := by
    simp only [splice, splice_all (show zs.length = (pad cs).length by rw [pl, zs_len])]
  have spw3 : splice (.int .i64 (.ofNat 0) :: zs) 0 (.int .i64 (.ofNat i) :: pad cs) = some (.int .i64 (.ofNat i) :: pad cs) := splice_all (by simp [pl, zs_len])
  have tl1 : timesL 1 (.int .i64 (.ofNat 0) :: zs) = .int .i64 (.ofNat 0) :: zs := by simp [timesL]
  rcases hb with ⟨rfl, -⟩ | ⟨b, o, c, e, rfl, -⟩
  all_goals
    simp -implicitDefEqProofs only [c7, a7_0b, a7_1b, a7_2b, a7_3b, a7_4b, a7_5b, a7_6b, a7_7b, a7_8b, a7_9b, a7_10b, a7_11b, a7_12b, a7_13b, a7_14b, a7_15b, a7_16b, a7_17b, a7_18b, a7_19b, a7_20b, a7_21b, a7_22b, a7_23b, WS_skip, WS_ops, WS_seq, WS_block, WS_cond, WS_exit, WS_ret, WB_true, WB_false, RS_nil, RS_seq, RS_seqE, RS_seqR, RS_blk, RS_blkE, RS_blkR, WP_nil, WP_cons, WP_guard, WG_true, WG_false, WX_val, WX_enter, KC_nil, getK_some, QC_normal, QC_ret, QL_normal, QL_exit, QL_ret, nbeq, ibeq, iltn, ilen, ite_true, ite_false, evalOp, wantedA, Opd.ev, evs, Env.get, Env.set, Env.get_set, List.cons.injEq, and_false, false_and, and_self, putE, cond, againOk, getAll, getRes, packed, eqOp, isNilV, scalarK, arithOp, unOpA, takeN, List.drop, true_and, and_true, reduceIte, reduceCtorEq, false_implies, forall_const, iLe_eq, iLt_eq, iEq_eq, decide_true, decide_false, Bool.not_true, Bool.not_false, Bool.true_and, Bool.and_true, Bool.false_and, Bool.and_false, beq_self_eq_true, imp_self, Bool.true_eq_false, Bool.false_eq_true, Nat.zero_add, Nat.add_zero, Nat.zero_mul, Nat.mul_one, Nat.one_mul, Nat.sub_zero, beqT, beqF, state_is hs, has_is hs hD, e00, e01, e1, e2]
    refine use_ok S hpw hr fun h0 S0 hsm hl0 => ?_
    obtain ⟨ed0, en0, hs0⟩ := S0.hs
    have hx1 : hcells (h0 ++ [.cells zs]) h0.length = some zs := hc_new
    have hsx : s ≠ h0.length := Nat.ne_of_lt (hc_lt hs0)
    have hnx : ni ≠ h0.length := Nat.ne_of_lt (hc_lt S0.hn)
    have hdx : di ≠ h0.length := Nat.ne_of_lt (hc_lt S0.hd)
    simp -implicitDefEqProofs only [c7, a7_0b, a7_1b, a7_2b, a7_3b, a7_4b, a7_5b, a7_6b, a7_7b, a7_8b, a7_9b, a7_10b, a7_11b, a7_12b, a7_13b, a7_14b, a7_15b, a7_16b, a7_17b, a7_18b, a7_19b, a7_20b, a7_21b, a7_22b, a7_23b, WS_skip, WS_ops, WS_seq, WS_block, WS_cond, WS_exit, WS_ret, WB_true, WB_false, RS_nil, RS_seq, RS_seqE, RS_seqR, RS_blk, RS_blkE, RS_blkR, WP_nil, WP_cons, WP_guard, WG_true, WG_false, WX_val, WX_enter, KC_nil, getK_some, QC_normal, QC_ret, QL_normal, QL_exit, QL_ret, nbeq, ibeq, iltn, ilen, ite_true, ite_false, evalOp, wantedA, Opd.ev, evs, Env.get, Env.set, Env.get_set, List.cons.injEq, and_false, false_and, and_self, putE, cond, againOk, getAll, getRes, packed, eqOp, isNilV, scalarK, arithOp, unOpA, takeN, List.drop, true_and, and_true, reduceIte, reduceCtorEq, false_implies, forall_const, iLe_eq, iLt_eq, iEq_eq, decide_true, decide_false, Bool.not_true, Bool.not_false, Bool.true_and, Bool.and_true, Bool.false_and, Bool.and_false, beq_self_eq_true, imp_self, Bool.true_eq_false, Bool.false_eq_true, Nat.zero_add, Nat.add_zero, Nat.zero_mul, Nat.mul_one, Nat.one_mul, Nat.sub_zero, beqT, beqF, out64, bounds, bound, hiD, hb2, stOwn hx1, m1, sp]
    generalize hh2 : (h0 ++ [AObj.cells zs]).set h0.length (.cells (pad cs)) = h2
    have hs2 : hcells h2 s = _ := hh2 ▸ (hc_set_ne hsx.symm).trans (hc_app hs0)
    have hn2 : hcells h2 ni = _ := hh2 ▸ (hc_set_ne hnx.symm).trans (hc_app S0.hn)
    have hd2 : hcells h2 di = _ := hh2 ▸ (hc_set_ne hdx.symm).trans (hc_app S0.hd)
    have hx2 : hcells h2 h0.length = _ := hh2 ▸ hc_set (d := pad cs) hc_new
    have hl2 : h2.length = h0.length + 1 := by rw [← hh2]; simp
    have hp2 : P ≠ [] → hcells h2 pi = some (P.map wcells).flatten := fun hne =>
      hh2 ▸ (hc_set_ne (Nat.ne_of_gt (hc_lt (S0.hp hne).1))).trans (hc_app (S0.hp hne).1)
    have sm2 : Same h0 h2 (s :: ni :: pf P pi) := by
      rw [← hh2]
      refine Same.trans (F1 := [h0.length]) (Same.app _ _ _) (Same.set (by simp)) fun j hj => .inr ?_
      simp at hj; omega
    clear hh2
    simp -implicitDefEqProofs only [c7, a7_0b, a7_1b, a7_2b, a7_3b, a7_4b, a7_5b, a7_6b, a7_7b, a7_8b, a7_9b, a7_10b, a7_11b, a7_12b, a7_13b, a7_14b, a7_15b, a7_16b, a7_17b, a7_18b, a7_19b, a7_20b, a7_21b, a7_22b, a7_23b, WS_skip, WS_ops, WS_seq, WS_block, WS_cond, WS_exit, WS_ret, WB_true, WB_false, RS_nil, RS_seq, RS_seqE, RS_seqR, RS_blk, RS_blkE, RS_blkR, WP_nil, WP_cons, WP_guard, WG_true, WG_false, WX_val, WX_enter, KC_nil, getK_some, QC_normal, QC_ret, QL_normal, QL_exit, QL_ret, nbeq, ibeq, iltn, ilen, ite_true, ite_false, evalOp, wantedA, Opd.ev, evs, Env.get, Env.set, Env.get_set, List.cons.injEq, and_false, false_and, and_self, putE, cond, againOk, getAll, getRes, packed, eqOp, isNilV, scalarK, arithOp, unOpA, takeN, List.drop, true_and, and_true, reduceIte, reduceCtorEq, false_implies, forall_const, iLe_eq, iLt_eq, iEq_eq, decide_true, decide_false, Bool.not_true, Bool.not_false, Bool.true_and, Bool.and_true, Bool.false_and, Bool.and_false, beq_self_eq_true, imp_self, Bool.true_eq_false, Bool.false_eq_true, Nat.zero_add, Nat.add_zero, Nat.zero_mul, Nat.mul_one, Nat.one_mul, Nat.sub_zero, beqT, beqF, ldOwn hs2, ldOwn hx2, t64, ir, AV.cellsOk, pl, stOwn hn2, spn]
    generalize hh3 : h2.set ni (.cells (N.set i (pad cs)).flatten) = h3
    have hs3 : hcells h3 s = _ := hh3 ▸ (hc_set_ne S.sn.symm).trans hs2
    have hd3 : hcells h3 di = _ := hh3 ▸ (hc_set_ne S.dni.symm).trans hd2
    have hx3 : hcells h3 h0.length = _ := hh3 ▸ (hc_set_ne hnx).trans hx2
    have hn3 : hcells h3 ni = _ := hh3 ▸ hc_set (d := (N.set i (pad cs)).flatten) hn2
    have hl3 : h3.length = h0.length + 1 := by rw [← hh3]; simpa using hl2
    have hp3 : P ≠ [] → hcells h3 pi = some (P.map wcells).flatten := fun hne => hh3 ▸ (hc_set_ne (S0.hp hne).2.2.2).trans (hp2 hne)
    have sm3 : Same h0 h3 (s :: ni :: pf P pi) := by
      rw [← hh3]; exact Same.trans (F1 := s :: ni :: pf P pi) sm2 (Same.set (by simp)) fun j hj => .inl hj
    clear hh3
    simp -implicitDefEqProofs only [c7, a7_0b, a7_1b, a7_2b, a7_3b, a7_4b, a7_5b, a7_6b, a7_7b, a7_8b, a7_9b, a7_10b, a7_11b, a7_12b, a7_13b, a7_14b, a7_15b, a7_16b, a7_17b, a7_18b, a7_19b, a7_20b, a7_21b, a7_22b, a7_23b, WS_skip, WS_ops, WS_seq, WS_block, WS_cond, WS_exit, WS_ret, WB_true, WB_false, RS_nil, RS_seq, RS_seqE, RS_seqR, RS_blk, RS_blkE, RS_blkR, WP_nil, WP_cons, WP_guard, WG_true, WG_false, WX_val, WX_enter, KC_nil, getK_some, QC_normal, QC_ret, QL_normal, QL_exit, QL_ret, nbeq, ibeq, iltn, ilen, ite_true, ite_false, evalOp, wantedA, Opd.ev, evs, Env.get, Env.set, Env.get_set, List.cons.injEq, and_false, false_and, and_self, putE, cond, againOk, getAll, getRes, packed, eqOp, isNilV, scalarK, arithOp, unOpA, takeN, List.drop, true_and, and_true, reduceIte, reduceCtorEq, false_implies, forall_const, iLe_eq, iLt_eq, iEq_eq, decide_true, decide_false, Bool.not_true, Bool.not_false, Bool.true_and, Bool.and_true, Bool.false_and, Bool.and_false, beq_self_eq_true, imp_self, Bool.true_eq_false, Bool.false_eq_true, Nat.zero_add, Nat.add_zero, Nat.zero_mul, Nat.mul_one, Nat.one_mul, Nat.sub_zero, beqT, beqF, ldOwn hs3, ldOwn hx3, t64, AV.cellsOk, pl, fillL, outW, spw1, spw2, spw3, tl1, List.length_cons, List.length_nil, Nat.reduceAdd]
    have ap := appendP (B := B) (pi := pi) (P := P) (w := (i, pad cs)) (h := h3 ++ [.cells (.int .i64 (.ofNat i) :: pad cs)]) (x := h3.length) hc_new pl (fun hne => hc_app (hp3 hne)) (fun w hw => (S.aP w hw).1) hP
    generalize hh4 : h3 ++ [AObj.cells (.int .i64 (.ofNat i) :: pad cs)] = h4 at ap
    have hl4 : h4.length = h0.length + 2 := by rw [← hh4]; simp [hl3]
    have hs4 : hcells h4 s = _ := hh4 ▸ hc_app hs3
    have hd4 : hcells h4 di = _ := hh4 ▸ hc_app hd3
    have hn4 : hcells h4 ni = _ := hh4 ▸ hc_app hn3
    have sm4 : Same h0 h4 (s :: ni :: pf P pi) := by
      rw [← hh4]; exact Same.trans (F1 := s :: ni :: pf P pi) sm3 (Same.app _ _ _) fun j hj => .inl hj
    simp only [hh4, ap]
    have hs5 : hcells (dead P pi h4 ++ [.cells ((P ++ [(i, pad cs)]).map wcells).flatten]) s = _ := hc_app ((dead_hc fun hne => (S0.hp hne).2.1).trans hs4)
    simp -implicitDefEqProofs only [c7, a7_0b, a7_1b, a7_2b, a7_3b, a7_4b, a7_5b, a7_6b, a7_7b, a7_8b, a7_9b, a7_10b, a7_11b, a7_12b, a7_13b, a7_14b, a7_15b, a7_16b, a7_17b, a7_18b, a7_19b, a7_20b, a7_21b, a7_22b, a7_23b, WS_skip, WS_ops, WS_seq, WS_block, WS_cond, WS_exit, WS_ret, WB_true, WB_false, RS_nil, RS_seq, RS_seqE, RS_seqR, RS_blk, RS_blkE, RS_blkR, WP_nil, WP_cons, WP_guard, WG_true, WG_false, WX_val, WX_enter, KC_nil, getK_some, QC_normal, QC_ret, QL_normal, QL_exit, QL_ret, nbeq, ibeq, iltn, ilen, ite_true, ite_false, evalOp, wantedA, Opd.ev, evs, Env.get, Env.set, Env.get_set, List.cons.injEq, and_false, false_and, and_self, putE, cond, againOk, getAll, getRes, packed, eqOp, isNilV, scalarK, arithOp, unOpA, takeN, List.drop, true_and, and_true, reduceIte, reduceCtorEq, false_implies, forall_const, iLe_eq, iLt_eq, iEq_eq, decide_true, decide_false, Bool.not_true, Bool.not_false, Bool.true_and, Bool.and_true, Bool.false_and, Bool.and_false, beq_self_eq_true, imp_self, Bool.true_eq_false, Bool.false_eq_true, Nat.zero_add, Nat.add_zero, Nat.zero_mul, Nat.mul_one, Nat.one_mul, Nat.sub_zero, beqT, beqF, AV.cellsOk, List.length_cons, List.length_nil, ldOwn hs5, stOwn hs5, splice]
    have hne : P ++ [(i, pad cs)] ≠ [] := by simp
    have hDl := hc_lt hd4
    have hNl' := hc_lt hn4
    have hSl := hc_lt hs4
    refine hk _ h4.length ?_ ?_ (by omega)
    · refine ⟨⟨ed0, en0, ?_⟩, ?_, ?_, ?_, S.aD, S.aN.set pl, ?_, by simpa using S.len, S.big, S.sd, S.sn, S.dni⟩
      · rw [hc_set hs5, pv_snoc]
      · rw [hc_set_ne S.sd]; exact hc_app ((dead_hc fun hne => (S0.hp hne).2.2.1).trans hd4)
      · rw [hc_set_ne S.sn]; exact hc_app ((dead_hc fun hne => (S0.hp hne).2.2.2).trans hn4)
      · intro _
        refine ⟨?_, by omega, by omega, by omega⟩
        rw [hc_set_ne (by omega), ← dead_len P pi h4]; exact hc_new
      · intro w hw
        rcases List.mem_append.1 hw with h1 | h1
        · exact S.aP w h1
        · simp at h1; subst h1; exact ⟨pl, hi⟩
    · have sm5 : Same h0 ((dead P pi h4 ++ [.cells ((P ++ [(i, pad cs)]).map wcells).flatten])) (s :: ni :: pf P pi) :=
        Same.trans (F1 := s :: ni :: pf P pi) (Same.trans (F1 := s :: ni :: pf P pi) sm4 (dead_same _ _ _) fun j hj => .inl hj) (Same.app _ _ _) fun j hj => .inl hj
      have sm6 := Same.trans (F1 := s :: ni :: pf P pi) sm5 (Same.set (o := .cells [.slice (.own di) 0 D.length D.length ed0, .slice (.own ni) 0 D.length D.length en0, .slice (.own h4.length) 0 (P.length + 1) (P.length + 1) (some 65), .int .i64 (if 0 < pw then pw - 1 else pw), .bool false]) (i := s) (by simp)) fun j hj => .inl hj
      exact Same.trans (F := s :: ni :: pf P pi) (F1 := s :: ni :: pf P pi) ⟨hsm.1, fun j hj hn => hsm.2 j hj fun hm => hn (by simp at hm; simp [hm])⟩ sm6 fun j hj => .inl hj
end
end Go.Proofs.Ytohjmflbgohkhaa.E
