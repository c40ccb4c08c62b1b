/- Lists of leaves, blocks, and what the small functions of a shelf do. -/
import Derived.Test.YtohjmflbgohkhaaEngZI
import Derived.Test.YtohjmflbgohkhaaEngC
namespace Go.Proofs.Ytohjmflbgohkhaa.E
set_option linter.all false
open Go

theorem WC_iff {B : Base} {G : Nat → Option AFunc} {f args h v0 h0} (H : ∀ K : AV → AHeap → Prop, K v0 h0 → WC B G f args h K) : ∀ K : AV → AHeap → Prop, WC B G f args h K ↔ K v0 h0 := by
  intro K
  refine ⟨?_, H K⟩
  rintro ⟨n, v, h', h1, hk⟩
  obtain ⟨m, v', h'', h2, rfl, rfl⟩ := H (fun v h => v = v0 ∧ h = h0) ⟨rfl, rfl⟩
  have e1 := callF_mono (exec_mono (B := B) (G := G) (Nat.le_max_left n m)) h1
  have e2 := callF_mono (exec_mono (B := B) (G := G) (Nat.le_max_right n m)) h2
  rw [e1] at e2
  cases e2
  exact hk

/- blocks -/
theorem hc_lt {h : AHeap} {i c} (H : hcells h i = some c) : i < h.length := by
  unfold hcells at H
  cases hh : h[i]? with
  | none => rw [hh] at H; cases H
  | some o => exact (List.getElem?_eq_some_iff.1 hh).1
theorem hc_app {h l : AHeap} {i c} (H : hcells h i = some c) : hcells (h ++ l) i = some c := by
  have := hc_lt H
  unfold hcells at *
  rw [List.getElem?_append_left this]; exact H
theorem hc_new {h : AHeap} {c} : hcells (h ++ [.cells c]) h.length = some c := by simp [hcells]
theorem hc_set {h : AHeap} {i c d} (H : hcells h i = some c) : hcells (h.set i (.cells d)) i = some d := by
  have := hc_lt H
  simp [hcells, this]
theorem hc_set_ne {h : AHeap} {i j o} (hne : i ≠ j) : hcells (h.set i o) j = hcells h j := by simp [hcells, List.getElem?_set_ne hne]
theorem ldOwn {h : AHeap} {i : Nat} {cs} (hh : hcells h i = some cs) (B : Base) (o n : Nat) : loadN B h (.own i) o n = takeN n (cs.drop o) := by simp [loadN, hh]
theorem stOwn {h : AHeap} {i : Nat} {cs} (hh : hcells h i = some cs) (o : Nat) (vs : List AV) : storeN h (.own i) o vs = match splice cs o vs with | some r => some (h.set i (.cells r)) | none => none := by
  unfold storeN
  simp only
  rw [hh]
  simp only
  cases splice cs o vs <;> rfl

theorem ibeq (a b : Nat) : (Int.ofNat a == Int.ofNat b) = decide (a = b) := by
  rw [Bool.eq_iff_iff]; simp; omega
theorem iltn (a b : Nat) : (Int.ofNat a < Int.ofNat b) = (a < b) := by simp
theorem ilen (a b : Nat) : (Int.ofNat a ≤ Int.ofNat b) = (a ≤ b) := by simp
theorem beqT (b : Bool) : (b == true) = b := by cases b <;> rfl
theorem beqF (b : Bool) : (b == false) = !b := by cases b <;> rfl

/- lists -/
theorem takeN_some : ∀ {n : Nat} {l : List AV}, n ≤ l.length → takeN n l = some (l.take n)
  | 0, l, _ => by simp [takeN]
  | n + 1, [], h => by simp at h
  | n + 1, v :: l, h => by simp [takeN, takeN_some (n := n) (l := l) (by simpa using h)]
theorem splice_some : ∀ {cs : List AV} {o : Nat} {vs : List AV}, o + vs.length ≤ cs.length → splice cs o vs = some (cs.take o ++ vs ++ cs.drop (o + vs.length))
  | [], 0, [], _ => by simp [splice]
  | [], 0, v :: vs, h => by simp at h
  | [], o + 1, vs, h => by simp at h
  | c :: cs, 0, [], _ => by simp [splice]
  | c :: cs, 0, v :: vs, h => by
    have := splice_some (cs := cs) (o := 0) (vs := vs) (by simpa using h)
    simp [splice, this]
  | c :: cs, o + 1, vs, h => by
    have := splice_some (cs := cs) (o := o) (vs := vs) (by simp at h; omega)
    simp [splice, this, Nat.add_right_comm]

def AllLen (n : Nat) (ls : List (List AV)) : Prop := ∀ l ∈ ls, l.length = n

theorem flat_len {n : Nat} : ∀ {ls : List (List AV)}, AllLen n ls → ls.flatten.length = ls.length * n
  | [], _ => by simp
  | l :: ls, h => by
    have h1 := h l (by simp)
    have h2 := flat_len (ls := ls) fun x hx => h x (by simp [hx])
    simp [h1, h2, Nat.succ_mul]; omega

theorem flat_drop {n : Nat} : ∀ {ls : List (List AV)} (i : Nat), AllLen n ls → ls.flatten.drop (i * n) = (ls.drop i).flatten
  | ls, 0, _ => by simp
  | [], i + 1, _ => by simp
  | l :: ls, i + 1, h => by
    have h1 := h l (by simp)
    have h2 := flat_drop (ls := ls) i fun x hx => h x (by simp [hx])
    rw [List.flatten_cons, show (i + 1) * n = l.length + i * n by rw [h1, Nat.succ_mul]; omega, List.drop_append, Nat.add_sub_cancel_left, h2]
    simp

theorem AllLen.get {n : Nat} {ls : List (List AV)} (h : AllLen n ls) {i : Nat} {l} (hi : ls[i]? = some l) : l.length = n := h l (List.mem_of_getElem? hi)

theorem flat_get {n : Nat} {ls : List (List AV)} (h : AllLen n ls) {i : Nat} {l} (hi : ls[i]? = some l) : takeN n (ls.flatten.drop (i * n)) = some l := by
  have hl := (List.getElem?_eq_some_iff.1 hi)
  obtain ⟨hlt, he⟩ := hl
  rw [flat_drop i h, List.drop_eq_getElem_cons hlt, he, List.flatten_cons]
  rw [takeN_some (by simp [h.get hi]), ← h.get hi]; simp

theorem splice_app : ∀ {a b : List AV} {o : Nat} {vs r}, splice b o vs = some r → splice (a ++ b) (a.length + o) vs = some (a ++ r)
  | [], b, o, vs, r, h => by simpa using h
  | x :: a, b, o, vs, r, h => by
    have := splice_app (a := a) h
    simp only [List.cons_append, List.length_cons, show a.length + 1 + o = (a.length + o) + 1 by omega, splice, this]

theorem splice_ext : ∀ {b c : List AV} {o : Nat} {vs r}, splice b o vs = some r → splice (b ++ c) o vs = some (r ++ c)
  | [], c, 0, [], r, h => by simp [splice] at h; subst h; cases c <;> simp [splice]
  | [], c, 0, v :: vs, r, h => by simp [splice] at h
  | [], c, o + 1, vs, r, h => by simp [splice] at h
  | x :: b, c, 0, [], r, h => by simp [splice] at h; subst h; simp [splice]
  | x :: b, c, 0, v :: vs, r, h => by
    simp only [splice] at h
    split at h
    · rename_i r' hr; cases h; simp only [List.cons_append, splice, splice_ext hr]
    · cases h
  | x :: b, c, o + 1, vs, r, h => by
    simp only [splice] at h
    split at h
    · rename_i r' hr; cases h; simp only [List.cons_append, splice, splice_ext hr]
    · cases h

theorem flat_splice {n : Nat} : ∀ {ls : List (List AV)} {i : Nat} {l} {o : Nat} {vs r : List AV}, AllLen n ls → ls[i]? = some l → splice l o vs = some r → splice ls.flatten (i * n + o) vs = some (ls.set i r).flatten
  | [], i, l, o, vs, r, h, hi, hs => by simp at hi
  | x :: ls, 0, l, o, vs, r, h, hi, hs => by
    simp at hi; subst hi
    have := splice_ext (c := ls.flatten) hs
    simpa using this
  | x :: ls, i + 1, l, o, vs, r, h, hi, hs => by
    have h1 := h x (by simp)
    have h2 := flat_splice (ls := ls) (i := i) (fun y hy => h y (by simp [hy])) (by simpa using hi) hs
    have := splice_app (a := x) h2
    rw [List.flatten_cons, show (i + 1) * n + o = x.length + (i * n + o) by rw [h1, Nat.succ_mul]; omega, this]
    simp

theorem splice_all {l vs : List AV} (h : l.length = vs.length) : splice l 0 vs = some vs := by
  rw [splice_some (by omega)]; simp [← h]

theorem AllLen.set {n : Nat} {ls : List (List AV)} (h : AllLen n ls) {i : Nat} {l} (hl : l.length = n) : AllLen n (ls.set i l) := by
  intro x hx
  rcases List.mem_or_eq_of_mem_set hx with h1 | h1
  · exact h x h1
  · rw [h1, hl]

theorem args1 (a : AV) : envArgs 0 [a] .e = .n .e a .e := rfl
theorem args2 (a b : AV) : envArgs 0 [a, b] .e = .n (.n .e b .e) a .e := rfl
theorem args3 (a b c : AV) : envArgs 0 [a, b, c] .e = .n (.n .e b .e) a (.n .e c .e) := rfl

theorem in_is {B : Base} {h : AHeap} {n lo hi : Int} : ∀ K : AV → AHeap → Prop, WC B G 16 [.int .i64 n, .int .i64 lo, .int .i64 hi] h K ↔ K (.bool (decide (lo ≤ n) && decide (n ≤ hi))) h := by
  refine WC_iff fun K hk => WC_fun (af := a16) rfl rfl rfl ?_
  rw [args3]
  by_cases h1 : lo ≤ n
  · by_cases h2 : n ≤ hi
    · simpa -implicitDefEqProofs only [c16, a16_0b, a16_1b, WS_skip, WS_ops, WS_seq, WS_block, WS_cond, WS_exit, WS_ret, WB_true, WB_false, RS_nil, RS_seq, RS_seqE, RS_seqR, RS_blk, RS_blkE, RS_blkR, WP_nil, WP_cons, WP_guard, WG_true, WG_false, WX_val, WX_enter, KC_nil, getK_some, QC_normal, QC_ret, QL_normal, QL_exit, QL_ret, nbeq, ibeq, iltn, ilen, ite_true, ite_false, evalOp, wantedA, Opd.ev, evs, Env.get, Env.set, Env.get_set, List.cons.injEq, and_false, false_and, and_self, putE, cond, againOk, getAll, getRes, packed, eqOp, isNilV, scalarK, arithOp, unOpA, takeN, List.drop, true_and, and_true, reduceIte, reduceCtorEq, false_implies, forall_const, iLe_eq, iLt_eq, iEq_eq, decide_true, decide_false, Bool.not_true, Bool.not_false, Bool.true_and, Bool.and_true, Bool.false_and, Bool.and_false, beq_self_eq_true, imp_self, Bool.true_eq_false, Bool.false_eq_true, Nat.zero_add, Nat.add_zero, Nat.zero_mul, Nat.mul_one, Nat.one_mul, Nat.sub_zero, beqT, beqF, h1, h2] using hk
    · simpa -implicitDefEqProofs only [c16, a16_0b, a16_1b, WS_skip, WS_ops, WS_seq, WS_block, WS_cond, WS_exit, WS_ret, WB_true, WB_false, RS_nil, RS_seq, RS_seqE, RS_seqR, RS_blk, RS_blkE, RS_blkR, WP_nil, WP_cons, WP_guard, WG_true, WG_false, WX_val, WX_enter, KC_nil, getK_some, QC_normal, QC_ret, QL_normal, QL_exit, QL_ret, nbeq, ibeq, iltn, ilen, ite_true, ite_false, evalOp, wantedA, Opd.ev, evs, Env.get, Env.set, Env.get_set, List.cons.injEq, and_false, false_and, and_self, putE, cond, againOk, getAll, getRes, packed, eqOp, isNilV, scalarK, arithOp, unOpA, takeN, List.drop, true_and, and_true, reduceIte, reduceCtorEq, false_implies, forall_const, iLe_eq, iLt_eq, iEq_eq, decide_true, decide_false, Bool.not_true, Bool.not_false, Bool.true_and, Bool.and_true, Bool.false_and, Bool.and_false, beq_self_eq_true, imp_self, Bool.true_eq_false, Bool.false_eq_true, Nat.zero_add, Nat.add_zero, Nat.zero_mul, Nat.mul_one, Nat.one_mul, Nat.sub_zero, beqT, beqF, h1, h2] using hk
  · simp only [h1, decide_false, Bool.false_and] at hk
    simpa -implicitDefEqProofs only [c16, a16_0b, a16_1b, WS_skip, WS_ops, WS_seq, WS_block, WS_cond, WS_exit, WS_ret, WB_true, WB_false, RS_nil, RS_seq, RS_seqE, RS_seqR, RS_blk, RS_blkE, RS_blkR, WP_nil, WP_cons, WP_guard, WG_true, WG_false, WX_val, WX_enter, KC_nil, getK_some, QC_normal, QC_ret, QL_normal, QL_exit, QL_ret, nbeq, ibeq, iltn, ilen, ite_true, ite_false, evalOp, wantedA, Opd.ev, evs, Env.get, Env.set, Env.get_set, List.cons.injEq, and_false, false_and, and_self, putE, cond, againOk, getAll, getRes, packed, eqOp, isNilV, scalarK, arithOp, unOpA, takeN, List.drop, true_and, and_true, reduceIte, reduceCtorEq, false_implies, forall_const, iLe_eq, iLt_eq, iEq_eq, decide_true, decide_false, Bool.not_true, Bool.not_false, Bool.true_and, Bool.and_true, Bool.false_and, Bool.and_false, beq_self_eq_true, imp_self, Bool.true_eq_false, Bool.false_eq_true, Nat.zero_add, Nat.add_zero, Nat.zero_mul, Nat.mul_one, Nat.one_mul, Nat.sub_zero, beqT, beqF, h1] using hk

theorem state_is {B : Base} {h : AHeap} {s : Nat} {dv nv pv : AV} {pw : Int} {dn : Bool} (hs : hcells h s = some [dv, nv, pv, .int .i64 pw, .bool dn]) :
    ∀ K : AV → AHeap → Prop, WC B G 17 [.ptr (.own s) 0] h K ↔ K (.int .i64 (if dn = true then .ofNat 90 else .ofNat 0)) h := by
  refine WC_iff fun K hk => WC_fun (af := a17) rfl rfl rfl ?_
  rw [args1]
  cases dn <;> simpa -implicitDefEqProofs [c17, a17_0b, a17_1b, a17_2b, a17_3b, a17_4b, a17_5b, a17_6b, a17_7b, a17_8b, a17_9b, WS_skip, WS_ops, WS_seq, WS_block, WS_cond, WS_exit, WS_ret, WB_true, WB_false, RS_nil, RS_seq, RS_seqE, RS_seqR, RS_blk, RS_blkE, RS_blkR, WP_nil, WP_cons, WP_guard, WG_true, WG_false, WX_val, WX_enter, KC_nil, getK_some, QC_normal, QC_ret, QL_normal, QL_exit, QL_ret, nbeq, ibeq, iltn, ilen, ite_true, ite_false, evalOp, wantedA, Opd.ev, evs, Env.get, Env.set, Env.get_set, List.cons.injEq, and_false, false_and, and_self, putE, cond, againOk, getAll, getRes, packed, eqOp, isNilV, scalarK, arithOp, unOpA, takeN, List.drop, true_and, and_true, reduceIte, reduceCtorEq, false_implies, forall_const, iLe_eq, iLt_eq, iEq_eq, decide_true, decide_false, Bool.not_true, Bool.not_false, Bool.true_and, Bool.and_true, Bool.false_and, Bool.and_false, beq_self_eq_true, imp_self, Bool.true_eq_false, Bool.false_eq_true, Nat.zero_add, Nat.add_zero, Nat.zero_mul, Nat.mul_one, Nat.one_mul, Nat.sub_zero, beqT, beqF, ldOwn hs] using hk

theorem has_is {B : Base} {h : AHeap} {s : Nat} {dv pv pwv dnv : AV} {b o L c e} {n : Int} (hs : hcells h s = some [dv, .slice b o L c e, pv, pwv, dnv]) (hL : L < 1000000000) :
    ∀ K : AV → AHeap → Prop, WC B G 18 [.ptr (.own s) 0, .int .i64 n] h K ↔ K (.bool (decide (0 ≤ n) && decide (n < Int.ofNat L))) h := by
  refine WC_iff fun K hk => WC_fun (af := a18) rfl rfl rfl ?_
  rw [args2]
  have hw : awrap .i64 (Int.ofNat L - Int.ofNat 1) = (L : Int) - 1 := by
    rw [awrap_eq, show (Int.ofNat L - Int.ofNat 1) = (L : Int) - 1 from rfl]; exact IntWalk.i64_in _ ⟨by omega, by omega⟩
  have he : decide (n ≤ (L : Int) - 1) = decide (n < Int.ofNat L) := by
    apply decide_eq_decide.2; simp; omega
  simp -implicitDefEqProofs only [c18, a18_0b, a18_1b, WS_skip, WS_ops, WS_seq, WS_block, WS_cond, WS_exit, WS_ret, WB_true, WB_false, RS_nil, RS_seq, RS_seqE, RS_seqR, RS_blk, RS_blkE, RS_blkR, WP_nil, WP_cons, WP_guard, WG_true, WG_false, WX_val, WX_enter, KC_nil, getK_some, QC_normal, QC_ret, QL_normal, QL_exit, QL_ret, nbeq, ibeq, iltn, ilen, ite_true, ite_false, evalOp, wantedA, Opd.ev, evs, Env.get, Env.set, Env.get_set, List.cons.injEq, and_false, false_and, and_self, putE, cond, againOk, getAll, getRes, packed, eqOp, isNilV, scalarK, arithOp, unOpA, takeN, List.drop, true_and, and_true, reduceIte, reduceCtorEq, false_implies, forall_const, iLe_eq, iLt_eq, iEq_eq, decide_true, decide_false, Bool.not_true, Bool.not_false, Bool.true_and, Bool.and_true, Bool.false_and, Bool.and_false, beq_self_eq_true, imp_self, Bool.true_eq_false, Bool.false_eq_true, Nat.zero_add, Nat.add_zero, Nat.zero_mul, Nat.mul_one, Nat.one_mul, Nat.sub_zero, beqT, beqF, ldOwn hs, in_is, hw, he]
  simpa using hk

end Go.Proofs.Ytohjmflbgohkhaa.E
