/- What Write, Read, Tear and Down of a shelf do to the memory of the abstract machine. -/
import Derived.Test.YtohjmflbgohkhaaS1
namespace Go.Proofs.Ytohjmflbgohkhaa.E
set_option linter.all false
open Go

def wcells (w : Nat × List AV) : List AV := .int .i64 (.ofNat w.1) :: w.2
def pv (P : List (Nat × List AV)) (pi : Nat) : AV := match P with
  | [] => .nilslice
  | _ :: _ => .slice (.own pi) 0 P.length P.length (some 65)

structure ShelfAt (h : AHeap) (s di ni pi : Nat) (D N : List (List AV)) (P : List (Nat × List AV)) (pw : Int) (dn : Bool) : Prop where
  hs : ∃ ed en, hcells h s = some [.slice (.own di) 0 D.length D.length ed, .slice (.own ni) 0 D.length D.length en, pv P pi, .int .i64 pw, .bool dn]
  hd : hcells h di = some D.flatten
  hn : hcells h ni = some N.flatten
  hp : P ≠ [] → hcells h pi = some (P.map wcells).flatten ∧ s ≠ pi ∧ di ≠ pi ∧ ni ≠ pi
  aD : AllLen 64 D
  aN : AllLen 64 N
  aP : ∀ w ∈ P, w.2.length = 64 ∧ w.1 < D.length
  len : N.length = D.length
  big : D.length < 100000000
  sd : s ≠ di
  sn : s ≠ ni
  dni : di ≠ ni

/- what stays as it was -/
def Same (h h' : AHeap) (F : List Nat) : Prop := h.length ≤ h'.length ∧ ∀ i, i < h.length → i ∉ F → h'[i]? = h[i]?

theorem Same.refl (h : AHeap) (F) : Same h h F := ⟨Nat.le_refl _, fun _ _ _ => rfl⟩
theorem Same.trans {h h1 h2 : AHeap} {F F1 : List Nat} (a : Same h h1 F) (b : Same h1 h2 F1) (hF : ∀ i ∈ F1, i ∈ F ∨ h.length ≤ i) : Same h h2 F :=
  ⟨Nat.le_trans a.1 b.1, fun i hi hn => by
    rw [b.2 i (Nat.lt_of_lt_of_le hi a.1) fun hm => (hF i hm).elim hn (by omega), a.2 i hi hn]⟩
theorem Same.set {h : AHeap} {i o} {F : List Nat} (hi : i ∈ F) : Same h (h.set i o) F :=
  ⟨by simp, fun j hj hn => List.getElem?_set_ne (by rintro rfl; exact hn hi)⟩
theorem Same.app (h l : AHeap) (F) : Same h (h ++ l) F := ⟨by simp, fun j hj _ => List.getElem?_append_left hj⟩
theorem Same.cells {h h' : AHeap} {F} (a : Same h h' F) {i c} (hc : hcells h i = some c) (hn : i ∉ F) : hcells h' i = some c := by
  have := hc_lt hc
  unfold hcells at *
  rw [a.2 i this hn]; exact hc

section
variable {B : Base} {h : AHeap} {s di ni pi : Nat} {D N : List (List AV)} {P : List (Nat × List AV)} {pw : Int} {dn : Bool}

/- the cells of the shelf itself are replaced -/
theorem ShelfAt.put (S : ShelfAt h s di ni pi D N P pw dn) {pw' : Int} {dn' : Bool} {P' : List (Nat × List AV)} {ed en} (hP : P' = [] ∨ P' = P) :
    ShelfAt (h.set s (.cells [.slice (.own di) 0 D.length D.length ed, .slice (.own ni) 0 D.length D.length en, pv P' pi, .int .i64 pw', .bool dn'])) s di ni pi D N P' pw' dn' := by
  obtain ⟨_, _, hs⟩ := S.hs
  refine ⟨⟨ed, en, hc_set hs⟩, by rw [hc_set_ne S.sd]; exact S.hd, by rw [hc_set_ne S.sn]; exact S.hn, ?_, S.aD, S.aN, ?_, S.len, S.big, S.sd, S.sn, S.dni⟩
  · intro hne
    rcases hP with h1 | h1
    · exact absurd h1 hne
    · rw [h1] at hne ⊢
      obtain ⟨g1, g2, g3⟩ := S.hp hne
      exact ⟨by rw [hc_set_ne g2]; exact g1, g2, g3⟩
  · rcases hP with h1 | h1
    · rw [h1]; simp
    · rw [h1]; exact S.aP

theorem use_ok (S : ShelfAt h s di ni pi D N P pw dn) (hpw : pw ≠ 0) (hr : -1 ≤ pw ∧ pw < 2 ^ 63) {K : AV → AHeap → Prop}
    (hk : ∀ h', ShelfAt h' s di ni pi D N P (if 0 < pw then pw - 1 else pw) dn → Same h h' [s] → h'.length = h.length → K (.int .i64 (.ofNat 0)) h') : WC B G 19 [.ptr (.own s) 0] h K := by
  obtain ⟨ed, en, hs⟩ := S.hs
  refine WC_fun (af := a19) rfl rfl rfl ?_
  rw [args1]
  have e0 : (pw == Int.ofNat 0) = false := by simpa using hpw
  have e1 : (pw == 0) = false := by simpa using hpw
  by_cases hp : 0 < pw
  · have hw : awrap .i64 (pw - Int.ofNat 1) = pw - 1 := by
      rw [awrap_eq, show pw - Int.ofNat 1 = pw - 1 from rfl]; exact IntWalk.i64_in _ ⟨by omega, by omega⟩
    have e2 : decide (Int.ofNat 0 < pw) = true := by simpa using hp
    simp -implicitDefEqProofs only [c19, a19_0b, a19_1b, a19_2b, a19_3b, a19_4b, a19_5b, a19_6b, a19_7b, a19_8b, a19_9b, a19_10b, WS_skip, WS_ops, WS_seq, WS_block, WS_cond, WS_exit, WS_ret, WB_true, WB_false, RS_nil, RS_seq, RS_seqE, RS_seqR, RS_blk, RS_blkE, RS_blkR, WP_nil, WP_cons, WP_guard, WG_true, WG_false, WX_val, WX_enter, KC_nil, getK_some, QC_normal, QC_ret, QL_normal, QL_exit, QL_ret, nbeq, ibeq, iltn, ilen, ite_true, ite_false, evalOp, wantedA, Opd.ev, evs, Env.get, Env.set, Env.get_set, List.cons.injEq, and_false, false_and, and_self, putE, cond, againOk, getAll, getRes, packed, eqOp, isNilV, scalarK, arithOp, unOpA, takeN, List.drop, true_and, and_true, reduceIte, reduceCtorEq, false_implies, forall_const, iLe_eq, iLt_eq, iEq_eq, decide_true, decide_false, Bool.not_true, Bool.not_false, Bool.true_and, Bool.and_true, Bool.false_and, Bool.and_false, beq_self_eq_true, imp_self, Bool.true_eq_false, Bool.false_eq_true, Nat.zero_add, Nat.add_zero, Nat.zero_mul, Nat.mul_one, Nat.one_mul, Nat.sub_zero, beqT, beqF, ldOwn hs, stOwn hs, e0, e1, e2, hw, AV.cellsOk, splice, List.length_cons, List.length_nil]
    have S' := S.put (pw' := pw - 1) (dn' := dn) (ed := ed) (en := en) (.inr rfl)
    have := hk _ (by rw [if_pos hp]; exact S') (.set (by simp)) (by simp)
    simpa using this
  · have e2 : decide (Int.ofNat 0 < pw) = false := by simpa using hp
    simp -implicitDefEqProofs only [c19, a19_0b, a19_1b, a19_2b, a19_3b, a19_4b, a19_5b, a19_6b, a19_7b, a19_8b, a19_9b, a19_10b, WS_skip, WS_ops, WS_seq, WS_block, WS_cond, WS_exit, WS_ret, WB_true, WB_false, RS_nil, RS_seq, RS_seqE, RS_seqR, RS_blk, RS_blkE, RS_blkR, WP_nil, WP_cons, WP_guard, WG_true, WG_false, WX_val, WX_enter, KC_nil, getK_some, QC_normal, QC_ret, QL_normal, QL_exit, QL_ret, nbeq, ibeq, iltn, ilen, ite_true, ite_false, evalOp, wantedA, Opd.ev, evs, Env.get, Env.set, Env.get_set, List.cons.injEq, and_false, false_and, and_self, putE, cond, againOk, getAll, getRes, packed, eqOp, isNilV, scalarK, arithOp, unOpA, takeN, List.drop, true_and, and_true, reduceIte, reduceCtorEq, false_implies, forall_const, iLe_eq, iLt_eq, iEq_eq, decide_true, decide_false, Bool.not_true, Bool.not_false, Bool.true_and, Bool.and_true, Bool.false_and, Bool.and_false, beq_self_eq_true, imp_self, Bool.true_eq_false, Bool.false_eq_true, Nat.zero_add, Nat.add_zero, Nat.zero_mul, Nat.mul_one, Nat.one_mul, Nat.sub_zero, beqT, beqF, ldOwn hs, e0, e1, e2]
    have := hk h (by rw [if_neg hp]; exact S) (.refl _ _) rfl
    simpa using this

end
end Go.Proofs.Ytohjmflbgohkhaa.E
