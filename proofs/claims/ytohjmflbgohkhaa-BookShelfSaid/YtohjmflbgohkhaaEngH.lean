/- Operations that leave memory alone. -/
import Derived.Test.YtohjmflbgohkhaaEngG
import Derived.Laws.StructEq
namespace Go.Proofs.Ytohjmflbgohkhaa.E
set_option linter.all false
open Go

section
variable {P : Program} {W : World} {μ : Mu} {h : AHeap} {w : World} {nt : Nat} {env : Env} {a : Act}

/- + - * / % & | ^ &^ << >> < <= > >= ; + of strings -/
theorem arith_ok {op : BinOp} {t : TypeId} {x y : AV} {u v : Value} {r} (hop : op ≠ .eql ∧ op ≠ .neq) (hx : VR μ x u) (hy : VR μ y v) (hr : arithOp op x y = some r) :
    ∃ z, (binOp op t u v).run P w = .ok z w ∧ VR μ r z := by
  obtain ⟨ho1, ho2⟩ := hop
  cases x with
  | int k m =>
    cases y with
    | int k' n =>
      have hx : u = .int k m := hx
      have hy : v = .int k' n := hy
      subst hx; subst hy
      cases op <;> simp only [arithOp, reduceCtorEq, not_false_eq_true, not_true_eq_false] at hr ho1 ho2
      case shl =>
        cases n with
        | ofNat n =>
          simp only at hr; cases hr
          refine ⟨_, ?_, rfl⟩
          simp [binOp, Op.shift, awrap_eq]
          intro h; omega
        | negSucc n => simp at hr
      case shr =>
        cases n with
        | ofNat n =>
          simp only at hr; cases hr
          refine ⟨_, ?_, rfl⟩
          simp [binOp, Op.shift]
          intro h; omega
        | negSucc n => simp at hr
      all_goals
        by_cases hk : k = k'
        · subst hk
          simp only [decide_true] at hr
          first
            | (cases hr; refine ⟨_, ?_, rfl⟩; simp [binOp, Op.intArith, Op.intCmp, Op.intBits, awrap_eq, iAdd, iLt_eq, iLe_eq]; done)
            | (cases hr; refine ⟨_, ?_, rfl⟩; cases m <;> cases n <;> simp [binOp, Op.intArith, awrap_eq, iAdd]; done)
            | (split at hr
               · cases hr
               · rename_i hz
                 cases hr
                 refine ⟨_, ?_, rfl⟩
                 rw [iEq_eq] at hz
                 simp at hz
                 simp [binOp, Op.intDiv, hz, awrap_eq]; done)
            | (cases hr; done)
        · simp [hk] at hr
    | _ => simp [arithOp] at hr
  | str s =>
    cases y with
    | str s' =>
      obtain ⟨b, rfl, rfl⟩ := hx
      obtain ⟨b', rfl, rfl⟩ := hy
      cases op <;> simp only [arithOp, reduceCtorEq] at hr
      cases hb : Nat.blt ((bytesN b).length + (bytesN b').length) 1000000000000000000
      · rw [hb] at hr; cases hr
      · rw [hb] at hr; cases hr
        refine ⟨.string (b ++ b'), ?_, ⟨_, rfl, bytesN_append b b'⟩⟩
        simp only [bytesN_size, Nat.blt_eq] at hb
        have : ¬ ((b.size + b'.size : Nat) : Int) > IntKind.i64.max := by
          have : IntKind.i64.max = 9223372036854775807 := by decide
          rw [this]; omega
        simp only [binOp, Op.stringOp, if_neg this]
        rfl
    | _ => simp [arithOp] at hr
  | _ => simp [arithOp] at hr

theorem eqGuard_plain {op : BinOp} {t : TypeId} {x y : Operand} {u v : Value} (h : ∀ c d, ¬ (u = .agg c ∧ v = .agg d)) (hn : ¬ (u = .nilIface ∧ v = .nilIface) ∨ isConstB x = true ∨ isConstB y = true) :
    (eqGuard op t x y u v).run P w = .ok () w := by
  have key : (match u, v with
      | .nilIface, .nilIface =>
        if (isConstB x || isConstB y) = true then pure () else do
          if ← Op.eqGuardIn Op.maxDepth t u v then unsupported (.noEntry "binop/eql: two nil values of an interface type with methods, neither of them the literal nil")
      | .agg _, .agg _ => do
        if !(← program).eqGuardType (← program).depth t then pure () else do
          if ← Op.eqGuardIn Op.maxDepth t u v then unsupported (.noEntry "binop/eql: two nil values of an interface type with methods, in a part of a struct or an array")
      | _, _ => (pure () : Sem Unit)).run P w = .ok () w := by
    split
    · have hc : isConstB x = true ∨ isConstB y = true := by
        rcases hn with h1 | h1
        · exact absurd ⟨rfl, rfl⟩ h1
        · exact h1
      have hc' : (isConstB x || isConstB y) = true := by rcases hc with e | e <;> simp [e]
      rw [if_pos hc']; rfl
    · exact absurd ⟨rfl, rfl⟩ (h _ _)
    · rfl
  unfold eqGuard
  cases op <;> first | rfl | exact key

def eqBin (neg : Bool) : BinOp := match neg with | true => .neq | false => .eql

theorem run_eql_of_equal {neg : Bool} {t : TypeId} {u v : Value} {b : Bool} (h1 : ∀ k n l m, ¬ (u = .int k n ∧ v = .int l m)) (h2 : ∀ c d, ¬ (u = .string c ∧ v = .string d))
    (h3 : ∀ k n l m, ¬ (u = .float k n ∧ v = .float l m)) (h4 : ∀ k n l m p q, ¬ (u = .complex k n l ∧ v = .complex m p q)) (he : (Op.equal t u v).run P w = .ok b w) :
    (binOp (eqBin neg) t u v).run P w = .ok (.bool (cond neg (!b) b)) w := by
  cases neg <;> (
    simp only [eqBin, binOp]
    split <;> first
      | (exfalso; simp_all; done)
      | (exfalso; exact h1 _ _ _ _ ⟨rfl, rfl⟩)
      | (exfalso; exact h2 _ _ ⟨rfl, rfl⟩)
      | (exfalso; exact h3 _ _ _ _ ⟨rfl, rfl⟩)
      | (exfalso; exact h4 _ _ _ _ _ _ ⟨rfl, rfl⟩)
      | simp [he])

theorem beq_decide_int (a b : Int) : (a == b) = iEq a b := (iEq_eq a b).symm

theorem eq_scalar {neg : Bool} {t : TypeId} {x y : AV} {u v : Value} {b} (hx : VR μ x u) (hy : VR μ y v) {m : Nat} (ht : m = 1 → P.underlying t = some .bool) (hr : scalarK m x y = some b) :
    (binOp (eqBin neg) t u v).run P w = .ok (.bool (cond neg (!b) b)) w ∧ (∀ c d, ¬ (u = .agg c ∧ v = .agg d)) ∧ ¬ (u = .nilIface ∧ v = .nilIface) := by
  rcases m with _ | _ | _ | m <;> cases x <;> cases y <;> simp only [scalarK, reduceCtorEq] at hr
  case zero.int.int j m k n =>
    have hx : u = .int j m := hx
    have hy : v = .int k n := hy
    subst hx; subst hy
    by_cases hk : j = k
    · subst hk
      simp only [decide_true] at hr; cases hr
      refine ⟨?_, by simp, by simp⟩
      cases neg <;> simp [eqBin, binOp, Op.intCmp, iEq_eq, bne]
    · simp [hk] at hr
  case succ.zero.bool.bool c d =>
    have hx : u = .bool c := hx
    have hy : v = .bool d := hy
    subst hx; subst hy
    cases hr
    have ht : P.underlying t = some .bool := ht rfl
    refine ⟨?_, by simp, by simp⟩
    cases neg
    · exact run_eql_bool (P := P) w t c d ht
    · exact run_neq_bool (P := P) w t c d ht
  case succ.succ.zero.str.str c d =>
    obtain ⟨b1, rfl, rfl⟩ := hx
    obtain ⟨b2, rfl, rfl⟩ := hy
    cases hr
    refine ⟨?_, by simp, by simp⟩
    rw [bytesN_eq]
    cases neg <;> simp [eqBin, binOp, Op.stringOp]

/- against nil -/
theorem run_equal_of2 {t : TypeId} {u v : Value} {b : Bool} (h : ∀ d, (Op.equalIn (d + 2) t u v).run P w = .ok b w) : (Op.equal t u v).run P w = .ok b w := h 9998
theorem run_equal_of {t : TypeId} {u v : Value} {b : Bool} (h : ∀ d, (Op.equalIn (d + 1) t u v).run P w = .ok b w) : (Op.equal t u v).run P w = .ok b w := h 9999

theorem eq_nil {neg : Bool} {t : TypeId} {m : EqMode} {x y : AV} {u v : Value} {b} (hx : VR μ x u) (hy : VR μ y v)
    (ht : match m with
      | .ptr => ∃ e, P.underlying t = some (.pointer e)
      | .slice => ∃ e, P.underlying t = some (.slice e)
      | .map => ∃ k e, P.underlying t = some (.map k e)
      | .func => ∃ p r q, P.underlying t = some (.func p r q)
      | .iface => ∃ m, P.underlying t = some (.interface m)
      | _ => False)
    (hr : (match isNilV m x, isNilV m y with | some true, some b => some b | some b, some true => some b | _, _ => none) = some b) :
    (binOp (eqBin neg) t u v).run P w = .ok (.bool (cond neg (!b) b)) w ∧ (∀ c d, ¬ (u = .agg c ∧ v = .agg d)) := by
  cases m <;> simp only at ht
  case ptr =>
    obtain ⟨e, ht⟩ := ht
    cases x <;> cases y <;> simp only [isNilV, reduceCtorEq] at hr <;> cases hr
    · obtain ⟨a, _, rfl⟩ := hx; have hy : v = .pointer none := hy; subst hy
      refine ⟨run_eql_of_equal (by simp) (by simp) (by simp) (by simp) ?_, by simp⟩
      exact run_equal_of fun d => by simp [Op.equalIn, run_underlying ht]
    · obtain ⟨a, _, rfl⟩ := hy; have hx : u = .pointer none := hx; subst hx
      refine ⟨run_eql_of_equal (by simp) (by simp) (by simp) (by simp) ?_, by simp⟩
      exact run_equal_of fun d => by simp [Op.equalIn, run_underlying ht]
    · have hx : u = .pointer none := hx; subst hx; have hy : v = .pointer none := hy; subst hy
      refine ⟨run_eql_of_equal (by simp) (by simp) (by simp) (by simp) ?_, by simp⟩
      exact run_equal_of fun d => by simp [Op.equalIn, run_underlying ht]
  case slice =>
    obtain ⟨e, ht⟩ := ht
    have sl : ∀ {b o l c es u}, VR μ (.slice b o l c es) u → ∃ a l c, u = .slice (some a) l c := by
      intro b o l c es u hu
      cases es
      · obtain ⟨_, a, rfl, _⟩ := hu; exact ⟨_, _, _, rfl⟩
      · obtain ⟨_, a, _, _, _, _, _, rfl, _⟩ := hu; exact ⟨_, _, _, rfl⟩
    cases x <;> cases y <;> simp only [isNilV, reduceCtorEq] at hr <;> cases hr
    · obtain ⟨a, l, c, rfl⟩ := sl hx; have hy : v = .slice none 0 0 := hy; subst hy
      refine ⟨run_eql_of_equal (by simp) (by simp) (by simp) (by simp) ?_, by simp⟩
      exact run_equal_of fun d => by simp [Op.equalIn, run_underlying ht]
    · obtain ⟨a, l, c, rfl⟩ := sl hy; have hx : u = .slice none 0 0 := hx; subst hx
      refine ⟨run_eql_of_equal (by simp) (by simp) (by simp) (by simp) ?_, by simp⟩
      exact run_equal_of fun d => by simp [Op.equalIn, run_underlying ht]
    · have hx : u = .slice none 0 0 := hx; subst hx; have hy : v = .slice none 0 0 := hy; subst hy
      refine ⟨run_eql_of_equal (by simp) (by simp) (by simp) (by simp) ?_, by simp⟩
      exact run_equal_of fun d => by simp [Op.equalIn, run_underlying ht]
  case map =>
    obtain ⟨k, e, ht⟩ := ht
    cases x <;> cases y <;> simp only [isNilV, reduceCtorEq] at hr <;> cases hr
    · obtain ⟨a, _, rfl⟩ := hx; have hy : v = .map none := hy; subst hy
      refine ⟨run_eql_of_equal (by simp) (by simp) (by simp) (by simp) ?_, by simp⟩
      exact run_equal_of fun d => by simp [Op.equalIn, run_underlying ht]
    · obtain ⟨a, _, rfl⟩ := hy; have hx : u = .map none := hx; subst hx
      refine ⟨run_eql_of_equal (by simp) (by simp) (by simp) (by simp) ?_, by simp⟩
      exact run_equal_of fun d => by simp [Op.equalIn, run_underlying ht]
    · have hx : u = .map none := hx; subst hx; have hy : v = .map none := hy; subst hy
      refine ⟨run_eql_of_equal (by simp) (by simp) (by simp) (by simp) ?_, by simp⟩
      exact run_equal_of fun d => by simp [Op.equalIn, run_underlying ht]
  case func =>
    obtain ⟨p, r, q, ht⟩ := ht
    cases x <;> cases y <;> simp only [isNilV, reduceCtorEq] at hr <;> cases hr
    · obtain ⟨c, rfl, _⟩ := hx; have hy : v = .nilFunc := hy; subst hy
      refine ⟨run_eql_of_equal (by simp) (by simp) (by simp) (by simp) ?_, by simp⟩
      exact run_equal_of fun d => by simp [Op.equalIn, run_underlying ht]
    · obtain ⟨c, rfl, _⟩ := hy; have hx : u = .nilFunc := hx; subst hx
      refine ⟨run_eql_of_equal (by simp) (by simp) (by simp) (by simp) ?_, by simp⟩
      exact run_equal_of fun d => by simp [Op.equalIn, run_underlying ht]
    · have hx : u = .nilFunc := hx; subst hx; have hy : v = .nilFunc := hy; subst hy
      refine ⟨run_eql_of_equal (by simp) (by simp) (by simp) (by simp) ?_, by simp⟩
      exact run_equal_of fun d => by simp [Op.equalIn, run_underlying ht]
  case iface =>
    obtain ⟨ms, ht⟩ := ht
    cases x <;> cases y <;> simp only [isNilV, reduceCtorEq] at hr <;> cases hr
    · obtain ⟨c, rfl, _⟩ := hx; have hy : v = .nilIface := hy; subst hy
      refine ⟨run_eql_of_equal (by simp) (by simp) (by simp) (by simp) ?_, by simp⟩
      exact run_equal_of fun d => by simp [Op.equalIn, run_underlying ht]
    · obtain ⟨c, rfl, _⟩ := hy; have hx : u = .nilIface := hx; subst hx
      refine ⟨run_eql_of_equal (by simp) (by simp) (by simp) (by simp) ?_, by simp⟩
      exact run_equal_of fun d => by simp [Op.equalIn, run_underlying ht]
    · have hx : u = .nilIface := hx; subst hx; have hy : v = .nilIface := hy; subst hy
      refine ⟨run_eql_of_equal (by simp) (by simp) (by simp) (by simp) ?_, by simp⟩
      exact run_equal_of fun d => by simp [Op.equalIn, run_underlying ht]

theorem scalarK_ok {k t x y} {u v : Value} {b} (ht : flatKind P t = some k) (hx : VR μ x u) (hy : VR μ y v) (hr : scalarK k x y = some b) (d : Nat) : (Op.equalIn (d + 1) t u v).run P w = .ok b w := by
  unfold flatKind at ht
  split at ht <;> cases ht
  · rename_i kd hu
    cases x <;> cases y <;> simp only [scalarK, reduceCtorEq] at hr
    rename_i j m k n
    have hx : u = .int j m := hx
    have hy : v = .int k n := hy
    subst hx; subst hy
    by_cases hk : j = k
    · subst hk; simp only [decide_true] at hr; cases hr
      simp [Op.equalIn, run_underlying hu, iEq_eq]
    · simp [hk] at hr
  · rename_i hu
    cases x <;> cases y <;> simp only [scalarK, reduceCtorEq] at hr
    rename_i m n
    have hx : u = .bool m := hx
    have hy : v = .bool n := hy
    subst hx; subst hy; cases hr
    simp [Op.equalIn, run_underlying hu]
  · rename_i hu
    cases x <;> cases y <;> simp only [scalarK, reduceCtorEq] at hr
    obtain ⟨b1, rfl, rfl⟩ := hx
    obtain ⟨b2, rfl, rfl⟩ := hy
    cases hr
    rw [bytesN_eq, ← beq_toListBytes]
    simp [Op.equalIn, run_underlying hu]

theorem flatKind_agg {t k} (ht : flatKind P t = some k) : (isAgg t).run P w = .ok false w := by
  unfold flatKind at ht
  split at ht <;> cases ht <;> (rename_i hu; simp [isAgg, run_underlying hu])

theorem fields_ok (d : Nat) (X Y : Array Value) : ∀ (fs : List Field) (i : Nat) (ks : List Nat) (as bs : List AV) (r : Bool), fieldKinds P fs i = some ks → VRs μ as (X.toList.drop i) → VRs μ bs (Y.toList.drop i) →
    cellsEq ks as bs = some r → (Op.eqFields (d + 1) X Y fs).run P w = .ok r w
  | [], i, ks, as, bs, r, hf, ha, hb, hr => by
    simp [fieldKinds] at hf; subst hf
    cases as <;> cases bs <;> simp [cellsEq] at hr
    subst hr; rfl
  | f :: fs, i, ks, as, bs, r, hf, ha, hb, hr => by
    simp only [fieldKinds] at hf
    split at hf
    · rename_i k l h1 hk hl
      cases hf
      simp at h1
      obtain ⟨hn, ho⟩ := h1
      cases as with
      | nil => simp [cellsEq] at hr
      | cons x as =>
        cases bs with
        | nil => simp [cellsEq] at hr
        | cons y bs =>
          obtain ⟨u, m, e1, hx, hm⟩ := ha
          obtain ⟨v, n, e2, hy, hn2⟩ := hb
          simp only [cellsEq] at hr
          cases hs : scalarK k x y with
          | none => rw [hs] at hr; simp at hr
          | some b =>
            cases hc : cellsEq l as bs with
            | none => rw [hs, hc] at hr; simp at hr
            | some c =>
              rw [hs, hc] at hr; cases hr
              have gu : X[i]? = some u := by
                have := congrArg (fun l : List Value => l[0]?) e1
                simpa using this
              have gv : Y[i]? = some v := by
                have := congrArg (fun l : List Value => l[0]?) e2
                simpa using this
              have dm : X.toList.drop (i + 1) = m := by
                have := congrArg List.tail e1
                simpa using this
              have dn : Y.toList.drop (i + 1) = n := by
                have := congrArg List.tail e2
                simpa using this
              have ih := fields_ok d X Y fs (i + 1) l as bs c hl (by rw [dm]; exact hm) (by rw [dn]; exact hn2) hc
              have he := scalarK_ok (P := P) (w := w) hk hx hy hs d
              have p1 : (part f.type X f.offset).run P w = .ok u w := by simp [part, flatKind_agg hk, ho, gu]
              have p2 : (part f.type Y f.offset).run P w = .ok v w := by simp [part, flatKind_agg hk, ho, gv]
              simp only [Op.eqFields, if_pos hn, Sem.run_bind, p1, p2, he, Result.andThen_ok]
              cases b
              · simp
              · simp [ih]
    · cases hf

theorem eq_cells {neg : Bool} {t : TypeId} {ks x y} {u v : Value} {b} (hx : VR μ x u) (hy : VR μ y v) (ht : structEqB P t = some ks) (hr : eqOp (.cells ks) x y = some b) :
    (binOp (eqBin neg) t u v).run P w = .ok (.bool (cond neg (!b) b)) w ∧ ∀ op a c, (eqGuard op t a c u v).run P w = .ok () w := by
  unfold structEqB at ht
  split at ht
  · rename_i fs hu
    split at ht
    · rename_i hg
      simp at hg
      simp only [eqOp] at hr
      split at hr
      · obtain ⟨X, rfl, h1, _⟩ := hx
        obtain ⟨Y, rfl, h2, _⟩ := hy
        refine ⟨run_eql_of_equal (by simp) (by simp) (by simp) (by simp) (run_equal_of2 fun d => ?_), ?_⟩
        · have hu' : P.underlying t = some (.struct (P.fieldsOf t)) := by simp [Program.fieldsOf, hu]
          rw [run_equalIn_struct (P := P) w (d + 1) t X Y hu' hg.1]
          have hf : P.fieldsOf t = fs := by simp [Program.fieldsOf, hu]
          rw [hf]
          exact fields_ok d X Y fs.toList 0 ks _ _ b ht h1 h2 hr
        · intro op a c
          unfold eqGuard
          cases op <;> first | rfl | simp [hg.2]
      · cases hr
    · cases ht
  · cases ht

end
end Go.Proofs.Ytohjmflbgohkhaa.E
