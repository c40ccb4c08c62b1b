/- The functions of the abstract machine are the program's: written by a program of this session's (geng.py). -/
import Derived.Test.YtohjmflbgohkhaaEngZK
import Derived.Test.YtohjmflbgohkhaaEngC
import Derived.Test.YtohjmflbgohkhaaProg
namespace Go.Proofs.Ytohjmflbgohkhaa.E
set_option linter.all false
open Go

theorem gcc {c : Bool} {x y : Option AFunc} {af : AFunc} {Q : Prop} (h : cond c x y = some af) (h1 : x = some af → Q) (h2 : y = some af → Q) : Q := by
  cases c
  · exact h2 h
  · exact h1 h
theorem glf {f k : Nat} {a af : AFunc} {Q : Nat → AFunc → Prop} (hq : Q k a) (h : cond (Nat.beq f k) (some a) none = some af) : Q f af := by
  cases hb : Nat.beq f k
  · rw [hb] at h; cases h
  · rw [hb] at h; cases h; rw [Nat.eq_of_beq_eq_true hb]; exact hq
def Q1 (P : Program) (f : Nat) (af : AFunc) : Prop := (af.ext = none → FuncOk P f af) ∧ ∀ F, af.ext = some F → ExtOk P f F

set_option maxRecDepth 100000 in
theorem q3 : Q1 Try.prog 3 a3 := okOf Try.func3 (by kernel_rfl)
set_option maxRecDepth 100000 in
theorem q4 : Q1 Try.prog 4 a4 := okOf Try.func4 (by kernel_rfl)
set_option maxRecDepth 100000 in
theorem q5 : Q1 Try.prog 5 a5 := okOf Try.func5 (by kernel_rfl)
set_option maxRecDepth 100000 in
theorem q6 : Q1 Try.prog 6 a6 := okOf Try.func6 (by kernel_rfl)
set_option maxRecDepth 100000 in
theorem q7 : Q1 Try.prog 7 a7 := okOf Try.func7 (by kernel_rfl)
set_option maxRecDepth 100000 in
theorem q8 : Q1 Try.prog 8 a8 := okOf Try.func8 (by kernel_rfl)
set_option maxRecDepth 100000 in
theorem q9 : Q1 Try.prog 9 a9 := okOf Try.func9 (by kernel_rfl)
set_option maxRecDepth 100000 in
theorem q10 : Q1 Try.prog 10 a10 := okOf Try.func10 (by kernel_rfl)
set_option maxRecDepth 100000 in
theorem q11 : Q1 Try.prog 11 a11 := okOf Try.func11 (by kernel_rfl)
set_option maxRecDepth 100000 in
theorem q12 : Q1 Try.prog 12 a12 := okOf Try.func12 (by kernel_rfl)
set_option maxRecDepth 100000 in
theorem q13 : Q1 Try.prog 13 a13 := okOf Try.func13 (by kernel_rfl)
set_option maxRecDepth 100000 in
theorem q14 : Q1 Try.prog 14 a14 := okOf Try.func14 (by kernel_rfl)
set_option maxRecDepth 100000 in
theorem q15 : Q1 Try.prog 15 a15 := okOf Try.func15 (by kernel_rfl)
set_option maxRecDepth 100000 in
theorem q16 : Q1 Try.prog 16 a16 := okOf Try.func16 (by kernel_rfl)
set_option maxRecDepth 100000 in
theorem q17 : Q1 Try.prog 17 a17 := okOf Try.func17 (by kernel_rfl)
set_option maxRecDepth 100000 in
theorem q18 : Q1 Try.prog 18 a18 := okOf Try.func18 (by kernel_rfl)
set_option maxRecDepth 100000 in
theorem q19 : Q1 Try.prog 19 a19 := okOf Try.func19 (by kernel_rfl)
set_option maxRecDepth 100000 in
theorem q20 : Q1 Try.prog 20 a20 := okOf Try.func20 (by kernel_rfl)
set_option maxRecDepth 100000 in
theorem q21 : Q1 Try.prog 21 a21 := okOf Try.func21 (by kernel_rfl)
set_option maxRecDepth 100000 in
theorem q22 : Q1 Try.prog 22 a22 := okOf Try.func22 (by kernel_rfl)
set_option maxRecDepth 100000 in
theorem q23 : Q1 Try.prog 23 a23 := okOf Try.func23 (by kernel_rfl)
set_option maxRecDepth 100000 in
theorem q24 : Q1 Try.prog 24 a24 := okOf Try.func24 (by kernel_rfl)
set_option maxRecDepth 100000 in
theorem q25 : Q1 Try.prog 25 a25 := okOf Try.func25 (by kernel_rfl)
set_option maxRecDepth 100000 in
theorem q26 : Q1 Try.prog 26 a26 := okOf Try.func26 (by kernel_rfl)
set_option maxRecDepth 100000 in
theorem q27 : Q1 Try.prog 27 a27 := okOf Try.func27 (by kernel_rfl)
set_option maxRecDepth 100000 in
theorem q28 : Q1 Try.prog 28 a28 := okOf Try.func28 (by kernel_rfl)
set_option maxRecDepth 100000 in
theorem q29 : Q1 Try.prog 29 a29 := okOf Try.func29 (by kernel_rfl)
set_option maxRecDepth 100000 in
theorem q30 : Q1 Try.prog 30 a30 := okOf Try.func30 (by kernel_rfl)
set_option maxRecDepth 100000 in
theorem q31 : Q1 Try.prog 31 a31 := okOf Try.func31 (by kernel_rfl)
set_option maxRecDepth 100000 in
theorem q32 : Q1 Try.prog 32 a32 := okOf Try.func32 (by kernel_rfl)
theorem mixedOk : Try.prog.follows .mixedOrders = true := by kernel_rfl
theorem G0_ok : GOk Try.prog G0 := fun f af h => gcc h (fun h => gcc h (fun h => gcc h (fun h => gcc h (fun h => glf (Q := Q1 Try.prog) (q3) h) (fun h => gcc h (fun h => glf (Q := Q1 Try.prog) (q4) h) (fun h => glf (Q := Q1 Try.prog) (q5) h))) (fun h => gcc h (fun h => gcc h (fun h => glf (Q := Q1 Try.prog) (q6) h) (fun h => glf (Q := Q1 Try.prog) (q7) h)) (fun h => gcc h (fun h => glf (Q := Q1 Try.prog) (q8) h) (fun h => glf (Q := Q1 Try.prog) (q9) h)))) (fun h => gcc h (fun h => gcc h (fun h => gcc h (fun h => glf (Q := Q1 Try.prog) (q10) h) (fun h => glf (Q := Q1 Try.prog) (q11) h)) (fun h => gcc h (fun h => glf (Q := Q1 Try.prog) (q12) h) (fun h => glf (Q := Q1 Try.prog) (q13) h))) (fun h => gcc h (fun h => gcc h (fun h => glf (Q := Q1 Try.prog) (q14) h) (fun h => glf (Q := Q1 Try.prog) (q15) h)) (fun h => gcc h (fun h => glf (Q := Q1 Try.prog) (q16) h) (fun h => glf (Q := Q1 Try.prog) (q17) h))))) (fun h => gcc h (fun h => gcc h (fun h => gcc h (fun h => glf (Q := Q1 Try.prog) (q18) h) (fun h => gcc h (fun h => glf (Q := Q1 Try.prog) (q19) h) (fun h => glf (Q := Q1 Try.prog) (q20) h))) (fun h => gcc h (fun h => gcc h (fun h => glf (Q := Q1 Try.prog) (q21) h) (fun h => glf (Q := Q1 Try.prog) (q22) h)) (fun h => gcc h (fun h => glf (Q := Q1 Try.prog) (q23) h) (fun h => glf (Q := Q1 Try.prog) (q24) h)))) (fun h => gcc h (fun h => gcc h (fun h => gcc h (fun h => glf (Q := Q1 Try.prog) (q25) h) (fun h => glf (Q := Q1 Try.prog) (q26) h)) (fun h => gcc h (fun h => glf (Q := Q1 Try.prog) (q27) h) (fun h => glf (Q := Q1 Try.prog) (q28) h))) (fun h => gcc h (fun h => gcc h (fun h => glf (Q := Q1 Try.prog) (q29) h) (fun h => glf (Q := Q1 Try.prog) (q30) h)) (fun h => gcc h (fun h => glf (Q := Q1 Try.prog) (q31) h) (fun h => glf (Q := Q1 Try.prog) (q32) h)))))
theorem name5 : NameOk Try.prog 5 := ⟨Try.f5, _, Try.func5, by kernel_rfl, rfl⟩
set_option maxRecDepth 1000000 in
theorem run5 : (callN (fun _ _ => none) G0 20000 5 [] []).map Prod.fst = some (.bool true) := by kernel_rfl
theorem xq5 : Q1 Try.prog 5 x5 := ⟨(fun h => by cases h), fun F h => by
  cases h
  obtain ⟨⟨v, h'⟩, hr, hv⟩ := Option.map_eq_some_iff.1 run5
  cases hv
  exact closed_ok mixedOk G0_ok name5 hr⟩
theorem G_ok : GOk Try.prog G := fun f af h => gcc h (fun h => gcc h (fun h => gcc h (fun h => gcc h (fun h => glf (Q := Q1 Try.prog) (q3) h) (fun h => gcc h (fun h => glf (Q := Q1 Try.prog) (q4) h) (fun h => glf (Q := Q1 Try.prog) (xq5) h))) (fun h => gcc h (fun h => gcc h (fun h => glf (Q := Q1 Try.prog) (q6) h) (fun h => glf (Q := Q1 Try.prog) (q7) h)) (fun h => gcc h (fun h => glf (Q := Q1 Try.prog) (q8) h) (fun h => glf (Q := Q1 Try.prog) (q9) h)))) (fun h => gcc h (fun h => gcc h (fun h => gcc h (fun h => glf (Q := Q1 Try.prog) (q10) h) (fun h => glf (Q := Q1 Try.prog) (q11) h)) (fun h => gcc h (fun h => glf (Q := Q1 Try.prog) (q12) h) (fun h => glf (Q := Q1 Try.prog) (q13) h))) (fun h => gcc h (fun h => gcc h (fun h => glf (Q := Q1 Try.prog) (q14) h) (fun h => glf (Q := Q1 Try.prog) (q15) h)) (fun h => gcc h (fun h => glf (Q := Q1 Try.prog) (q16) h) (fun h => glf (Q := Q1 Try.prog) (q17) h))))) (fun h => gcc h (fun h => gcc h (fun h => gcc h (fun h => glf (Q := Q1 Try.prog) (q18) h) (fun h => gcc h (fun h => glf (Q := Q1 Try.prog) (q19) h) (fun h => glf (Q := Q1 Try.prog) (q20) h))) (fun h => gcc h (fun h => gcc h (fun h => glf (Q := Q1 Try.prog) (q21) h) (fun h => glf (Q := Q1 Try.prog) (q22) h)) (fun h => gcc h (fun h => glf (Q := Q1 Try.prog) (q23) h) (fun h => glf (Q := Q1 Try.prog) (q24) h)))) (fun h => gcc h (fun h => gcc h (fun h => gcc h (fun h => glf (Q := Q1 Try.prog) (q25) h) (fun h => glf (Q := Q1 Try.prog) (q26) h)) (fun h => gcc h (fun h => glf (Q := Q1 Try.prog) (q27) h) (fun h => glf (Q := Q1 Try.prog) (q28) h))) (fun h => gcc h (fun h => gcc h (fun h => glf (Q := Q1 Try.prog) (q29) h) (fun h => glf (Q := Q1 Try.prog) (q30) h)) (fun h => gcc h (fun h => glf (Q := Q1 Try.prog) (q31) h) (fun h => glf (Q := Q1 Try.prog) (q32) h)))))
end Go.Proofs.Ytohjmflbgohkhaa.E

