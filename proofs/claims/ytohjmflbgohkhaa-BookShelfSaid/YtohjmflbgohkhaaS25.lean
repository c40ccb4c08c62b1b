/- BookShelf: whatever the number of leaves and the script, the law returns true, and its arguments read as they did. No condition. -/
import Derived.Test.YtohjmflbgohkhaaS24
import Derived.Test.YtohjmflbgohkhaaEngG2
import Derived.Test.YtohjmflbgohkhaaRows
namespace Go.Proofs.Ytohjmflbgohkhaa
set_option linter.all false
open Go Go.ChangeShapes Go.WideShapes Go.ChangeAt Go.RowKit

theorem Try.own : ownKnob Try.prog.godebug = none := by kernel_rfl
theorem Try.laidOut : laidOutB Try.prog = true := by kernel_rfl

theorem E.rI64 : E.Reads Try.prog 3 (E.Dec.int .i64) := .int Try.underlying3 (by kernel_rfl)
theorem E.rU8 : E.Reads Try.prog 5 (E.Dec.int .u8) := .int Try.underlying5 (by kernel_rfl)
theorem E.rOp : E.Reads Try.prog 44 E.decOp :=
  .struct Try.underlying44 (by kernel_rfl) (.cons rfl E.rU8 (.cons rfl E.rI64 (.cons rfl (.slice Try.underlying22 (by kernel_rfl) E.rU8 (by decide)) (.cons rfl E.rI64 (.cons rfl (.slice Try.underlying32 (by kernel_rfl) E.rI64 (by decide)) .nil)))))

set_option maxRecDepth 100000 in
theorem bookShelf_lifted (os : Os) (started : os.Started) (H : Type) (enc : TypeId × Value → H) :
    ReturnsInHanded {} Try.checked os 4 .any (Rows.bookShelfSpec.pre6 enc Try.prog Try.f4 Rows.bookShelfRow.domain false) (Rows.bookShelfSpec.post enc Try.prog Try.f4 false true false false) := by
  refine returnsInHanded_of_change (C := Try.checked) Try.own started (by kernel_rfl) Try.func4
    (ChangeSpec.witness6 (enc := enc) (C := Try.checked) false ⟨#[], #[.int .i64 0, .slice none 0 0], []⟩ 8 (by kernel_rfl) (by kernel_rfl) (by kernel_rfl) (by kernel_rfl)) ?_
  intro W base args ds gs before hval0 hW hcnd _
  have hval : ∀ (j : Nat) t v, Try.f4.params[j]? = some t → args[j]? = some v → Value.okWide Try.prog W .any base t v := hval0
  have hW' : DataW.Whole enc Try.prog Try.f4.params.toList Rows.bookShelfSpec.vars false W args.toList ds gs before := hW
  obtain ⟨p, q, hA0, hV, rfl, hfz, hnd⟩ := hW
  have hA : DataW.TrodAll enc Try.prog W 0 (fun _ => true) true Try.f4.params.toList args.toList ds p := hA0
  rw [Try.params4] at hA hval
  obtain ⟨v0, v1, d0, d1, p0, p1, rfl, rfl, rfl, h0, h1⟩ := trodAll_two hA
  obtain ⟨g0, a0, m0, -⟩ := E.Top.int (P := Try.prog) Try.underlying3 (by kernel_rfl) H enc W base v0 _ _ (hval 0 3 v0 rfl rfl) h0
  obtain ⟨g1, a1, m1⟩ := E.Top.slice (P := Try.prog) Try.underlying37 (by kernel_rfl) E.rOp (by decide) H enc W base v1 _ _ (hval 1 37 v1 rfl rfl) h1
  refine E.yes_post (G := E.G) (avs := [E.avOf v0, E.avOf v1]) E.mixedOk E.G_ok Try.laidOut rfl (by kernel_rfl) (by kernel_rfl) Try.underlying4 hW' ⟨rfl, rfl, rfl⟩ (fun μ => ⟨_, _, rfl, g0 μ, _, _, rfl, g1 μ, rfl⟩) ?_
  rw [List.head_eq_of_cons_eq m0]
  exact E.shelf_law (E.script_of m1) fun _ => rfl

theorem bookShelf_holds : Rows.BookShelfSaid :=
  OpenClaim.holds_of_wide 4 Try.f4 rfl rfl rfl rfl rfl rfl rfl ⟨rfl, rfl, rfl, rfl, rfl⟩ rfl rfl rfl rfl rfl (by kernel_rfl) Try.func4 (by kernel_rfl)
    (of_decide_eq_true (by kernel_rfl)) (by unfold Func.isWrapper; first | (rw [if_pos (by decide +kernel)]; kernel_rfl) | (rw [if_neg (by decide +kernel)]; exact ⟨rfl, rfl⟩))
    (fun os started H enc _ => bookShelf_lifted os started H enc)

end Go.Proofs.Ytohjmflbgohkhaa
#print axioms Go.Proofs.Ytohjmflbgohkhaa.bookShelf_holds
