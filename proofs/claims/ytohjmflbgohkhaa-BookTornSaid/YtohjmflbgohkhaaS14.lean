/- BookTorn: whatever the leaf, the two lists, what is kept, and from where it is torn, the law returns true, and its arguments read as they did. No condition. -/
import Derived.Test.YtohjmflbgohkhaaS13
import Derived.Test.YtohjmflbgohkhaaEngG2
import Derived.Test.YtohjmflbgohkhaaRows
namespace Go.Proofs.Ytohjmflbgohkhaa
set_option linter.all false
open Go Go.ChangeShapes Go.WideShapes Go.ChangeAt Go.RowKit

namespace E
theorem ints_get {B : Base} {k : IntKind} {b o : Nat} {l : List Int} (h : ∀ (i : Nat) a, l[i]? = some a → ∃ c, baseCells B b (o + i * 1) 1 = some c ∧ (c = [.int k a] ∧ (Lit.int k a).wf = true)) :
    baseCells B b o (l.map (AV.int k)).length = some (l.map (AV.int k)) := by
  refine baseCells_of _ _ fun i v hv => ?_
  rw [List.getElem?_map, Option.map_eq_some_iff] at hv
  obtain ⟨a, ha, rfl⟩ := hv
  obtain ⟨c, h1, h2, -⟩ := h i a ha
  subst h2
  rw [Nat.mul_one] at h1
  simp only [baseCells] at h1
  cases hb : B b (o + i) with
  | none => rw [hb] at h1; cases h1
  | some w => rw [hb] at h1; cases h1; rfl

theorem src_of {B : Base} {bv : AV} {l : List Int} (h : (Dec.slice (Dec.int .u8)).rd B [bv] l) : Src B bv (l.map (AV.int .u8)) := by
  rcases h with ⟨h1, rfl⟩ | ⟨b, o, cap, h1, h2, -, h3⟩
  · cases h1; exact .inl ⟨rfl, rfl⟩
  · cases h1
    exact .inr ⟨b, o, cap, none, by rw [List.length_map], ints_get h3⟩
theorem bytes_of (l : List Int) : Bytes (l.map (AV.int .u8)) := by
  intro c hc
  obtain ⟨n, -, rfl⟩ := List.mem_map.1 hc
  exact ⟨n, rfl⟩

theorem torn_ok {B : Base} {leaf kept frm : Int} {ov nv : AV} {ol nl : List Int} (ho : (Dec.slice (Dec.int .u8)).rd B [ov] ol) (hn : (Dec.slice (Dec.int .u8)).rd B [nv] nl) :
    WC B G 3 [.int .i64 leaf, ov, nv, .int .i64 kept, .int .i64 frm] [] fun v _ => v = .bool true := by
  by_cases hl : 64 < (ol.map (AV.int .u8)).length ∨ 64 < (nl.map (AV.int .u8)).length
  · exact torn_long (src_of ho) (src_of hn) hl rfl
  · exact torn_short (src_of ho) (src_of hn) (by omega) (by omega) (bytes_of _) (bytes_of _) fun _ => rfl
end E

theorem Try.own : ownKnob Try.prog.godebug = none := by kernel_rfl
theorem Try.laidOut : laidOutB Try.prog = true := by kernel_rfl
theorem Try.cells3 : Try.prog.cellsOf 3 = 1 := by kernel_rfl
theorem Try.cells5 : Try.prog.cellsOf 5 = 1 := by kernel_rfl
theorem Try.cells22 : Try.prog.cellsOf 22 = 1 := by kernel_rfl

set_option maxRecDepth 100000 in
theorem bookTorn_lifted (os : Os) (started : os.Started) (H : Type) (enc : TypeId × Value → H) :
    ReturnsInHanded {} Try.checked os 3 .any (Rows.bookTornSpec.pre6 enc Try.prog Try.f3 Rows.bookTornRow.domain false) (Rows.bookTornSpec.post enc Try.prog Try.f3 false true false false) := by
  refine returnsInHanded_of_change (C := Try.checked) Try.own started (by kernel_rfl) Try.func3
    (ChangeSpec.witness6 (enc := enc) (C := Try.checked) false ⟨#[], #[.int .i64 0, .slice none 0 0, .slice none 0 0, .int .i64 0, .int .i64 0], []⟩ 8 (by kernel_rfl) (by kernel_rfl) (by kernel_rfl) (by kernel_rfl)) ?_
  intro W base args ds gs before hval0 hW hcnd _
  have hval : ∀ (j : Nat) t v, Try.f3.params[j]? = some t → args[j]? = some v → Value.okWide Try.prog W .any base t v := hval0
  have hW' : DataW.Whole enc Try.prog Try.f3.params.toList Rows.bookTornSpec.vars false W args.toList ds gs before := hW
  obtain ⟨p, q, hA0, hV, rfl, hfz, hnd⟩ := hW
  have hA : DataW.TrodAll enc Try.prog W 0 (fun _ => true) true Try.f3.params.toList args.toList ds p := hA0
  rw [Try.params3] at hA hval
  obtain ⟨v0, vs0, d0, ds0, p0, q0, hargs, rfl, rfl, h0, r0⟩ := trodAll_cons hA
  obtain ⟨v1, vs1, d1, ds1, p1, q1, rfl, rfl, rfl, h1, r1⟩ := trodAll_cons r0
  obtain ⟨v2, vs2, d2, ds2, p2, q2, rfl, rfl, rfl, h2, r2⟩ := trodAll_cons r1
  obtain ⟨v3, vs3, d3, ds3, p3, q3, rfl, rfl, rfl, h3, r3⟩ := trodAll_cons r2
  obtain ⟨v4, vs4, d4, ds4, p4, q4, rfl, rfl, rfl, h4, r4⟩ := trodAll_cons r3
  obtain ⟨rfl, rfl, rfl⟩ := trodAll_nil r4
  have hargs' : args = #[v0, v1, v2, v3, v4] := by cases args; simp_all
  subst hargs'
  have tInt := E.Top.int (P := Try.prog) Try.underlying3 Try.cells3
  have tBytes := E.Top.slice (P := Try.prog) Try.underlying22 Try.cells22 (E.Reads.int Try.underlying5 Try.cells5) (by decide)
  obtain ⟨g0, a0, m0, -⟩ := tInt H enc W base v0 _ _ (hval 0 3 v0 rfl rfl) h0
  obtain ⟨g1, a1, m1⟩ := tBytes H enc W base v1 _ _ (hval 1 22 v1 rfl rfl) h1
  obtain ⟨g2, a2, m2⟩ := tBytes H enc W base v2 _ _ (hval 2 22 v2 rfl rfl) h2
  obtain ⟨g3, a3, m3, -⟩ := tInt H enc W base v3 _ _ (hval 3 3 v3 rfl rfl) h3
  obtain ⟨g4, a4, m4, -⟩ := tInt H enc W base v4 _ _ (hval 4 3 v4 rfl rfl) h4
  refine E.yes_post (G := E.G) (avs := [E.avOf v0, E.avOf v1, E.avOf v2, E.avOf v3, E.avOf v4]) E.mixedOk E.G_ok Try.laidOut rfl (by kernel_rfl) (by kernel_rfl) Try.underlying4 hW' ⟨rfl, rfl, rfl⟩ (fun μ => ⟨_, _, rfl, g0 μ, _, _, rfl, g1 μ, _, _, rfl, g2 μ, _, _, rfl, g3 μ, _, _, rfl, g4 μ, rfl⟩) ?_
  rw [List.head_eq_of_cons_eq m0, List.head_eq_of_cons_eq m3, List.head_eq_of_cons_eq m4]
  exact E.torn_ok m1 m2

theorem bookTorn_holds : Rows.BookTornSaid :=
  OpenClaim.holds_of_wide 3 Try.f3 rfl rfl rfl rfl rfl rfl rfl ⟨rfl, rfl, rfl, rfl, rfl⟩ rfl rfl rfl rfl rfl (by kernel_rfl) Try.func3 (by kernel_rfl)
    (of_decide_eq_true (by kernel_rfl)) (by unfold Func.isWrapper; first | (rw [if_pos (by decide +kernel)]; kernel_rfl) | (rw [if_neg (by decide +kernel)]; exact ⟨rfl, rfl⟩))
    (fun os started H enc _ => bookTorn_lifted os started H enc)

end Go.Proofs.Ytohjmflbgohkhaa
#print axioms Go.Proofs.Ytohjmflbgohkhaa.bookTorn_holds
