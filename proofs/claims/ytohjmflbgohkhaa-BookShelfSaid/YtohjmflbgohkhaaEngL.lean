/- append, copy, clear, make. -/
import Derived.Test.YtohjmflbgohkhaaEngK
namespace Go.Proofs.Ytohjmflbgohkhaa.E
set_option linter.all false
open Go

section
variable {P : Program} {W : World} {μ : Mu} {h : AHeap} {w : World} {nt : Nat} {env : Env} {a : Act} {B : Base}

/- what Go does where the slice has no room -/
theorem run_append_new {T : Array TypeId} {t tx ty e : TypeId} (hT0 : T[0]? = some t) (hT1 : T[1]? = some tx) {i : TypeInfo} {z : Value} (ht : P.underlying t = some (.slice e)) (hu : (∃ e', P.underlying tx = some (.slice e')) ∨ P.underlying tx = some .string)
    (hi : P.info? e = some i) (hz : i.zero = some z) (hby : i.bytes ≠ 0)
    {sa : Option Addr} {sl sc n : Nat} {xu : Value} {old new : Array Value} (hn : (Builtin.lenOf xu).run P w = .ok n w) (hroom : sc < sl + n) (hb : (sl + n) * i.bytes ≤ 140737488355328)
    (hold : (Builtin.firstCells i.size sl (.slice sa sl sc)).run P w.drew = .ok old w.drew) (hnew : (Builtin.firstCells i.size n xu).run P w.drew = .ok new w.drew) :
    ∃ cap, sl + n ≤ cap ∧ (Builtin.append_ T ty #[.slice sa sl sc, xu]).run P w =
      .ok (.slice (some ⟨w.heap.size, 0, none⟩) (sl + n) cap) (w.drew.alloc (.cells (old ++ new ++ Builtin.zeroCells z.cells (cap - (sl + n))) e)) := by
  refine ⟨grownCap w (sl + n) sc e, grownCap_ge _ _ _ _, ?_⟩
  have hfit := growslice_fits hroom hb
  have hroom' : ¬ (sl + n ≤ sc) := by omega
  have hfit' : ¬ (281474976710656 < Builtin.nextslicecap (sl + n) sc * i.bytes) := by omega
  rcases hu with ⟨e', hu⟩ | hu <;>
  simp [Builtin.append_, hT0, hT1, run_underlying ht, run_underlying hu, sizeOf, typeInfo, zeroValue, hi, hz, hn, hroom', hfit', Question.forced, hold, hnew, newRow, grownCap, hby]

/- and where it has room -/
theorem run_append_in {T : Array TypeId} {t tx ty e : TypeId} (hT0 : T[0]? = some t) (hT1 : T[1]? = some tx) {i : TypeInfo} (ht : P.underlying t = some (.slice e)) (hu : (∃ e', P.underlying tx = some (.slice e')) ∨ P.underlying tx = some .string)
    (hi : P.info? e = some i) {sa : Addr} {sl sc n : Nat} {xu : Value} {new : Array Value} (hn : (Builtin.lenOf xu).run P w = .ok n w) (hroom : sl + n ≤ sc)
    (hnew : (Builtin.firstCells i.size n xu).run P w = .ok new w) {w'} (hst : (storeCells (sa.add (sl * i.size)) new.toList).run P w = .ok () w') :
    (Builtin.append_ T ty #[.slice (some sa) sl sc, xu]).run P w = .ok (.slice (some sa) (sl + n) sc) w' := by
  rcases hu with ⟨e', hu⟩ | hu <;>
  simp [Builtin.append_, hT0, hT1, run_underlying ht, run_underlying hu, sizeOf, typeInfo, hi, hn, hroom, hnew, hst]

theorem run_append_nil0 {T : Array TypeId} {t tx ty e : TypeId} (hT0 : T[0]? = some t) (hT1 : T[1]? = some tx) {i : TypeInfo} (ht : P.underlying t = some (.slice e)) (hu : (∃ e', P.underlying tx = some (.slice e')) ∨ P.underlying tx = some .string)
    (hi : P.info? e = some i) {xu : Value} {new : Array Value} (hn : (Builtin.lenOf xu).run P w = .ok 0 w) (hnew : (Builtin.firstCells i.size 0 xu).run P w = .ok new w) :
    (Builtin.append_ T ty #[.slice none 0 0, xu]).run P w = .ok (.slice none 0 0) w := by
  rcases hu with ⟨e', hu⟩ | hu <;>
  simp [Builtin.append_, hT0, hT1, run_underlying ht, run_underlying hu, sizeOf, typeInfo, hi, hn, hnew]

theorem take_len {α} {l : List α} {n} (h : l.length = n) : l.take n = l := by rw [← h]; simp

theorem append_ok (hB : BaseOk W B) (s : Sim W μ h w) {T : Array TypeId} {t tx ty e : TypeId} (hT0 : T[0]? = some t) (hT1 : T[1]? = some tx) {i : TypeInfo} {z : Value} (ht : P.underlying t = some (.slice e))
    (hu : (∃ e', P.underlying tx = some (.slice e')) ∨ P.underlying tx = some .string) (hi : P.info? e = some i) (hz : i.zero = some z) (hzs : z.cells.size = i.size) (h0 : i.size ≠ 0) (hby : i.bytes ≠ 0)
    {sv xv r : AV} {su xu : Value} {h' : AHeap} (hs : VR μ sv su) (hx : VR μ xv xu) (hr : appendOp B h i.size i.bytes sv xv = some (r, h')) :
    ∃ μ' u w', (Builtin.append_ T ty #[su, xu]).run P w = .ok u w' ∧ VR μ' r u ∧ Stp W μ h w μ' h' w' := by
  unfold appendOp at hr
  cases hsrc : srcCells B h i.size xv with
  | none => rw [hsrc] at hr; simp at hr
  | some q =>
    obtain ⟨n, new⟩ := q
    rw [hsrc] at hr; simp only at hr
    obtain ⟨hn, hnl, hno, hnf⟩ := src_ok (P := P) hB s hx hsrc
    cases sv <;> simp only [reduceCtorEq] at hr
    case nilslice =>
      have hs : su = .slice none 0 0 := hs
      subst hs
      cases n with
      | zero =>
        cases hr
        obtain ⟨c, hc, _⟩ := hnf w s 0 (Nat.le_refl _)
        exact ⟨μ, _, w, run_append_nil0 hT0 hT1 ht hu hi hn hc, rfl, .refl s⟩
      | succ n =>
        simp only at hr
        cases hro : roomy ((n + 1) * i.bytes)
        · rw [hro] at hr; cases hr
        · rw [hro] at hr; cases hr
          obtain ⟨c, hc, hcv⟩ := hnf w.drew s.drew (n + 1) (Nat.le_refl _)
          rw [take_len hnl] at hcv
          have hb : (0 + (n + 1)) * i.bytes ≤ 140737488355328 := by rw [Nat.zero_add]; have := Nat.le_of_ble_eq_true hro; omega
          obtain ⟨cap, hcap, hrun⟩ := run_append_new (sa := none) (sl := 0) (sc := 0) (ty := ty) hT0 hT1 ht hu hi hz hby hn (by omega) hb (by simp [Builtin.firstCells]; rfl) hc
          have hcl := VRs.length hcv
          simp at hcl
          have st := Stp.new (t := e) s.drew (cs := new) (c := #[] ++ c ++ Builtin.zeroCells z.cells (cap - (0 + (n + 1)))) (by simp [hcl]; exact hcv) hno (by simp; omega)
          refine ⟨_, _, _, hrun, ?_, (Stp.drew s).trans s st⟩
          rw [show 0 + (n + 1) = n + 1 by omega]
          refine VR.slice_mk (Nat.le_refl _) (by omega) (.inl (by simp [plOf, muNew])) (by simp) ?_
          intro e' he; cases he
          refine ⟨_, _, rfl, by simp [muNew]; rfl, ?_⟩
          simp [size_zeroCells, hzs]
          rw [hcl] at hnl
          rw [hnl, ← Nat.add_mul]
          exact Nat.mul_le_mul_right _ (by omega)
    case slice b o len cap es =>
      obtain ⟨sa, cap', rfl, l1, l2, ha, hx0, hx1⟩ := hs.slice_inv
      split at hr
      · rename_i hle
        have hle : len + n ≤ cap := by simpa using hle
        split at hr
        · rename_i h2 hst
          cases hr
          obtain ⟨c, hc, hcv⟩ := hnf w s n (Nat.le_refl _)
          rw [take_len hnl] at hcv
          have hpl : plOf μ b (o + len * i.size) = some (sa.add (len * i.size)) ∨ new = [] := by
            rcases ha with ha | ha
            · exact .inl (plOf_add ha)
            · right; apply List.eq_nil_of_length_eq_zero; rw [hnl, show n = 0 by omega]; simp
          obtain ⟨w', hsw, st⟩ := store_any (P := P) s hst hpl hcv hno
          refine ⟨μ, _, w', run_append_in hT0 hT1 ht hu hi hn (by omega) hc hsw, ?_, st⟩
          exact VR.slice_mk hle l2 ha hx0 hx1
        · cases hr
      · rename_i hle
        have hle : cap < len + n := by
          rw [← Nat.not_le]; intro hc; rw [Nat.ble_eq_true_of_le hc] at hle; cases hle
        split at hr
        · rename_i old hro hold
          have hb : (len + n) * i.bytes ≤ 140737488355328 := by have := Nat.le_of_ble_eq_true hro; omega
          have hol := loadN_len hold
          -- what is there, read anew
          have OLD : ∀ w2, Sim W μ h w2 → ∃ c, (Builtin.firstCells i.size len (.slice (some sa) len cap')).run P w2 = .ok c w2 ∧ VRs μ old c.toList ∧ allOneP old := by
            intro w2 s2
            simp only [Builtin.firstCells]
            rcases ha with ha | ha
            · exact load_any (P := P) hB s2 hold ha
            · have : len = 0 := by omega
              subst this
              have : old = [] := List.eq_nil_of_length_eq_zero (by simpa using hol)
              subst this
              exact ⟨#[], by simp [loadCells, loadCellsFrom], rfl, trivial⟩
          -- the way with a new block
          have NEW : cap' < len + n → ∃ μ' u w', (Builtin.append_ T ty #[.slice (some sa) len cap', xu]).run P w = .ok u w' ∧
              VR μ' (.slice (.own h.length) 0 (len + n) (len + n) (some i.size)) u ∧ Stp W μ h w μ' (h ++ [.cells (old ++ new)]) w' := by
            intro hroom
            obtain ⟨c, hc, hcv⟩ := hnf w.drew s.drew n (Nat.le_refl _)
            rw [take_len hnl] at hcv
            obtain ⟨d, hd, hdv, hdo⟩ := OLD w.drew s.drew
            obtain ⟨capN, hcap, hrun⟩ := run_append_new (ty := ty) hT0 hT1 ht hu hi hz hby hn hroom hb hd hc
            have hcl := VRs.length hcv
            have hdl := VRs.length hdv
            simp at hcl hdl
            have hsum : (old ++ new).length = (len + n) * i.size := by rw [List.length_append, hol, hnl, Nat.add_mul]
            have st := Stp.new (t := e) s.drew (cs := old ++ new) (c := d ++ c ++ Builtin.zeroCells z.cells (capN - (len + n))) (by
              have : (d ++ c ++ Builtin.zeroCells z.cells (capN - (len + n))).toList.take (old ++ new).length = d.toList ++ c.toList := by
                simp only [Array.toList_append, List.length_append, hcl, hdl]
                have e7 : (d.toList ++ c.toList).length = d.size + c.size := by simp
                rw [← e7]; exact List.take_left
              rw [this]; exact hdv.append hcv) (hdo.append hno) (by simp; omega)
            refine ⟨_, _, _, hrun, ?_, (Stp.drew s).trans s st⟩
            refine VR.slice_mk (Nat.le_refl _) hcap (.inl (by simp [plOf, muNew])) (by simp) ?_
            intro e' he; cases he
            refine ⟨_, _, rfl, by simp [muNew]; rfl, ?_⟩
            simp [size_zeroCells, hzs]
            rw [hcl] at hnl
            rw [hdl] at hol
            rw [hnl, hol, ← Nat.add_mul, ← Nat.add_mul]
            exact Nat.mul_le_mul_right _ (by omega)
          split at hr
          · cases hr
            exact NEW (by rw [hx0 rfl]; omega)
          · rename_i e'
            split at hr
            · rename_i i0
              split at hr
              · rename_i cs hcs
                split at hr
                · rename_i hend
                  cases hr
                  simp at hend
                  obtain ⟨hend, rfl⟩ := hend
                  have hi0 := hcells_eq hcs
                  by_cases hroom : cap' < len + n
                  · obtain ⟨μ', u, w', e1, e2, e3⟩ := NEW hroom
                    refine ⟨μ', u, w', e1, e2, ?_⟩
                    have k := e3.trans s (Stp.kill (i := i0) e3.sim)
                    have : (h ++ [AObj.cells (old ++ new)]).set i0 .dead = h.set i0 .dead ++ [AObj.cells (old ++ new)] :=
                      List.set_append_left _ _ (List.getElem?_eq_some_iff.1 hi0).1
                    rw [this] at k; exact k
                  · -- in place
                    obtain ⟨i1, p, hbi, hp, hroomp⟩ := hx1 _ rfl
                    cases hbi
                    have ha : plOf μ (.own i0) o = some sa := by
                      rcases ha with ha | ha
                      · exact ha
                      · omega
                    have hsa : sa = ⟨p.blk, p.off + o, none⟩ := by simp [plOf, hp] at ha; exact ha.symm
                    obtain ⟨p', c0, t0, fr, hp', hw0, hfr, hsz, hle0, hcs0, hco0⟩ := s.obj i0 _ hi0
                    rw [hp] at hp'; cases hp'
                    obtain ⟨c, hc, hcv⟩ := hnf w s n (Nat.le_refl _)
                    rw [take_len hnl] at hcv
                    have hcl := VRs.length hcv
                    have hmul : (len + n) * i.size ≤ cap' * i.size := Nat.mul_le_mul_right _ (by omega)
                    rw [Nat.add_mul] at hmul
                    have hcl2 : c.toList.length = n * i.size := by rw [← hcl, hnl]
                    obtain ⟨w', hrw, hb', hx', hz', q1, q2, q3⟩ := run_storeCells_gen P p.blk (p.off + (o + len * i.size)) c.toList 0 c0 w t0 fr hw0 hfr (by omega) (mem_one hcv hno)
                    have hadd : sa.add (len * i.size) = ⟨p.blk, p.off + (o + len * i.size), none⟩ := by rw [hsa, add_some, Nat.add_assoc]
                    refine ⟨_, _, w', run_append_in hT0 hT1 ht hu hi hn (by omega) hc (by rw [hadd]; exact hrw), ?_, Stp.regrow s (o := o) hi0 hp hw0 (by omega) hb' hx' hz' q1 q2 q3 ?_ ?_ ?_ ?_ ?_⟩
                    · rw [hsa]
                      refine VR.slice_mk (Nat.le_refl _) (by omega) (.inl (by simp [plOf, muNew])) (by simp) ?_
                      intro e' he; cases he
                      exact ⟨_, _, rfl, by simp [muNew]; rfl, by simp; omega⟩
                    · have hs2 : (c0.toList.take (p.off + (o + len * i.size) + 0) ++ c.toList ++ c0.toList.drop (p.off + (o + len * i.size) + 0 + c.toList.length)).length = c0.size := by
                        simp; simp at hcl2; omega
                      rcases hfr with hfr | hfr
                      · exact .inl hfr
                      · right; show (List.length _) ≤ _; rw [hs2]; exact hfr
                    · have hs2 : (c0.toList.take (p.off + (o + len * i.size) + 0) ++ c.toList ++ c0.toList.drop (p.off + (o + len * i.size) + 0 + c.toList.length)).length = c0.size := by
                        simp; simp at hcl2; omega
                      exact hsz.trans hs2.symm
                    · rw [List.length_append, hol, hnl]; omega
                    · have hold2 : VRs μ old (((c0.toList.drop p.off).take cs.length).drop o |>.take (len * i.size)) := by
                        simp only [loadN, hcs] at hold
                        obtain ⟨rfl, _⟩ := takeN_eq hold
                        exact (hcs0.drop o).take _
                      have e9 : ((c0.toList.take (p.off + (o + len * i.size) + 0) ++ c.toList ++ c0.toList.drop (p.off + (o + len * i.size) + 0 + c.toList.length)).drop (p.off + o)).take (old ++ new).length =
                          ((((c0.toList.drop p.off).take cs.length).drop o).take (len * i.size)) ++ c.toList := by
                        apply List.ext_getElem?
                        intro j
                        have hcl3 : c.size = n * i.size := by simpa using hcl2
                        simp only [List.length_append, hol, hnl, List.getElem?_take, List.getElem?_drop, List.getElem?_append, List.length_take, List.length_drop, List.append_assoc, Nat.add_zero, Array.length_toList, hcl3]
                        by_cases h1 : j < len * i.size
                        · rw [if_pos (by omega), if_pos (by omega), if_pos (by omega), if_pos (by omega), if_pos (by omega), if_pos (by omega)]
                          congr 1; omega
                        · by_cases h2 : j < len * i.size + n * i.size
                          · rw [if_pos (by omega), if_neg (by omega), if_pos (by omega), if_neg (by omega)]
                            congr 1; omega
                          · rw [if_neg (by omega), if_neg (by omega)]
                            rw [List.getElem?_eq_none]
                            simp; omega
                      show VRs μ _ (List.take _ (List.drop (p.off + o) (Array.mk _).toList))
                      rw [e9]
                      exact hold2.append hcv
                    · exact (OLD w s).choose_spec.2.2.append hno
                · cases hr
              · cases hr
            · cases hr
        · cases hr

end
end Go.Proofs.Ytohjmflbgohkhaa.E
