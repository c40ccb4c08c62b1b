/- The rest of the operations, one by one. -/
import Derived.Test.YtohjmflbgohkhaaEngH
namespace Go.Proofs.Ytohjmflbgohkhaa.E
set_option linter.all false
open Go

section
variable {P : Program} {W : World} {μ : Mu} {h : AHeap} {w : World} {nt : Nat} {env : Env} {a : Act}

theorem VR.int_inv {k n} {v : Value} (h : VR μ (.int k n) v) : v = .int k n := h
theorem VR.bool_inv {b} {v : Value} (h : VR μ (.bool b) v) : v = .bool b := h

/- slices, whatever is known of their capacity -/
theorem VR.slice_inv {b o len cap es} {v : Value} (h : VR μ (.slice b o len cap es) v) :
    ∃ a cap', v = .slice (some a) len cap' ∧ len ≤ cap ∧ cap ≤ cap' ∧ (plOf μ b o = some a ∨ cap' = 0) ∧ (es = none → cap' = cap) ∧
      (∀ e, es = some e → ∃ i p, b = .own i ∧ μ i = some p ∧ o + cap' * e ≤ p.room) := by
  cases es with
  | none =>
    obtain ⟨hl, a, rfl, ha⟩ := h
    exact ⟨a, cap, rfl, hl, Nat.le_refl _, ha, fun _ => rfl, by simp⟩
  | some e =>
    obtain ⟨hl, a, c, i, p, rfl, hp, rfl, hc, hr, ha⟩ := h
    refine ⟨a, c, rfl, hl, hc, ?_, by simp, ?_⟩
    · rcases ha with rfl | ha
      · left; simp [plOf, hp]
      · exact .inr ha
    · intro e' he; cases he; exact ⟨i, p, rfl, hp, hr⟩

theorem VR.slice_mk {b o len cap es} {a : Addr} {cap' : Nat} (hl : len ≤ cap) (hc : cap ≤ cap') (ha : plOf μ b o = some a ∨ cap' = 0) (h0 : es = none → cap' = cap)
    (h1 : ∀ e, es = some e → ∃ i p, b = .own i ∧ μ i = some p ∧ o + cap' * e ≤ p.room) : VR μ (.slice b o len cap es) (.slice (some a) len cap') := by
  cases es with
  | none =>
    have := h0 rfl; subst this
    exact ⟨hl, a, rfl, ha⟩
  | some e =>
    obtain ⟨i, p, rfl, hp, hr⟩ := h1 e rfl
    refine ⟨hl, a, cap', i, p, rfl, hp, rfl, hc, hr, ?_⟩
    rcases ha with ha | ha
    · left; simp [plOf, hp] at ha; exact ha.symm
    · exact .inr ha

theorem plOf_add {b o n} {a : Addr} (h : plOf μ b o = some a) : plOf μ b (o + n) = some (a.add n) := by
  cases b with
  | base b => simp [plOf] at h ⊢; subst h; rw [add_some]
  | own i =>
    simp only [plOf] at h ⊢
    cases hp : μ i with
    | none => rw [hp] at h; simp at h
    | some p => rw [hp] at h; simp at h ⊢; subst h; rw [add_some]; simp [Nat.add_assoc]

/- the cells of a value -/
theorem cells_ok {x : AV} {u : Value} {l} (hx : VR μ x u) (hc : x.cellsOk = some l) : VRs μ l u.cells.toList ∧ allOneP l := by
  cases x <;> simp only [AV.cellsOk, reduceCtorEq] at hc <;> cases hc
  case agg => exact VR.cells_agg hx
  all_goals exact ⟨VR.cells_one hx rfl, rfl, trivial⟩

theorem unop_ok {op : UnOp} {x r : AV} {u : Value} (hx : VR μ x u) (hr : unOpA op x = some r) : ∃ z, (Op.unary op u).run P w = .ok z w ∧ VR μ r z := by
  cases op <;> cases x <;> simp only [unOpA, reduceCtorEq] at hr <;> cases hr
  · have hx : u = .int _ _ := hx; subst hx; exact ⟨_, by simp [Op.unary, Op.intArith, awrap_eq], rfl⟩
  · have hx : u = .int _ _ := hx; subst hx; exact ⟨_, by simp [Op.unary, Op.intBits], rfl⟩
  · have hx : u = .bool _ := hx; subst hx; exact ⟨_, by simp [Op.unary], rfl⟩

theorem VRs.toArray_get {l : List AV} {c : Array Value} {i : Nat} {x} (h : VRs μ l c.toList) (hx : l[i]? = some x) : ∃ u, c[i]? = some u ∧ VR μ x u := by
  obtain ⟨u, hu, hr⟩ := VRs.get i h hx
  exact ⟨u, by simpa using hu, hr⟩

theorem part_ok {t : TypeId} {g n off} {cs : List AV} {c : Array Value} {r} (hg : isAggB P t = some g) (hn : sizeB P t = some n) (hv : VRs μ cs c.toList) (ho : allOneP cs) (hr : partOf g off n cs = some r) :
    ∃ u, (part t c off).run P w = .ok u w ∧ VR μ r u := by
  cases g with
  | true =>
    simp only [partOf] at hr
    cases hk : takeN n (cs.drop off) with
    | none => rw [hk] at hr; simp at hr
    | some l =>
      rw [hk] at hr; cases hr
      obtain ⟨rfl, hl⟩ := takeN_eq hk
      refine ⟨.agg (c.extract off (off + n)), by simp [part, isAggB_run hg, sizeB_run hn], _, rfl, ?_, (ho.drop off).take n⟩
      simp [Array.toList_extract]
      exact (hv.drop off).take n
  | false =>
    simp only [partOf] at hr
    obtain ⟨u, hu, hx⟩ := VRs.toArray_get hv hr
    exact ⟨u, by simp [part, isAggB_run hg, hu], hx⟩

theorem inRange_eq {n : Int} {len j} (h : inRange n len = some j) : n = j ∧ j < len := by
  unfold inRange at h
  split at h
  · rename_i i
    cases hb : Nat.blt i len
    · rw [hb] at h; cases h
    · rw [hb] at h; cases h; exact ⟨rfl, by simpa using hb⟩
  · cases h

theorem upTo_eq {n : Int} {len j} (h : upTo n len = some j) : n = j ∧ j ≤ len := by
  unfold upTo at h
  split at h
  · rename_i i
    cases hb : Nat.ble i len
    · rw [hb] at h; cases h
    · rw [hb] at h; cases h; exact ⟨rfl, by simpa using hb⟩
  · cases h

/- build -/
theorem foldl_set (off : Nat) : ∀ (vs : List Value) (k : Nat) (c : Array Value), off + k + vs.length ≤ c.size →
    ((vs.zipIdx k).foldl (fun cs (x : Value × Nat) => cs.setIfInBounds (off + x.2) x.1) c).toList = c.toList.take (off + k) ++ vs ++ c.toList.drop (off + k + vs.length)
  | [], k, c, _ => by simp
  | v :: vs, k, c, h => by
    simp at h
    simp only [List.zipIdx_cons, List.foldl_cons]
    rw [foldl_set off vs (k + 1) _ (by simp; omega)]
    simp only [Array.toList_setIfInBounds]
    have hlt' : off + k < c.toList.length := by simp; omega
    rw [show off + (k + 1) = (off + k) + 1 by omega, List.take_succ_eq_append_getElem (by simpa using hlt'), List.take_set_of_le (by omega), List.getElem_set_self]
    rw [List.drop_set_of_lt (by omega)]
    simp [Nat.add_comm, Nat.add_left_comm]

theorem splice_rel {cs vs r : List AV} {o : Nat} {c us : List Value} (hs : splice cs o vs = some r) (hc : VRs μ cs c) (hv : VRs μ vs us) (h1 : allOneP cs) (h2 : allOneP vs) :
    VRs μ r (c.take o ++ us ++ c.drop (o + us.length)) ∧ allOneP r ∧ o + us.length ≤ c.length := by
  obtain ⟨hl, rfl⟩ := splice_eq hs
  have e1 := VRs.length hv
  have e2 := VRs.length hc
  rw [← e1]
  exact ⟨((hc.take o).append hv).append (hc.drop _), ((h1.take o).append h2).append (h1.drop _), by omega⟩

def PartsR (nt : Nat) (place : Nat → Option (Nat × Nat)) : List (Nat × Operand) → List (Nat × Nat × Opd) → Prop
  | [], [] => True
  | p :: ps, q :: qs => place p.1 = some (q.1, q.2.1) ∧ opd nt p.2 = some q.2.2 ∧ PartsR nt place ps qs
  | _, _ => False

theorem fill_ok {place : Nat → Option (Nat × Nat)} (he : EnvR μ nt env a.tmps) : ∀ (parts : List (Nat × Operand)) (l : List (Nat × Nat × Opd)) (cs r : List AV) (c : Array Value),
    PartsR nt place parts l → fillL env cs l = some r → VRs μ cs c.toList → allOneP cs →
    ∃ c', Instr.fill place c (parts.map fun p => (p.1, a.eval p.2)) = some c' ∧ VRs μ r c'.toList ∧ allOneP r
  | [], [], cs, r, c, hf, hr, hc, ho => by
    simp [fillL] at hr; subst hr
    exact ⟨c, rfl, hc, ho⟩
  | [], _ :: _, cs, r, c, hf, hr, hc, ho => hf.elim
  | _ :: _, [], cs, r, c, hf, hr, hc, ho => hf.elim
  | (i, x) :: parts, (off, n, y) :: l, cs, r, c, hf, hr, hc, ho => by
    obtain ⟨hpl, hop, hf⟩ := hf
    have hv := opd_ok hop he
    simp only [fillL] at hr
    split at hr
    · rename_i k hk
      have hck := cells_ok hv hk
      split at hr
      · rename_i hb
        have hn : k.length = n := by simpa using hb
        split at hr
        · rename_i cs' hs
          obtain ⟨h1, h2, h3⟩ := splice_rel hs hc hck.1 ho hck.2
          have hlen := VRs.length hck.1
          simp at h3 hlen
          have hset := foldl_set off (a.eval x).cells.toList 0 c (by simp; omega)
          obtain ⟨c', e1, e2, e3⟩ := fill_ok he parts l cs' r _ hf hr (by rw [hset]; simpa using h1) h2
          refine ⟨c', ?_, e2, e3⟩
          simp only [List.map_cons, Instr.fill]
          simp only at hpl
          rw [hpl]
          simp only
          rw [if_neg (by simp; omega)]
          rw [← e1]
          congr 1
          rw [← Array.foldl_toList]
          simp
        · cases hr
      · cases hr
    · cases hr

end
end Go.Proofs.Ytohjmflbgohkhaa.E
