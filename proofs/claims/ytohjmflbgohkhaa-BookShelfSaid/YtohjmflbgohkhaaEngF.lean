/- Operands; operations that compute, read, make blocks. -/
import Derived.Test.YtohjmflbgohkhaaEngE
import Derived.Laws.Entries
import Derived.Laws.Append
import Derived.Laws.Slices
namespace Go.Proofs.Ytohjmflbgohkhaa.E
set_option linter.all false
open Go

/- killing and growing -/
theorem Stp.kill {W μ h w} (s : Sim W μ h w) {i : Nat} : Stp W μ h w μ (h.set i .dead) w := by
  have hb : ∀ j, alive (h.set i .dead) j → alive h j := by
    rintro j ⟨o, e, hd⟩
    by_cases q : j = i
    · subst q
      by_cases hl : j < h.length
      · rw [List.getElem?_set_self hl] at e; cases e; exact absurd rfl hd
      · rw [List.getElem?_eq_none (by simp; omega)] at e; cases e
    · rw [List.getElem?_set_ne (fun x => q x.symm)] at e; exact ⟨o, e, hd⟩
  refine ⟨μ.le_refl, ⟨s.base, s.size, s.os, s.tape, s.output, ?_, ?_, ?_⟩, by simp, Nat.le_refl _, fun _ _ _ => rfl, fun _ _ e => .inl e, fun j _ a => hb j a⟩
  · intro j p hp; have := s.place j p hp; simp; omega
  · intro j o hj
    by_cases q : j = i
    · subst q
      by_cases hl : j < h.length
      · rw [List.getElem?_set_self hl] at hj; cases hj; trivial
      · rw [List.getElem?_eq_none (by simp; omega)] at hj; cases hj
    · rw [List.getElem?_set_ne (fun x => q x.symm)] at hj; exact s.obj j o hj
  · intro j k p q aj ak; exact s.sep j k p q (hb j aj) (hb k ak)

/- the old block gives its place to a new one -/
theorem Stp.regrow {W μ h w} (s : Sim W μ h w) {i cs cs' p c t fr o} (hi : h[i]? = some (.cells cs)) (hp : μ i = some p) (hw : w.heap[p.blk]? = some (.cells c t fr)) (hor : o ≤ p.room)
    {w' : World} {c' : Array Value} {fr' : Nat × Nat} (hb : w'.heap[p.blk]? = some (.cells c' t fr')) (hx : ∀ x, x ≠ p.blk → w'.heap[x]? = w.heap[x]?) (hz : w'.heap.size = w.heap.size)
    (e1 : w'.os = w.os) (e2 : w'.tape = w.tape) (e3 : w'.output = w.output)
    (hfr : fr'.1 = fr'.2 ∨ c'.size ≤ fr'.1) (hsz : p.off + p.room = c'.size) (hle : o + cs'.length ≤ p.room) (hvs : VRs μ cs' ((c'.toList.drop (p.off + o)).take cs'.length)) (ho : allOneP cs') :
    Stp W μ h w (muNew μ h.length ⟨p.blk, p.off + o, p.room - o⟩) (h.set i .dead ++ [.cells cs']) w' := by
  have hil : i < h.length := (List.getElem?_eq_some_iff.1 hi).1
  have hali : alive h i := ⟨_, hi, by simp⟩
  have hμ := muNew_le s ⟨p.blk, p.off + o, p.room - o⟩
  have hpl : ∀ j q, muNew μ h.length ⟨p.blk, p.off + o, p.room - o⟩ j = some q → (j = h.length ∧ q = ⟨p.blk, p.off + o, p.room - o⟩) ∨ (j ≠ h.length ∧ μ j = some q) := by
    intro j q hj; unfold muNew at hj; split at hj
    · cases hj; exact .inl ⟨by assumption, rfl⟩
    · exact .inr ⟨by assumption, hj⟩
  have hold : ∀ j, j < h.length → ∀ x, (h.set i .dead ++ [.cells cs'])[j]? = some x → x ≠ .dead → j ≠ i ∧ h[j]? = some x := by
    intro j hj x e hd
    rw [List.getElem?_append_left (by simpa using hj)] at e
    by_cases q : j = i
    · subst q; rw [List.getElem?_set_self hj] at e; cases e; exact absurd rfl hd
    · rw [List.getElem?_set_ne (fun x => q x.symm)] at e; exact ⟨q, e⟩
  have hnew : ∀ x, (h.set i .dead ++ [.cells cs'])[h.length]? = some x → x = .cells cs' := by
    intro x e
    rw [List.getElem?_append_right (by simp)] at e
    simp at e; exact e.symm
  have hlt : ∀ j x, (h.set i .dead ++ [.cells cs'])[j]? = some x → j ≤ h.length := by
    intro j x e; have := (List.getElem?_eq_some_iff.1 e).1; simp at this; omega
  have hal : ∀ j, j ≠ h.length → alive (h.set i .dead ++ [.cells cs']) j → j ≠ i ∧ alive h j := by
    rintro j hj ⟨x, e, hd⟩
    have := hold j (by have := hlt j x e; omega) x e hd
    exact ⟨this.1, x, this.2, hd⟩
  have hpp := s.place i p hp
  refine ⟨hμ, ⟨?_, ?_, e1.trans s.os, e2.trans s.tape, e3.trans s.output, ?_, ?_, ?_⟩, by simp, by omega, ?_, ?_, ?_⟩
  · intro b hb'
    rw [hx b (by omega)]; exact s.base b hb'
  · rw [hz]; exact s.size
  · intro j q hq
    rcases hpl j q hq with ⟨rfl, rfl⟩ | ⟨hn, hm⟩
    · simp; omega
    · have := s.place j q hm; simp; omega
  · intro j x hj
    by_cases e : j = h.length
    · subst e
      rw [hnew x hj]
      exact ⟨⟨p.blk, p.off + o, p.room - o⟩, c', t, fr', by simp [muNew], hb, hfr, by simp; omega, by simp; omega, hvs.mono hμ, ho⟩
    · by_cases hd : x = .dead
      · subst hd; trivial
      · obtain ⟨q, e2⟩ := hold j (by have := hlt j x hj; omega) x hj hd
        refine (s.obj j x e2).mono hμ fun r hr => hx _ fun he => q ?_
        exact s.sep j i r p ⟨x, e2, hd⟩ hali hr hp he
  · intro j k q r aj ak hj hk he
    rcases hpl j q hj with ⟨rfl, rfl⟩ | ⟨hn, hm⟩ <;> rcases hpl k r hk with ⟨rfl, rfl⟩ | ⟨hn', hm'⟩
    · rfl
    · have := hal k hn' ak; exact absurd (s.sep k i r p this.2 hali hm' hp he.symm) this.1
    · have := hal j hn aj; exact absurd (s.sep j i q p this.2 hali hm hp he) this.1
    · exact s.sep j k q r (hal j hn aj).2 (hal k hn' ak).2 hm hm' he
  · intro b hb' hn; exact hx b fun he => hn i p hali hp he.symm
  · intro j q hq
    rcases hpl j q hq with ⟨rfl, rfl⟩ | ⟨hn, hm⟩
    · exact .inr ⟨Nat.le_refl _, .inr ⟨i, p, hali, hp, rfl⟩⟩
    · exact .inl hm
  · intro j hj aj; exact (hal j (by omega) aj).2

/- constants -/
theorem flatAV_ok {v : Value} {a} (h : flatAV v = some a) : (∀ μ, VR μ a v) ∧ a.oneCell = true := by
  unfold flatAV at h
  split at h <;> try (cases h; refine ⟨fun μ => rfl, rfl⟩)
  · cases h; exact ⟨fun μ => ⟨_, rfl, rfl⟩, rfl⟩
  · rename_i x
    split at h
    · rename_i hs; cases h; refine ⟨fun μ => ⟨x, ?_, rfl⟩, rfl⟩
      obtain ⟨b, o, sp⟩ := x; simp at hs; subst hs; rfl
    · cases h
  · split at h
    · rename_i l c hs
      cases h; simp at hs
      obtain ⟨rfl, rfl⟩ := hs
      exact ⟨fun μ => rfl, rfl⟩
    · cases h
  · rename_i x l c
    split at h
    · rename_i hs hl
      cases h; refine ⟨fun μ => ?_, rfl⟩
      obtain ⟨b, o, sp⟩ := x; simp at hs; subst hs
      exact ⟨by simpa using hl, _, rfl, .inl rfl⟩
    · cases h
  · rename_i f first cap
    split at h
    · rename_i hs
      cases h; simp at hs
      obtain ⟨h1, h2⟩ := hs
      refine ⟨fun μ => ⟨cap, ?_, ?_⟩, rfl⟩
      · have : first = #[] := by simpa using h1
        rw [this]
      · have : cap = #[] := by simpa using h2
        rw [this]; exact rfl
    · cases h
  · cases h

theorem flatAll_ok : ∀ {l : List Value} {r}, flatAll l = some r → (∀ μ, VRs μ r l) ∧ allOneP r
  | [], r, h => by simp [flatAll] at h; subst h; exact ⟨fun μ => rfl, trivial⟩
  | v :: l, r, h => by
    simp only [flatAll] at h
    cases ha : flatAV v with
    | none => rw [ha] at h; simp at h
    | some a =>
      cases hl : flatAll l with
      | none => rw [ha, hl] at h; simp at h
      | some k =>
        rw [ha, hl] at h; simp at h; subst h
        have h1 := flatAV_ok ha
        have h2 := flatAll_ok hl
        exact ⟨fun μ => ⟨v, l, rfl, h1.1 μ, h2.1 μ⟩, h1.2, h2.2⟩

theorem aggAV_ok {v : Value} {a} (h : aggAV v = some a) : ∀ μ, VR μ a v := by
  unfold aggAV at h
  split at h
  · split at h
    · rename_i hk; cases h; have := flatAll_ok hk; exact fun μ => ⟨_, rfl, this.1 μ, this.2⟩
    · cases h
  · split at h
    · rename_i hk; cases h; intro μ; refine ⟨_, rfl, ?_⟩
      rw [Array.isEmpty_iff.1 hk]; exact rfl
    · cases h
  · exact (flatAV_ok h).1

theorem toAV_ok {v : Value} {a} (h : toAV v = some a) : ∀ μ, VR μ a v := by
  unfold toAV at h
  split at h
  · split at h
    · rename_i hk; cases h; exact fun μ => ⟨_, rfl, aggAV_ok hk μ⟩
    · cases h
  · exact aggAV_ok h

/- the frame -/
def EnvR (μ : Mu) (nt : Nat) (env : Env) (tm : Array Value) : Prop := nt ≤ tm.size ∧ ∀ t, t < nt → VR μ (env.get (pathOf 64 t)) (tm.getD t undef)

theorem EnvR.mono {μ ν : Mu} {nt env tm} (h : EnvR μ nt env tm) (hle : μ.le ν) : EnvR ν nt env tm := ⟨h.1, fun t ht => (h.2 t ht).mono hle⟩

def unpath : List Bool → Nat
  | [] => 0
  | b :: p => cond b (2 * unpath p + 1) (2 * unpath p + 2)

theorem unpath_pathOf : ∀ (f n : Nat), n + 1 < 2 ^ f → unpath (pathOf f n) = n
  | 0, n, h => by simp at h
  | f + 1, n, h => by
    unfold pathOf
    split
    · simp [unpath]; omega
    · rename_i hn
      have := unpath_pathOf f ((n - 1) / 2) (by rw [Nat.pow_succ] at h; omega)
      simp only [unpath, this]
      by_cases hb : n % 2 = 1
      · simp [hb]; omega
      · have : (n % 2 == 1) = false := by simp; omega
        rw [this]; simp; omega

theorem pathOf_inj {a b : Nat} (ha : a < 100000) (hb : b < 100000) (h : pathOf 64 a = pathOf 64 b) : a = b := by
  have h1 := unpath_pathOf 64 a (by have : (2:Nat)^64 = 18446744073709551616 := by decide
                                    omega)
  have h2 := unpath_pathOf 64 b (by have : (2:Nat)^64 = 18446744073709551616 := by decide
                                    omega)
  rw [← h1, ← h2, h]

theorem Env.get_set_same : ∀ (env : Env) (p : List Bool) (v : AV), (env.set p v).get p = v
  | .e, [], v => rfl
  | .n _ _ _, [], v => rfl
  | .e, b :: p, v => by cases b <;> simp [Env.set, Env.get, Env.get_set_same]
  | .n l u r, b :: p, v => by cases b <;> simp [Env.set, Env.get, Env.get_set_same]

theorem Env.get_e (p : List Bool) : Env.get .e p = .tuple [] := by cases p <;> rfl

theorem Env.get_set_other : ∀ (env : Env) (p q : List Bool) (v : AV), p ≠ q → (env.set p v).get q = env.get q
  | .e, [], [], v, h => absurd rfl h
  | .e, [], b :: q, v, h => by cases b <;> simp [Env.set, Env.get, Env.get_e]
  | .n _ _ _, [], [], v, h => absurd rfl h
  | .n l u r, [], b :: q, v, h => by simp [Env.set, Env.get]
  | .e, b :: p, [], v, h => by cases b <;> simp [Env.set, Env.get]
  | .n l u r, b :: p, [], v, h => by cases b <;> simp [Env.set, Env.get]
  | .e, b :: p, c :: q, v, h => by
    cases b <;> cases c <;> simp [Env.set, Env.get, Env.get_e] <;>
      (rw [Env.get_set_other .e p q v (fun e => h (by rw [e])), Env.get_e])
  | .n l u r, b :: p, c :: q, v, h => by
    cases b <;> cases c <;> simp [Env.set, Env.get] <;>
      exact Env.get_set_other _ p q v (fun e => h (by rw [e]))

theorem EnvR.put {μ nt env} {a : Act} {d v u} (h : EnvR μ nt env a.tmps) (hnt : nt < 100000) (hd : d < nt) (hv : VR μ v u) : EnvR μ nt (env.set (pathOf 64 d) v) (a.put (some d) u).tmps := by
  refine ⟨by simp [Act.put]; exact h.1, fun t ht => ?_⟩
  by_cases e : t = d
  · subst e
    have := h.1
    rw [Env.get_set_same]
    simp [Act.put, Array.getD, show t < a.tmps.size by omega]; exact hv
  · rw [Env.get_set_other _ _ _ _ (fun q => e (pathOf_inj (by omega) (by omega) q).symm)]
    have := h.2 t ht
    simp only [Act.put, Array.getD_eq_getD_getElem?] at this ⊢
    rw [Array.getElem?_setIfInBounds_ne (fun q => e q.symm)]; exact this

theorem opd_ok {μ nt env} {a : Act} {x : Operand} {y : Opd} (h : opd nt x = some y) (he : EnvR μ nt env a.tmps) : VR μ (y.ev env) (a.eval x) := by
  cases x with
  | tmp t =>
    simp only [opd] at h
    split at h
    · rename_i hb; cases h; exact he.2 t (by simpa using hb)
    · cases h
  | const v =>
    simp only [opd] at h
    split at h
    · rename_i hk; cases h; exact toAV_ok hk μ
    · cases h
  | global g => cases h; exact ⟨⟨g, 0, none⟩, rfl, rfl⟩
  | func f => cases h; exact ⟨#[], rfl, rfl⟩

theorem opds_ok {μ nt env} {a : Act} (he : EnvR μ nt env a.tmps) : ∀ {l : List Operand} {r}, opds nt l = some r → VRs μ (evs env r) (l.map a.eval)
  | [], r, h => by simp [opds] at h; subst h; exact rfl
  | x :: l, r, h => by
    simp only [opds] at h
    cases hx : opd nt x with
    | none => rw [hx] at h; simp at h
    | some y =>
      cases hl : opds nt l with
      | none => rw [hx, hl] at h; simp at h
      | some k => rw [hx, hl] at h; simp at h; subst h; exact ⟨_, _, rfl, opd_ok hx he, opds_ok he hl⟩

end Go.Proofs.Ytohjmflbgohkhaa.E
