/- How the abstract machine's values and memory stand to the model's: a map of its blocks to places, and what a step may do to it. -/
import Derived.Test.YtohjmflbgohkhaaEngB
import Derived.Laws.Sem
import Derived.Laws.Cells
import Derived.Laws.Rows
import Derived.Laws.World
import Derived.Laws.Small
import Derived.Laws.AppendOwn
namespace Go.Proofs.Ytohjmflbgohkhaa.E
set_option linter.all false
open Go

structure Place where
  blk : Nat
  off : Nat
  room : Nat

abbrev Mu := Nat → Option Place

def plOf (μ : Mu) : ABlk → Nat → Option Addr
  | .base b, o => some ⟨b, o, none⟩
  | .own i, o => match μ i with
    | some p => some ⟨p.blk, p.off + o, none⟩
    | none => none

def allOneP : List AV → Prop
  | [] => True
  | v :: l => v.oneCell = true ∧ allOneP l

mutual
def VR (μ : Mu) : AV → Value → Prop
  | .bool b, v => v = .bool b
  | .int k n, v => v = .int k n
  | .str s, v => ∃ b, v = .string b ∧ bytesN b = s
  | .ptr b o, v => ∃ a, plOf μ b o = some a ∧ v = .pointer (some a)
  | .nilptr, v => v = .pointer none
  | .slice b o len cap none, v => len ≤ cap ∧ ∃ a, v = .slice (some a) len cap ∧ (plOf μ b o = some a ∨ cap = 0)
  | .slice b o len cap (some e), v => len ≤ cap ∧ ∃ a cap' i p, b = .own i ∧ μ i = some p ∧ v = .slice (some a) len cap' ∧ cap ≤ cap' ∧ o + cap' * e ≤ p.room ∧
      (a = ⟨p.blk, p.off + o, none⟩ ∨ cap' = 0)
  | .nilslice, v => v = .slice none 0 0
  | .map i, v => ∃ p, μ i = some p ∧ v = .map (some p.blk)
  | .nilmap, v => v = .map none
  | .func f cap, v => ∃ c, v = .func (.func f) #[] c ∧ VRs μ cap c.toList
  | .nilfunc, v => v = .nilFunc
  | .iface t a, v => ∃ u, v = .iface t u ∧ VR μ a u
  | .niliface, v => v = .nilIface
  | .agg cs, v => ∃ c, v = .agg c ∧ VRs μ cs c.toList ∧ allOneP cs
  | .tuple vs, v => ∃ c, v = .tuple c ∧ VRs μ vs c.toList
def VRs (μ : Mu) : List AV → List Value → Prop
  | [], l => l = []
  | a :: r, l => ∃ v m, l = v :: m ∧ VR μ a v ∧ VRs μ r m
end

def Mu.le (μ ν : Mu) : Prop := ∀ i p, μ i = some p → ν i = some p
theorem Mu.le_refl (μ : Mu) : μ.le μ := fun _ _ h => h
theorem Mu.le_trans {μ ν ξ : Mu} (h : μ.le ν) (k : ν.le ξ) : μ.le ξ := fun i p e => k i p (h i p e)

theorem plOf_mono {μ ν : Mu} (h : μ.le ν) {b o a} (e : plOf μ b o = some a) : plOf ν b o = some a := by
  cases b with
  | base b => exact e
  | own i =>
    simp only [plOf] at e ⊢
    cases hp : μ i with
    | none => rw [hp] at e; simp at e
    | some p => rw [hp] at e; rw [h i p hp]; exact e

mutual
theorem VR.mono {μ ν : Mu} (h : μ.le ν) : ∀ (a : AV) (v : Value), VR μ a v → VR ν a v
  | .bool b, v, e => e
  | .int k n, v, e => e
  | .str s, v, e => e
  | .ptr b o, v, ⟨a, e, f⟩ => ⟨a, plOf_mono h e, f⟩
  | .nilptr, v, e => e
  | .slice b o len cap none, v, ⟨l, a, e, f⟩ => ⟨l, a, e, f.imp (plOf_mono h) id⟩
  | .slice b o len cap (some e), v, ⟨l, a, c, i, p, hb, hi, r⟩ => ⟨l, a, c, i, p, hb, h i p hi, r⟩
  | .nilslice, v, e => e
  | .map i, v, ⟨p, e, f⟩ => ⟨p, h i p e, f⟩
  | .nilmap, v, e => e
  | .func f cap, v, ⟨c, e, r⟩ => ⟨c, e, VRs.mono h cap c.toList r⟩
  | .nilfunc, v, e => e
  | .iface t a, v, ⟨u, e, r⟩ => ⟨u, e, VR.mono h a u r⟩
  | .niliface, v, e => e
  | .agg cs, v, ⟨c, e, r, s⟩ => ⟨c, e, VRs.mono h cs c.toList r, s⟩
  | .tuple vs, v, ⟨c, e, r⟩ => ⟨c, e, VRs.mono h vs c.toList r⟩
theorem VRs.mono {μ ν : Mu} (h : μ.le ν) : ∀ (l : List AV) (m : List Value), VRs μ l m → VRs ν l m
  | [], m, e => e
  | a :: r, m, ⟨v, k, e, x, y⟩ => ⟨v, k, e, VR.mono h a v x, VRs.mono h r k y⟩
end

/- lists -/
theorem VRs.nil {μ : Mu} {l : List Value} (h : VRs μ [] l) : l = [] := h
theorem VRs.cons {μ : Mu} {a r} {l : List Value} (h : VRs μ (a :: r) l) : ∃ v m, l = v :: m ∧ VR μ a v ∧ VRs μ r m := h
theorem VRs.mk_nil (μ : Mu) : VRs μ [] [] := rfl
theorem VRs.mk {μ : Mu} {a r v m} (h : VR μ a v) (k : VRs μ r m) : VRs μ (a :: r) (v :: m) := ⟨v, m, rfl, h, k⟩
theorem VRs.length {μ : Mu} : ∀ {l m}, VRs μ l m → l.length = m.length
  | [], m, h => by have h : m = [] := h; subst h; rfl
  | a :: r, m, ⟨v, k, e, _, y⟩ => by subst e; simp [VRs.length y]
theorem VRs.append {μ : Mu} : ∀ {l m l' m'}, VRs μ l m → VRs μ l' m' → VRs μ (l ++ l') (m ++ m')
  | [], m, _, _, h, k => by have h : m = [] := h; subst h; exact k
  | a :: r, m, _, _, ⟨v, q, e, x, y⟩, k => by subst e; exact ⟨v, _, rfl, x, VRs.append y k⟩
theorem VRs.get {μ : Mu} : ∀ {l m} (i : Nat) {a}, VRs μ l m → l[i]? = some a → ∃ v, m[i]? = some v ∧ VR μ a v
  | a :: r, m, 0, b, ⟨v, q, e, x, y⟩, h => by subst e; simp at h; subst h; exact ⟨v, rfl, x⟩
  | a :: r, m, i + 1, b, ⟨v, q, e, x, y⟩, h => by subst e; simpa using VRs.get i y (by simpa using h)
theorem VRs.of_get {μ : Mu} : ∀ {l : List AV} {m : List Value}, l.length = m.length → (∀ (i : Nat) a v, l[i]? = some a → m[i]? = some v → VR μ a v) → VRs μ l m
  | [], m, hl, _ => by cases m with | nil => exact rfl | cons _ _ => simp at hl
  | a :: r, m, hl, h => by
    cases m with
    | nil => simp at hl
    | cons v q => exact ⟨v, q, rfl, h 0 a v rfl rfl, VRs.of_get (by simpa using hl) fun i b u hb hu => h (i + 1) b u (by simpa using hb) (by simpa using hu)⟩
theorem VRs.drop {μ : Mu} : ∀ {l m} (n : Nat), VRs μ l m → VRs μ (l.drop n) (m.drop n)
  | _, _, 0, h => h
  | [], m, n + 1, h => by have h : m = [] := h; subst h; exact rfl
  | a :: r, m, n + 1, ⟨v, q, e, x, y⟩ => by subst e; exact VRs.drop n y
theorem VRs.take {μ : Mu} : ∀ {l m} (n : Nat), VRs μ l m → VRs μ (l.take n) (m.take n)
  | _, _, 0, h => by simp; exact rfl
  | [], m, n + 1, h => by have h : m = [] := h; subst h; exact rfl
  | a :: r, m, n + 1, ⟨v, q, e, x, y⟩ => by subst e; exact ⟨v, _, rfl, x, VRs.take n y⟩
theorem VRs.replicate {μ : Mu} {a v} (h : VR μ a v) : ∀ n, VRs μ (List.replicate n a) (List.replicate n v)
  | 0 => rfl
  | n + 1 => ⟨v, _, rfl, h, VRs.replicate h n⟩

theorem allOneP.append : ∀ {l m}, allOneP l → allOneP m → allOneP (l ++ m)
  | [], _, _, k => k
  | _ :: _, _, h, k => ⟨h.1, allOneP.append h.2 k⟩
theorem allOneP.get : ∀ {l : List AV} {i : Nat} {a}, allOneP l → l[i]? = some a → a.oneCell = true
  | _ :: _, 0, _, h, e => by simp at e; subst e; exact h.1
  | _ :: _, i + 1, _, h, e => allOneP.get (i := i) h.2 (by simpa using e)
theorem allOneP.drop : ∀ {l : List AV} (n : Nat), allOneP l → allOneP (l.drop n)
  | _, 0, h => h
  | [], _ + 1, _ => trivial
  | _ :: _, n + 1, h => allOneP.drop n h.2
theorem allOneP.take : ∀ {l : List AV} (n : Nat), allOneP l → allOneP (l.take n)
  | _, 0, _ => by simp; exact trivial
  | [], _ + 1, _ => trivial
  | _ :: _, n + 1, h => ⟨h.1, allOneP.take n h.2⟩
theorem allOneP.of_all : ∀ {l : List AV}, allOne l = true → allOneP l
  | [], _ => trivial
  | _ :: _, h => by simp [allOne] at h; exact ⟨h.1, allOneP.of_all h.2⟩

theorem VR.one {μ : Mu} {a v} (h : VR μ a v) (ha : a.oneCell = true) : v.oneCell' = true ∧ v.cells = #[v] := by
  cases a <;> simp only [AV.oneCell, Bool.false_eq_true] at ha <;> try (simp only [VR] at h)
  case slice b o len cap es => cases es <;> simp only [VR] at h
                               · obtain ⟨_, _, rfl, _⟩ := h; exact ⟨rfl, rfl⟩
                               · obtain ⟨_, _, _, _, _, _, _, rfl, _⟩ := h; exact ⟨rfl, rfl⟩
  all_goals first
    | (subst h; exact ⟨rfl, rfl⟩)
    | (obtain ⟨_, h, _⟩ := h; subst h; exact ⟨rfl, rfl⟩)
    | (obtain ⟨_, _, h⟩ := h; subst h; exact ⟨rfl, rfl⟩)

/- the cells of a value that may lie in memory -/
theorem VR.cells_agg {μ : Mu} {cs v} (h : VR μ (.agg cs) v) : VRs μ cs v.cells.toList ∧ allOneP cs := by
  obtain ⟨c, rfl, h1, h2⟩ := h; exact ⟨h1, h2⟩
theorem VR.cells_one {μ : Mu} {a v} (h : VR μ a v) (ha : a.oneCell = true) : VRs μ [a] v.cells.toList := by
  rw [(VR.one h ha).2]; exact ⟨v, [], rfl, h, rfl⟩

/- an object, and where it lies -/
def ObjR (μ : Mu) (w : World) (i : Nat) : AObj → Prop
  | .cells cs => ∃ p c t fr, μ i = some p ∧ w.heap[p.blk]? = some (.cells c t fr) ∧ (fr.1 = fr.2 ∨ c.size ≤ fr.1) ∧ p.off + p.room = c.size ∧ cs.length ≤ p.room ∧
      VRs μ cs ((c.toList.drop p.off).take cs.length) ∧ allOneP cs
  | .map _ => False
  | .dead => True

def alive (h : AHeap) (i : Nat) : Prop := ∃ o, h[i]? = some o ∧ o ≠ .dead

structure Sim (W : World) (μ : Mu) (h : AHeap) (w : World) : Prop where
  base : ∀ b, b < W.heap.size → w.heap[b]? = W.heap[b]?
  size : W.heap.size ≤ w.heap.size
  os : w.os = W.os
  tape : w.tape = W.tape
  output : w.output = W.output
  place : ∀ i p, μ i = some p → i < h.length ∧ W.heap.size ≤ p.blk ∧ p.blk < w.heap.size
  obj : ∀ i o, h[i]? = some o → ObjR μ w i o
  sep : ∀ i j p q, alive h i → alive h j → μ i = some p → μ j = some q → p.blk = q.blk → i = j

/- one step: what is kept, what is new -/
structure Stp (W : World) (μ : Mu) (h : AHeap) (w : World) (μ' : Mu) (h' : AHeap) (w' : World) : Prop where
  le : μ.le μ'
  sim : Sim W μ' h' w'
  len : h.length ≤ h'.length
  size : w.heap.size ≤ w'.heap.size
  frame : ∀ b, b < w.heap.size → (∀ i p, alive h i → μ i = some p → p.blk ≠ b) → w'.heap[b]? = w.heap[b]?
  ext : ∀ i p, μ' i = some p → μ i = some p ∨ (h.length ≤ i ∧ (w.heap.size ≤ p.blk ∨ ∃ j q, alive h j ∧ μ j = some q ∧ q.blk = p.blk))
  back : ∀ i, i < h.length → alive h' i → alive h i

theorem Stp.refl {W μ h w} (s : Sim W μ h w) : Stp W μ h w μ h w :=
  ⟨μ.le_refl, s, Nat.le_refl _, Nat.le_refl _, fun _ _ _ => rfl, fun _ _ e => .inl e, fun _ _ a => a⟩

theorem alive_lt {h : AHeap} {i} (a : alive h i) : i < h.length := by
  obtain ⟨o, e, _⟩ := a
  exact (List.getElem?_eq_some_iff.1 e).1

theorem Stp.trans {W μ h w μ1 h1 w1 μ2 h2 w2} (s : Sim W μ h w) (a : Stp W μ h w μ1 h1 w1) (b : Stp W μ1 h1 w1 μ2 h2 w2) : Stp W μ h w μ2 h2 w2 := by
  refine ⟨Mu.le_trans a.le b.le, b.sim, Nat.le_trans a.len b.len, Nat.le_trans a.size b.size, ?_, ?_, ?_⟩
  · intro x hx hn
    rw [b.frame x (Nat.lt_of_lt_of_le hx a.size) ?_, a.frame x hx hn]
    intro i p ai hi he
    rcases a.ext i p hi with h0 | ⟨_, h1 | ⟨j, q, aj, hj, hq⟩⟩
    · exact hn i p (a.back i (s.place i p h0).1 ai) h0 he
    · omega
    · exact hn j q aj hj (hq.trans he)
  · intro i p hi
    rcases b.ext i p hi with h0 | ⟨hl, h1 | ⟨j, q, aj, hj, hq⟩⟩
    · exact a.ext i p h0
    · exact .inr ⟨Nat.le_trans a.len hl, .inl (Nat.le_trans a.size h1)⟩
    · refine .inr ⟨Nat.le_trans a.len hl, ?_⟩
      rcases a.ext j q hj with h0 | ⟨_, h2 | ⟨k, r, ak, hk, hr⟩⟩
      · exact .inr ⟨j, q, a.back j (s.place j q h0).1 aj, h0, hq⟩
      · exact .inl (by omega)
      · exact .inr ⟨k, r, ak, hk, hr.trans hq⟩
  · intro i hi ai
    exact a.back i hi (b.back i (Nat.lt_of_lt_of_le hi a.len) ai)

/- a draw alone -/
theorem Sim.drew {W μ h w} (s : Sim W μ h w) : Sim W μ h w.drew := ⟨s.base, s.size, s.os, s.tape, s.output, s.place, s.obj, s.sep⟩
theorem Stp.drew {W μ h w} (s : Sim W μ h w) : Stp W μ h w μ h w.drew :=
  ⟨μ.le_refl, s.drew, Nat.le_refl _, Nat.le_refl _, fun _ _ _ => rfl, fun _ _ e => .inl e, fun _ _ a => a⟩

/- how the base is read -/
def BaseOk (W : World) (B : Base) : Prop := ∀ b o v, B b o = some v → b < W.heap.size ∧ v.oneCell = true ∧ ∃ u, W.cell? ⟨b, o, none⟩ = some u ∧ ∀ μ, VR μ v u

theorem takeN_eq : ∀ {n : Nat} {l r : List AV}, takeN n l = some r → r = l.take n ∧ n ≤ l.length
  | 0, l, r, h => by simp [takeN] at h; subst h; simp
  | n + 1, [], r, h => by simp [takeN] at h
  | n + 1, v :: l, r, h => by
    simp only [takeN] at h
    cases hk : takeN n l with
    | none => rw [hk] at h; simp at h
    | some k => rw [hk] at h; simp at h; subst h; have := takeN_eq hk; simp [this.1]; omega

theorem hcells_eq {h : AHeap} {i cs} (e : hcells h i = some cs) : h[i]? = some (.cells cs) := by
  unfold hcells at e
  split at e
  · simp at e; subst e; assumption
  · simp at e

theorem add_some (b o n : Nat) : (⟨b, o, none⟩ : Addr).add n = ⟨b, o + n, none⟩ := by
  unfold Addr.add; split
  · simp_all
  · rfl

/- reading -/
theorem load_own {P : Program} {W μ h w} (s : Sim W μ h w) {i cs p} (hi : hcells h i = some cs) (hp : μ i = some p) {o n l} (hl : takeN n (cs.drop o) = some l) :
    ∃ r, (loadCells ⟨p.blk, p.off + o, none⟩ n).run P w = .ok r w ∧ VRs μ l r.toList ∧ allOneP l := by
  obtain ⟨p', c, t, fr, hp', hw, hfr, hsz, hle, hvs, ho⟩ := s.obj i _ (hcells_eq hi)
  rw [hp] at hp'; cases hp'
  obtain ⟨rfl, hn⟩ := takeN_eq hl
  simp at hn
  have hlen := VRs.length hvs
  refine ⟨⟨(((c.toList.drop p.off).take cs.length).drop o).take n⟩, ?_, ?_, ?_⟩
  · have := run_loadCells_list (P := P) (w := w) ⟨p.blk, p.off + o, none⟩ ((((c.toList.drop p.off).take cs.length).drop o).take n) ?_
    · have hl' : ((((c.toList.drop p.off).take cs.length).drop o).take n).length = n := by
        simp at hlen ⊢; omega
      rw [hl'] at this
      exact this
    · intro j v hj
      rw [add_some, cell_of_row w _ _ _ _ _ hw]
      rw [List.getElem?_take] at hj
      split at hj
      · rw [List.getElem?_drop, List.getElem?_take] at hj
        split at hj
        · rw [List.getElem?_drop] at hj
          rw [← hj]; simp [Nat.add_assoc]
        · simp at hj
      · simp at hj
  · exact (hvs.drop o).take n
  · exact (ho.drop o).take n

theorem baseCells_ok {W μ h w B} (hB : BaseOk W B) (s : Sim W μ h w) : ∀ {n b o l}, baseCells B b o n = some l →
    ∃ r : List Value, r.length = n ∧ (∀ j v, r[j]? = some v → w.cell? ⟨b, o + j, none⟩ = some v) ∧ VRs μ l r ∧ allOneP l
  | 0, b, o, l, h => by simp [baseCells] at h; subst h; exact ⟨[], rfl, fun j v hj => by simp at hj, rfl, trivial⟩
  | n + 1, b, o, l, h => by
    simp only [baseCells] at h
    cases hv : B b o with
    | none => rw [hv] at h; simp at h
    | some v =>
      rw [hv] at h; simp only at h
      cases hk : baseCells B b (o + 1) n with
      | none => rw [hk] at h; simp at h
      | some k =>
        rw [hk] at h; simp at h; subst h
        obtain ⟨hb, h1, u, hu, hr⟩ := hB b o v hv
        obtain ⟨r, hrl, hc, hvs, ho⟩ := baseCells_ok hB s hk
        refine ⟨u :: r, by simp [hrl], ?_, ⟨u, r, rfl, hr μ, hvs⟩, ⟨h1, ho⟩⟩
        intro j x hj
        cases j with
        | zero =>
          simp at hj; subst hj
          rw [← hu]; exact World.cell?_of_block (w := W) (s.base b hb)
        | succ j =>
          have := hc j x (by simpa using hj)
          rw [← this]; congr 2; omega

theorem load_any {P : Program} {W μ h w B} (hB : BaseOk W B) (s : Sim W μ h w) {b o n l a} (hl : loadN B h b o n = some l) (ha : plOf μ b o = some a) :
    ∃ r, (loadCells a n).run P w = .ok r w ∧ VRs μ l r.toList ∧ allOneP l := by
  cases b with
  | own i =>
    simp only [loadN] at hl
    cases hc : hcells h i with
    | none => rw [hc] at hl; simp at hl
    | some cs =>
      rw [hc] at hl; simp only at hl
      simp only [plOf] at ha
      cases hp : μ i with
      | none => rw [hp] at ha; simp at ha
      | some p => rw [hp] at ha; simp at ha; subst ha; exact load_own s hc hp hl
  | base b =>
    simp only [loadN] at hl
    simp only [plOf] at ha; simp at ha; subst ha
    obtain ⟨r, hrl, hc, hvs, ho⟩ := baseCells_ok hB s hl
    refine ⟨⟨r⟩, ?_, hvs, ho⟩
    have := run_loadCells_list (P := P) (w := w) ⟨b, o, none⟩ r fun j v hj => by rw [add_some]; exact hc j v hj
    rw [hrl] at this; exact this

/- nothing is read of nothing -/
theorem loadN_zero {B h b o l} (hl : loadN B h b o 0 = some l) : l = [] := by
  cases b with
  | own i => simp only [loadN] at hl; split at hl <;> simp [takeN] at hl; exact hl
  | base b => simp [loadN, baseCells] at hl; exact hl

/- a new block -/
def muNew (μ : Mu) (i : Nat) (p : Place) : Mu := fun j => if j = i then some p else μ j

theorem muNew_le {W μ h w} (s : Sim W μ h w) (p : Place) : μ.le (muNew μ h.length p) := by
  intro j q hj
  have := (s.place j q hj).1
  unfold muNew; rw [if_neg (by omega)]; exact hj

theorem ObjR.mono {μ ν : Mu} {w w' : World} {i o} (hle : μ.le ν) (hw : ∀ p, μ i = some p → w'.heap[p.blk]? = w.heap[p.blk]?) (h : ObjR μ w i o) : ObjR ν w' i o := by
  cases o with
  | cells cs =>
    obtain ⟨p, c, t, fr, hp, hb, r1, r2, r3, r4, r5⟩ := h
    exact ⟨p, c, t, fr, hle i p hp, (hw p hp).trans hb, r1, r2, r3, r4.mono hle, r5⟩
  | map es => exact h
  | dead => trivial

theorem Stp.new {W μ h w} (s : Sim W μ h w) {cs : List AV} {c : Array Value} {t : TypeId} (hvs : VRs μ cs (c.toList.take cs.length)) (hone : allOneP cs) (hle : cs.length ≤ c.size) :
    Stp W μ h w (muNew μ h.length ⟨w.heap.size, 0, c.size⟩) (h ++ [.cells cs]) (w.alloc (.cells c t)) := by
  have hμ := muNew_le s ⟨w.heap.size, 0, c.size⟩
  have hnew : ∀ o, (h ++ [.cells cs])[h.length]? = some o → o = .cells cs := by intro o e; simp at e; exact e.symm
  have hpl : ∀ i p, muNew μ h.length ⟨w.heap.size, 0, c.size⟩ i = some p → (i = h.length ∧ p = ⟨w.heap.size, 0, c.size⟩) ∨ (i ≠ h.length ∧ μ i = some p) := by
    intro i p hi; unfold muNew at hi; split at hi
    · cases hi; exact .inl ⟨by assumption, rfl⟩
    · exact .inr ⟨by assumption, hi⟩
  have hal : ∀ i, alive (h ++ [.cells cs]) i → i ≠ h.length → alive h i := by
    rintro i ⟨o, e, hd⟩ hi
    have := (List.getElem?_eq_some_iff.1 e).1
    simp at this
    rw [List.getElem?_append_left (by omega)] at e
    exact ⟨o, e, hd⟩
  refine ⟨hμ, ⟨?_, ?_, s.os, s.tape, s.output, ?_, ?_, ?_⟩, by simp, by simp, ?_, ?_, ?_⟩
  · intro b hb; rw [heap_alloc_old _ _ _ (Nat.lt_of_lt_of_le hb s.size)]; exact s.base b hb
  · have := s.size; simp; omega
  · intro i p hi
    rcases hpl i p hi with ⟨rfl, rfl⟩ | ⟨hn, hm⟩
    · have := s.size; simp; omega
    · have := s.place i p hm; simp; omega
  · intro i o e
    by_cases hi : i = h.length
    · subst hi; rw [hnew o e]
      refine ⟨⟨w.heap.size, 0, c.size⟩, c, t, (0, 0), by simp [muNew], heap_alloc_new w _, .inl rfl, by simp, hle, ?_, hone⟩
      simpa using hvs.mono hμ
    · have := (List.getElem?_eq_some_iff.1 e).1
      simp at this
      rw [List.getElem?_append_left (by omega)] at e
      exact (s.obj i o e).mono hμ fun p hp => heap_alloc_old _ _ _ (s.place i p hp).2.2
  · intro i j p q ai aj hi hj he
    rcases hpl i p hi with ⟨rfl, rfl⟩ | ⟨hn, hm⟩ <;> rcases hpl j q hj with ⟨rfl, rfl⟩ | ⟨hn', hm'⟩
    · rfl
    · have := (s.place j q hm').2.2; simp at he; omega
    · have := (s.place i p hm).2.2; simp at he; omega
    · exact s.sep i j p q (hal i ai hn) (hal j aj hn') hm hm' he
  · intro b hb _; exact heap_alloc_old _ _ _ hb
  · intro i p hi
    rcases hpl i p hi with ⟨rfl, rfl⟩ | ⟨hn, hm⟩
    · exact .inr ⟨Nat.le_refl _, .inl (Nat.le_refl _)⟩
    · exact .inl hm
  · intro i hi ai; exact hal i ai (by omega)

/- writing -/
theorem splice_eq : ∀ {cs : List AV} {o vs r}, splice cs o vs = some r → o + vs.length ≤ cs.length ∧ r = cs.take o ++ vs ++ cs.drop (o + vs.length)
  | cs, 0, [], r, h => by simp [splice] at h; subst h; simp
  | c :: cs, o + 1, vs, r, h => by
    simp only [splice] at h
    cases hk : splice cs o vs with
    | none => rw [hk] at h; simp at h
    | some k =>
      rw [hk] at h; simp at h; subst h
      obtain ⟨h1, h2⟩ := splice_eq hk
      refine ⟨by simp; omega, ?_⟩
      rw [h2]; simp [Nat.add_right_comm]
  | _ :: cs, 0, v :: vs, r, h => by
    simp only [splice] at h
    cases hk : splice cs 0 vs with
    | none => rw [hk] at h; simp at h
    | some k =>
      rw [hk] at h; simp at h; subst h
      obtain ⟨h1, h2⟩ := splice_eq hk
      refine ⟨by simp at h1 ⊢; omega, ?_⟩
      rw [h2]; simp
  | [], 0, _ :: _, r, h => by simp [splice] at h
  | [], _ + 1, _, r, h => by simp [splice] at h

end Go.Proofs.Ytohjmflbgohkhaa.E
