/- From a law's row to a run of the abstract machine: what its arguments read as, and the row's form around the run. -/
import Derived.Test.YtohjmflbgohkhaaEngZJ
import Derived.ProofKit
namespace Go.Proofs.Ytohjmflbgohkhaa.E
set_option linter.all false
open Go Go.ChangeShapes Go.WideShapes Go.ChangeAt Go.RowKit

/- a value of one cell that was there before -/
def av1 : Value → AV
  | .bool b => .bool b
  | .int k n => .int k n
  | .string s => .str (bytesN s)
  | .pointer none => .nilptr
  | .pointer (some a) => .ptr (.base a.block) a.off
  | .slice none _ _ => .nilslice
  | .slice (some a) l c => .slice (.base a.block) a.off l c none
  | _ => .tuple []

def good1 : Value → Bool
  | .bool _ => true
  | .int _ _ => true
  | .string _ => true
  | .pointer none => true
  | .pointer (some a) => a.spot.isNone
  | .slice none l c => Nat.beq l 0 && Nat.beq c 0
  | .slice (some a) l c => Nat.ble l c && (a.spot.isNone || Nat.beq c 0)
  | _ => false

theorem addr_none {a : Addr} (h : a.spot.isNone = true) : (⟨a.block, a.off, none⟩ : Addr) = a := by
  obtain ⟨b, o, s⟩ := a
  cases s with
  | none => rfl
  | some x => cases h

theorem vr1 {v : Value} (h : good1 v = true) : (∀ μ, VR μ (av1 v) v) ∧ (av1 v).oneCell = true := by
  cases v with
  | bool b => exact ⟨fun μ => rfl, rfl⟩
  | int k n => exact ⟨fun μ => rfl, rfl⟩
  | string s => exact ⟨fun μ => ⟨s, rfl, rfl⟩, rfl⟩
  | pointer a => cases a with
    | none => exact ⟨fun μ => rfl, rfl⟩
    | some a => exact ⟨fun μ => ⟨a, by simp only [plOf, addr_none h], rfl⟩, rfl⟩
  | slice a l c => cases a with
    | none =>
      simp only [good1, Bool.and_eq_true] at h
      have e1 := Nat.eq_of_beq_eq_true h.1
      have e2 := Nat.eq_of_beq_eq_true h.2
      subst e1; subst e2
      exact ⟨fun μ => rfl, rfl⟩
    | some a =>
      simp only [good1, Bool.and_eq_true, Bool.or_eq_true, Nat.beq_eq_true_eq, Nat.ble_eq] at h
      refine ⟨fun μ => ⟨h.1, a, rfl, ?_⟩, rfl⟩
      rcases h.2 with h2 | h2
      · left; simp only [plOf, addr_none h2]
      · right; exact Nat.eq_of_beq_eq_true h2
  | _ => cases h

def baseOf (W : World) : Base := fun b o => match W.cell? ⟨b, o, none⟩ with
  | some v => match good1 v with
    | true => some (av1 v)
    | false => none
  | none => none

theorem baseOf_ok (W : World) : BaseOk W (baseOf W) := by
  intro b o v h
  unfold baseOf at h
  split at h
  · rename_i u hu
    split at h
    · rename_i hg
      cases h
      refine ⟨?_, (vr1 hg).2, u, hu, (vr1 hg).1⟩
      unfold World.cell? at hu
      by_cases hb : b < W.heap.size
      · exact hb
      · have : W.heap[b]? = none := by simp; omega
        simp [this] at hu
    · cases h
  · cases h

/- what a type's cells read as -/
structure Dec (α : Type) where
  n : Nat
  rd : Base → List AV → α → Prop

def Reads {α : Type} (P : Program) (t : TypeId) (d : Dec α) : Prop := P.cellsOf t = d.n ∧
  ∀ (H : Type) (enc : TypeId × Value → H) (W : World) (held : Bool) (fuel : Nat) (cs : List Value) (x : DataW H × List MemPlace), DataW.trod enc P W 0 (fun _ => true) held fuel t cs = some x →
    (∀ v ∈ cs, good1 v = true) ∧ cs.length = d.n ∧ ∃ a, d.rd (baseOf W) (cs.map av1) a

def Dec.int (k : IntKind) : Dec Int := ⟨1, fun _ cs a => cs = [.int k a] ∧ (Lit.int k a).wf = true⟩
def Dec.bool : Dec Bool := ⟨1, fun _ cs a => cs = [.bool a]⟩
def Dec.str : Dec (List Nat) := ⟨1, fun _ cs a => cs = [.str a] ∧ a.length ≤ maxLen ∧ ∀ c ∈ a, c < 256⟩
def Dec.slice {α} (d : Dec α) : Dec (List α) := ⟨1, fun B cs l => (cs = [.nilslice] ∧ l = []) ∨
  ∃ b o cap, cs = [.slice (.base b) o l.length cap none] ∧ l.length ≤ cap ∧ cap ≤ maxLen ∧ ∀ (i : Nat) a, l[i]? = some a → ∃ c, baseCells B b (o + i * d.n) d.n = some c ∧ d.rd B c a⟩
def Dec.unit : Dec Unit := ⟨0, fun _ cs _ => cs = []⟩
def Dec.pair {α β} (d : Dec α) (e : Dec β) : Dec (α × β) := ⟨d.n + e.n, fun B cs a => ∃ x y, cs = x ++ y ∧ d.rd B x a.1 ∧ e.rd B y a.2⟩
def Dec.map {α β} (f : α → β) (d : Dec α) : Dec β := ⟨d.n, fun B cs b => ∃ a, d.rd B cs a ∧ b = f a⟩

theorem Reads.map {α β} {P : Program} {t : TypeId} {d : Dec α} (h : Reads P t d) (f : α → β) : Reads P t (Dec.map f d) :=
  ⟨h.1, fun H enc W held fuel cs x hx => by
    obtain ⟨h1, h2, a, h3⟩ := h.2 H enc W held fuel cs x hx
    exact ⟨h1, h2, f a, a, h3, rfl⟩⟩

theorem Reads.int {P : Program} {t : TypeId} {k : IntKind} (ht : P.underlying t = some (.int k)) (hc : P.cellsOf t = 1) : Reads P t (Dec.int k) :=
  ⟨hc, fun H enc W held fuel cs x hx => by
    obtain ⟨n, rfl, -, hw⟩ := DataW.trod_int ht hx
    exact ⟨by simp [good1], rfl, n, rfl, hw⟩⟩
theorem Reads.bool {P : Program} {t : TypeId} (ht : P.underlying t = some .bool) (hc : P.cellsOf t = 1) : Reads P t Dec.bool :=
  ⟨hc, fun H enc W held fuel cs x hx => by
    obtain ⟨n, rfl, -⟩ := DataW.trod_bool ht hx
    exact ⟨by simp [good1], rfl, n, rfl⟩⟩
theorem Reads.str {P : Program} {t : TypeId} (ht : P.underlying t = some .string) (hc : P.cellsOf t = 1) : Reads P t Dec.str :=
  ⟨hc, fun H enc W held fuel cs x hx => by
    obtain ⟨n, rfl, -, hl⟩ := DataW.trod_string ht hx
    refine ⟨by simp [good1], rfl, bytesN n, rfl, by rw [bytesN_size]; exact hl, ?_⟩
    intro c hc
    unfold bytesN at hc
    obtain ⟨u, -, rfl⟩ := List.mem_map.1 hc
    exact u.toNat_lt⟩

theorem baseCells_of {B : Base} {b : Nat} : ∀ (l : List AV) (o : Nat), (∀ (i : Nat) v, l[i]? = some v → B b (o + i) = some v) → baseCells B b o l.length = some l
  | [], _, _ => rfl
  | v :: l, o, h => by
    have h0 : B b o = some v := h 0 v rfl
    have h1 := baseCells_of l (o + 1) fun i w hw => by
      have := h (i + 1) w (by simpa using hw)
      rw [show o + 1 + i = o + (i + 1) by omega]; exact this
    simp only [List.length_cons, baseCells, h0, h1]

theorem Reads.slice {α} {P : Program} {t e : TypeId} {d : Dec α} (ht : P.underlying t = some (.slice e)) (hc : P.cellsOf t = 1) (he : Reads P e d) (hpos : 0 < d.n) : Reads P t (Dec.slice d) := by
  refine ⟨hc, fun H enc W held fuel cs x hx => ?_⟩
  rcases DataW.trod_slice ht hx with ⟨rfl, -⟩ | ⟨a, len, cap, elems, rest, n, -, rfl, -, -, hl, hm, hlen, hel, hsp, -⟩
  · exact ⟨by simp [good1], rfl, [], .inl ⟨rfl, rfl⟩⟩
  have hcell : ∀ i, i < len → ∃ c a', baseCells (baseOf W) a.block (a.off + i * d.n) d.n = some c ∧ d.rd (baseOf W) c a' := by
    intro i hi
    have h1 := hel i hi
    have h2 : elems[i]? = some (elems[i]'(by omega)) := List.getElem?_eq_getElem (by omega)
    rw [h2, Option.bind_eq_some_iff] at h1
    obtain ⟨cs', h3, h4⟩ := h1
    obtain ⟨g1, g2, a', g3⟩ := he.2 H enc W held n cs' _ h4
    refine ⟨cs'.map av1, a', ?_, g3⟩
    obtain ⟨-, k1, k2⟩ := World.cells?_some h3
    have := baseCells_of (B := baseOf W) (b := a.block) (cs'.map av1) (a.off + i * d.n) ?_
    · rw [List.length_map, g2] at this; exact this
    · intro j v hj
      rw [List.getElem?_map, Option.map_eq_some_iff] at hj
      obtain ⟨u, hu, rfl⟩ := hj
      have hj' : j < d.n := by
        have := (List.getElem?_eq_some_iff.1 hu).1
        omega
      have h5 := k2 j (by rw [he.1]; exact hj')
      rw [he.1, hu] at h5
      have h6 : W.cell? ⟨a.block, a.off + i * d.n + j, none⟩ = some u := by
        have ha : ((a.add (i * d.n)).add j) = ⟨a.block, a.off + i * d.n + j, none⟩ := by
          have hsn : ((a.add (i * d.n)).add j).spot = none := by
            unfold World.cell? at h5
            split at h5
            · split at h5
              · cases h5
              · rename_i hs; simpa using hs
            · cases h5
          have hb : ((a.add (i * d.n)).add j).block = a.block := by unfold Addr.add; split <;> split <;> rfl
          have ho : ((a.add (i * d.n)).add j).off = a.off + i * d.n + j := by unfold Addr.add; split <;> split <;> simp_all
          calc ((a.add (i * d.n)).add j) = ⟨((a.add (i * d.n)).add j).block, ((a.add (i * d.n)).add j).off, ((a.add (i * d.n)).add j).spot⟩ := rfl
            _ = _ := by rw [hb, ho, hsn]
        rw [← ha]; exact h5
      unfold baseOf
      rw [h6]
      simp only [g1 u (List.mem_of_getElem? hu)]
  have hex : ∃ l : List α, l.length = len ∧ ∀ (i : Nat) a', l[i]? = some a' → ∃ c, baseCells (baseOf W) a.block (a.off + i * d.n) d.n = some c ∧ d.rd (baseOf W) c a' := by
    have : ∀ m, m ≤ len → ∃ l : List α, l.length = m ∧ ∀ (i : Nat) a', l[i]? = some a' → ∃ c, baseCells (baseOf W) a.block (a.off + i * d.n) d.n = some c ∧ d.rd (baseOf W) c a' := by
      intro m
      induction m with
      | zero => exact fun _ => ⟨[], rfl, fun i a' h => by simp at h⟩
      | succ m ih =>
        intro hm
        obtain ⟨l, h1, h2⟩ := ih (by omega)
        obtain ⟨c, a', h3, h4⟩ := hcell m (by omega)
        refine ⟨l ++ [a'], by simp [h1], fun i b hi => ?_⟩
        by_cases hlt : i < l.length
        · rw [List.getElem?_append_left hlt] at hi; exact h2 i b hi
        · rw [List.getElem?_append_right (by omega)] at hi
          have : i = m := by
            have := (List.getElem?_eq_some_iff.1 hi).1
            simp at this; omega
          subst this
          rw [h1] at hi; simp at hi; subst hi
          exact ⟨c, h3, h4⟩
    exact this len (Nat.le_refl _)
  obtain ⟨l, h1, h2⟩ := hex
  refine ⟨?_, rfl, l, .inr ⟨a.block, a.off, cap, by rw [h1]; rfl, by omega, hm, h2⟩⟩
  intro v hv
  simp at hv; subst hv
  simp only [good1, Bool.and_eq_true, Bool.or_eq_true, Nat.beq_eq_true_eq, Nat.ble_eq]
  refine ⟨hl, ?_⟩
  by_cases hc0 : cap = 0
  · subst hc0; exact .inr rfl
  · left
    have hfirst : ∃ cs', W.cells? 0 (a.add (0 * P.cellsOf e)) (P.cellsOf e) = some cs' := by
      by_cases hl0 : len = 0
      · obtain ⟨r1, r2⟩ := hsp rfl
        have h5 := r2 0 (by omega)
        have h6 : rest[0]? = some (rest[0]'(by omega)) := List.getElem?_eq_getElem (by omega)
        rw [h6, Option.bind_eq_some_iff] at h5
        obtain ⟨cs', h7, -⟩ := h5
        rw [hl0, Nat.zero_add] at h7
        exact ⟨cs', h7⟩
      · have h5 := hel 0 (by omega)
        have h6 : elems[0]? = some (elems[0]'(by omega)) := List.getElem?_eq_getElem (by omega)
        rw [h6, Option.bind_eq_some_iff] at h5
        obtain ⟨cs', h7, -⟩ := h5
        exact ⟨cs', h7⟩
    obtain ⟨cs', h7⟩ := hfirst
    obtain ⟨-, k1, k2⟩ := World.cells?_some h7
    have h8 := k2 0 (by rw [he.1]; exact hpos)
    have h9 : (a.add (0 * P.cellsOf e)).add 0 = a := by unfold Addr.add; simp
    rw [h9] at h8
    have h10 : cs'[0]? = some (cs'[0]'(by rw [k1, he.1]; exact hpos)) := List.getElem?_eq_getElem _
    rw [h10] at h8
    unfold World.cell? at h8
    split at h8
    · split at h8
      · cases h8
      · rename_i hs; simpa using hs
    · cases h8

/- a struct, by its fields one behind the other -/
def ReadsF {α} (P : Program) (fs : List Field) (off : Nat) (d : Dec α) : Prop :=
  ∀ (H : Type) (enc : TypeId × Value → H) (W : World) (held : Bool) (fuel : Nat) (cs : List Value) (xs : List (DataW H × List MemPlace)), cs.length = off + d.n →
    (∀ (i : Nat) (f : Field), fs[i]? = some f → DataW.trod enc P W 0 (fun _ => true) held fuel f.type ((cs.drop f.offset).take (P.cellsOf f.type)) = xs[i]?) → xs.length = fs.length →
    (∀ v ∈ cs.drop off, good1 v = true) ∧ ∃ a, d.rd (baseOf W) ((cs.drop off).map av1) a

theorem ReadsF.nil {P : Program} {off : Nat} : ReadsF P [] off Dec.unit := by
  intro H enc W held fuel cs xs hl _ _
  have : cs.drop off = [] := by apply List.drop_eq_nil_of_le; simp [Dec.unit] at hl; omega
  rw [this]
  exact ⟨by simp, (), rfl⟩

theorem ReadsF.cons {α β} {P : Program} {f : Field} {fs : List Field} {off : Nat} {d : Dec α} {e : Dec β} (ho : f.offset = off) (hf : Reads P f.type d) (hfs : ReadsF P fs (off + d.n) e) : ReadsF P (f :: fs) off (Dec.pair d e) := by
  intro H enc W held fuel cs xs hl hx hxl
  have h0 := hx 0 f rfl
  have hx0 : xs[0]? = some (xs[0]'(by rw [hxl]; simp)) := List.getElem?_eq_getElem _
  rw [hx0, ho, hf.1] at h0
  obtain ⟨g1, g2, a, g3⟩ := hf.2 H enc W held fuel _ _ h0
  obtain ⟨k1, b, k2⟩ := hfs H enc W held fuel cs xs.tail (by simp [Dec.pair] at hl; omega) (fun i f' hi => by
    have := hx (i + 1) f' (by simpa using hi)
    rw [this]; simp) (by simp [hxl])
  have hsplit : cs.drop off = (cs.drop off).take d.n ++ cs.drop (off + d.n) := by
    rw [← List.drop_drop, List.take_append_drop]
  refine ⟨?_, (a, b), (((cs.drop off).take d.n).map av1), ((cs.drop (off + d.n)).map av1), ?_, g3, k2⟩
  · intro v hv
    rw [hsplit, List.mem_append] at hv
    exact hv.elim (g1 v) (k1 v)
  · rw [← List.map_append, ← hsplit]

theorem Reads.struct {α} {P : Program} {t : TypeId} {fs : Array Field} {d : Dec α} (ht : P.underlying t = some (.struct fs)) (hc : P.cellsOf t = d.n) (hf : ReadsF P fs.toList 0 d) : Reads P t d := by
  refine ⟨hc, fun H enc W held fuel cs x hx => ?_⟩
  obtain ⟨xs, n, -, -, hl, hxl, hx⟩ := DataW.trod_struct ht hx
  obtain ⟨h1, a, h2⟩ := hf H enc W held n cs xs (by omega) (fun i f hi => hx i f (by simpa using hi)) (by simpa using hxl)
  rw [List.drop_zero] at h1 h2
  exact ⟨h1, by omega, a, h2⟩

/- an argument: its value -/
def avOf : Value → AV
  | .agg c => .agg (c.toList.map av1)
  | v => av1 v

def Top {α} (P : Program) (t : TypeId) (d : Dec α) : Prop := ∀ (H : Type) (enc : TypeId × Value → H) (W : World) (base : Nat) (v : Value) (y : DataW H) (ps : List MemPlace),
  Value.okWide P W .any base t v → DataW.Trod enc P W 0 (fun _ => true) true t v y ps → (∀ μ, VR μ (avOf v) v) ∧ ∃ a, d.rd (baseOf W) [avOf v] a
def TopS {α} (P : Program) (t : TypeId) (d : Dec α) : Prop := ∀ (H : Type) (enc : TypeId × Value → H) (W : World) (base : Nat) (v : Value) (y : DataW H) (ps : List MemPlace),
  Value.okWide P W .any base t v → DataW.Trod enc P W 0 (fun _ => true) true t v y ps → (∀ μ, VR μ (avOf v) v) ∧ ∃ a cs, avOf v = .agg cs ∧ d.rd (baseOf W) cs a

theorem Top.one {α} {P : Program} {t : TypeId} {d : Dec α} (h : Reads P t d) (h1 : ∀ W base v, Value.okWide P W .any base t v → v.cells = #[v] ∧ avOf v = av1 v) : Top P t d := by
  intro H enc W base v y ps hok ⟨fuel, hf⟩
  obtain ⟨e1, e2⟩ := h1 W base v hok
  rw [e1] at hf
  obtain ⟨g1, g2, a, g3⟩ := h.2 H enc W true fuel _ _ hf
  have hg := g1 v (by simp)
  rw [e2]
  exact ⟨(vr1 hg).1, a, g3⟩

theorem Top.int {P : Program} {t : TypeId} {k : IntKind} (ht : P.underlying t = some (.int k)) (hc : P.cellsOf t = 1) : Top P t (Dec.int k) :=
  .one (.int ht hc) fun W base v hok => by obtain ⟨n, rfl⟩ := okWide_int ht hok; exact ⟨rfl, rfl⟩
theorem Top.bool {P : Program} {t : TypeId} (ht : P.underlying t = some .bool) (hc : P.cellsOf t = 1) : Top P t Dec.bool :=
  .one (.bool ht hc) fun W base v hok => by obtain ⟨n, rfl⟩ := okWide_bool ht hok; exact ⟨rfl, rfl⟩
theorem Top.str {P : Program} {t : TypeId} (ht : P.underlying t = some .string) (hc : P.cellsOf t = 1) : Top P t Dec.str :=
  .one (.str ht hc) fun W base v hok => by obtain ⟨n, rfl⟩ := okWide_string ht hok; exact ⟨rfl, rfl⟩
theorem Top.slice {α} {P : Program} {t e : TypeId} {d : Dec α} (ht : P.underlying t = some (.slice e)) (hc : P.cellsOf t = 1) (he : Reads P e d) (hpos : 0 < d.n) : Top P t (Dec.slice d) :=
  .one (.slice ht hc he hpos) fun W base v hok => by obtain ⟨a, l, c, rfl⟩ := okWide_slice ht hok; exact ⟨rfl, by cases a <;> rfl⟩

theorem vrs_map : ∀ (l : List Value), (∀ v ∈ l, good1 v = true) → (∀ μ, VRs μ (l.map av1) l) ∧ allOneP (l.map av1)
  | [], _ => ⟨fun _ => rfl, trivial⟩
  | v :: l, h => by
    have h0 := vr1 (h v (by simp))
    have h1 := vrs_map l fun w hw => h w (by simp [hw])
    exact ⟨fun μ => ⟨v, l, rfl, h0.1 μ, h1.1 μ⟩, h0.2, h1.2⟩

theorem TopS.struct {α} {P : Program} {t : TypeId} {fs : Array Field} {d : Dec α} (ht : P.underlying t = some (.struct fs)) (h : Reads P t d) : TopS P t d := by
  intro H enc W base v y ps hok ⟨fuel, hf⟩
  obtain ⟨cs, rfl, -⟩ := okWide_struct ht hok
  obtain ⟨g1, g2, a, g3⟩ := h.2 H enc W true fuel _ _ hf
  have hg := vrs_map cs.toList g1
  exact ⟨fun μ => ⟨cs, rfl, hg.1 μ, hg.2⟩, a, _, rfl, g3⟩

/- a list of arguments -/
def ArgsOk (P : Program) (W : World) (args : List Value) (avs : List AV) : Prop := ∀ μ, VRs μ avs args

theorem trodAll_stays {H : Type} {enc : TypeId × Value → H} {P : Program} (hl : laidOutB P = true) {W W' : World} {sp : Nat → Bool} : ∀ {ts : List TypeId} {vs : List Value} {ds : List (DataW H)} {ps : List MemPlace},
    (ts.all fun t => P.readableRec t && decide (t < P.types.size)) = true → DataW.TrodAll enc P W 0 (fun _ => true) true ts vs ds ps → (∀ p ∈ ps, W.sameAt W' p) → (∀ p ∈ ps, sp p.block = true) →
    DataW.TrodAll enc P W' 0 sp true ts vs ds ps
  | [], [], [], ps, _, h, _, _ => h
  | t :: ts, v :: vs, d :: ds, ps, ht, ⟨p, q, h1, h2, h3⟩, hs, hp => by
    subst h3
    simp only [List.all_cons, Bool.and_eq_true, decide_eq_true_eq] at ht
    refine ⟨p, q, WideElems.Trod_stays hl ht.1.1 ht.1.2 h1 (fun x hx => hs x (by simp [hx])) (fun x hx => hp x (by simp [hx])), ?_, rfl⟩
    exact trodAll_stays hl ht.2 h2 (fun x hx => hs x (by simp [hx])) (fun x hx => hp x (by simp [hx]))

/- the row around a run that says yes -/
theorem yes_post {P : Program} {f : FuncId} {fn : Func} {s : ChangeSpec} {G : Nat → Option AFunc} (hm : P.follows .mixedOrders = true) (hG : GOk P G) (hlo : laidOutB P = true) (hvars : s.vars = [])
    (hts : (fn.params.toList.all fun t => P.readableRec t && decide (t < P.types.size)) = true) {rt : TypeId} (hrt : fn.resultTypes = #[rt]) (hrb : P.underlying rt = some .bool)
    {H : Type} {enc : TypeId × Value → H} {W : World} {args : Array Value} {ds gs : List (DataW H)} {before : List MemPlace} (hW : DataW.Whole enc P fn.params.toList s.vars false W args.toList ds gs before)
    (hs : (s.fn H ds).results = [.lit (.bool true)] ∧ (s.fn H ds).args = ds ∧ (s.fn H ds).vars = []) {avs : List AV} (ha : ArgsOk P W args.toList avs)
    (hrun : WC (baseOf W) G f avs [] fun v _ => v = .bool true) :
    Calls P f args W fun e W' => ∃ v, e = .returned v ∧ s.post enc P fn false true false false W args v W' := by
  have hW0 := hW
  obtain ⟨p, q, hA, hV, rfl, hfz, hnd⟩ := hW
  rw [hvars] at hV
  obtain ⟨rfl, rfl⟩ := trodVars_none hV
  rw [List.append_nil] at hW0
  obtain ⟨n, v, h', hc, rfl⟩ := hrun
  have s0 : Sim W (fun _ => none) [] W := ⟨fun _ _ => rfl, Nat.le_refl _, rfl, rfl, rfl, (fun i p h => by cases h), (fun i o h => by simp at h), (fun i j p q _ _ h => by cases h)⟩
  refine (callN_sound hm (baseOf_ok W) hG hc s0 (us := args) (ha _)).mono ?_
  rintro e W' ⟨u, μ', rfl, hvr, st⟩
  have hu : u = .bool true := hvr
  subst hu
  have hb : Below W.heap.size W W' := ⟨st.sim.os, st.sim.tape, st.sim.output, st.sim.size, fun k hk => st.sim.base k hk⟩
  have hlt := hW0.lt
  refine ⟨_, rfl, ds, [], p, [], p, [], hW0, ?_, ?_, ?_, hb.frame _, fun h => by cases h⟩
  · rw [List.append_nil, hs.1, hrt]
    exact trodAll_mk1 (shut_bool hrb true)
  · rw [List.append_nil, hs.2.1]
    exact trodAll_stays hlo hts hA (fun x hx => hb.same (hlt x hx)) fun x hx => by simpa using hlt x hx
  · rw [List.append_nil, hs.2.2, hvars]
    exact rfl

end Go.Proofs.Ytohjmflbgohkhaa.E
