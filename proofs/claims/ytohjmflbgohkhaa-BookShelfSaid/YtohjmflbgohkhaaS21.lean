/- Both shelves: one operation of the script keeps them alike. -/
import Derived.Test.YtohjmflbgohkhaaS18
import Derived.Test.YtohjmflbgohkhaaS8
namespace Go.Proofs.Ytohjmflbgohkhaa.E
set_option linter.all false
open Go

def encP (PS : List (Nat × List Nat)) : List (Nat × List AV) := PS.map fun w => (w.1, byteCells w.2)
def encD (DS : List (List Nat)) : List (List AV) := DS.map byteCells
def Small (s : List Nat) : Prop := ∀ c ∈ s, c < 256

theorem bc_len : ∀ s, (byteCells s).length = s.length
  | [] => rfl
  | c :: s => by simp [byteCells, bc_len s]
theorem bc_app : ∀ s t, byteCells (s ++ t) = byteCells s ++ byteCells t
  | [], t => rfl
  | c :: s, t => by simp [byteCells, bc_app s t]
theorem bc_rep : ∀ n, byteCells (List.replicate n 0) = List.replicate n z8
  | 0 => rfl
  | n + 1 => by simp [List.replicate_succ, byteCells, bc_rep n, z8]
theorem bc_take : ∀ (n : Nat) (s : List Nat), byteCells (s.take n) = (byteCells s).take n
  | 0, _ => by simp [byteCells]
  | n + 1, [] => by simp [byteCells]
  | n + 1, c :: s => by simp [byteCells, bc_take n s]
theorem bc_drop : ∀ (n : Nat) (s : List Nat), byteCells (s.drop n) = (byteCells s).drop n
  | 0, _ => by simp
  | n + 1, [] => by simp [byteCells]
  | n + 1, c :: s => by simp [byteCells, bc_drop n s]
theorem bc_pad (s : List Nat) : byteCells (padN s) = pad (byteCells s) := by
  rw [padN, bc_app, bc_rep, pad, bc_len]
theorem bc_of : ∀ {s}, Small s → ofByteCells (byteCells s) = some s
  | [], _ => rfl
  | c :: s, h => by
    have h1 : Nat.blt c 256 = true := by rw [Nat.blt_eq]; exact h c (by simp)
    simp only [byteCells, ofByteCells, h1, bc_of (s := s) fun x hx => h x (by simp [hx])]
theorem bc_inj : ∀ {s t}, byteCells s = byteCells t → s = t
  | [], [], _ => rfl
  | [], c :: t, h => by simp [byteCells] at h
  | c :: s, [], h => by simp [byteCells] at h
  | c :: s, d :: t, h => by
    simp [byteCells] at h
    rw [Int.ofNat.inj h.1, bc_inj h.2]
theorem bc_tear {f : Nat} {s : List Nat} (hs : s.length = 64) (hf : f ≤ 64) : byteCells (tearS f s) = tearL f (byteCells s) := by
  rw [tearS, padN, bc_app, bc_rep, bc_take, tearL]
  simp [hs, Nat.min_eq_left hf]

theorem small_pad {s} (h : Small s) : Small (padN s) := by
  intro c hc
  rcases List.mem_append.1 hc with h1 | h1
  · exact h c h1
  · rw [List.eq_of_mem_replicate h1]; omega
theorem small_tear {f s} (h : Small s) : Small (tearS f s) := small_pad fun c hc => h c (List.mem_of_mem_take hc)

theorem encP_len (PS) : (encP PS).length = PS.length := by simp [encP]
theorem encD_len (DS) : (encD DS).length = DS.length := by simp [encD]
theorem encD_get {DS : List (List Nat)} {i : Nat} {s} (h : DS[i]? = some s) : (encD DS)[i]? = some (byteCells s) := by simp [encD, h]
theorem encD_set (DS : List (List Nat)) (i : Nat) (s) : encD (DS.set i s) = (encD DS).set i (byteCells s) := by simp [encD]
theorem laid_enc : ∀ (PS : List (Nat × List Nat)) (DS : List (List Nat)), laid (encD DS) (encP PS) = encD (laidG DS PS)
  | [], DS => rfl
  | w :: PS, DS => by
    show laid ((encD DS).set w.1 (byteCells w.2)) (encP PS) = encD (laidG (DS.set w.1 w.2) PS)
    rw [← encD_set, laid_enc PS]
theorem crash_enc (ks : List Int) : ∀ (PS : List (Nat × List Nat)) (i : Nat) (DS : List (List Nat)), crashed ks i (encP PS) (encD DS) = encD (crashedN ks i PS DS)
  | [], i, DS => rfl
  | w :: PS, i, DS => by
    show crashed ks (i + 1) (encP PS) (crash1 ks (encD DS) i (w.1, byteCells w.2)) = encD (crashedN ks (i + 1) PS (crash1N ks DS i w))
    have : crash1 ks (encD DS) i (w.1, byteCells w.2) = encD (crash1N ks DS i w) := by
      unfold crash1 crash1N
      rw [encD_set, bc_app, bc_take, bc_drop]
      congr 2
      simp only [encD, List.getD_eq_getElem?_getD, List.getElem?_map]
      cases DS[w.1]? <;> rfl
    rw [this, crash_enc ks PS]
theorem tear_encP {i f : Nat} (hf : f ≤ 64) : ∀ {PS : List (Nat × List Nat)}, (∀ w ∈ PS, w.2.length = 64) → (encP PS).map (tearW i f) = encP (PS.map (tearN i f))
  | [], _ => rfl
  | w :: PS, h => by
    have h1 := h w (by simp)
    have h2 := tear_encP (i := i) hf (PS := PS) fun x hx => h x (by simp [hx])
    show tearW i f (w.1, byteCells w.2) :: (encP PS).map (tearW i f) = _
    rw [h2]
    show _ = (((tearN i f w).1, byteCells (tearN i f w).2)) :: encP (PS.map (tearN i f))
    congr 1
    unfold tearW tearN
    split
    · rw [bc_tear h1 hf]
    · rfl

/- a tear of what is durable and of what is pending is a tear of what is seen -/
theorem laid_tear {i f : Nat} : ∀ {PS : List (Nat × List Nat)} {DS : List (List Nat)} {s t}, (∀ w ∈ PS, w.1 < DS.length) → DS[i]? = some s → (laidG DS PS)[i]? = some t →
    laidG (DS.set i (tearS f s)) (PS.map (tearN i f)) = (laidG DS PS).set i (tearS f t)
  | [], DS, s, t, _, h1, h2 => by
    have h2 : DS[i]? = some t := h2
    rw [h1] at h2; cases h2; rfl
  | w :: PS, DS, s, t, hP, h1, h2 => by
    have hi : i < DS.length := (List.getElem?_eq_some_iff.1 h1).1
    by_cases hw : w.1 = i
    · have e1 : tearN i f w = (w.1, tearS f w.2) := by simp [tearN, hw]
      show laidG ((DS.set i (tearS f s)).set (tearN i f w).1 (tearN i f w).2) (PS.map (tearN i f)) = (laidG (DS.set w.1 w.2) PS).set i (tearS f t)
      rw [e1, hw, List.set_set]
      have := laid_tear (i := i) (f := f) (PS := PS) (DS := DS.set i w.2) (s := w.2) (t := t) (fun x hx => by simpa using hP x (by simp [hx])) (by simp [hi]) (by have h3 : (laidG (DS.set w.1 w.2) PS)[i]? = some t := h2; rw [hw] at h3; exact h3)
      rw [List.set_set] at this
      exact this
    · have e1 : tearN i f w = w := by simp [tearN, hw]
      show laidG ((DS.set i (tearS f s)).set (tearN i f w).1 (tearN i f w).2) (PS.map (tearN i f)) = (laidG (DS.set w.1 w.2) PS).set i (tearS f t)
      rw [e1, List.set_comm _ _ (Ne.symm hw)]
      exact laid_tear (i := i) (f := f) (PS := PS) (DS := DS.set w.1 w.2) (s := s) (t := t) (fun x hx => by simpa using hP x (by simp [hx])) (by rw [List.getElem?_set_ne hw]; exact h1) h2

structure Both (h : AHeap) (s di ni pi m dd q : Nat) (DS : List (List Nat)) (PS : List (Nat × List Nat)) (pw : Int) (dn : Bool) : Prop where
  S : ShelfAt h s di ni pi (encD DS) (encD (laidG DS PS)) (encP PS) pw dn
  M : ModAt h m dd q DS PS pw dn
  sD : ∀ t ∈ DS, Small t
  sP : ∀ w ∈ PS, Small w.2
  rng : -1 ≤ pw ∧ pw < 2 ^ 63
  pos : 0 < DS.length
  a1 : m ≠ s ∧ m ≠ di ∧ m ≠ ni ∧ (PS ≠ [] → m ≠ pi)
  a2 : dd ≠ s ∧ dd ≠ di ∧ dd ≠ ni ∧ (PS ≠ [] → dd ≠ pi)
  a3 : PS ≠ [] → q ≠ s ∧ q ≠ di ∧ q ≠ ni ∧ q ≠ pi

theorem encP_nil {PS} : encP PS ≠ [] ↔ PS ≠ [] := by cases PS <;> simp [encP]
theorem pf_enc (PS : List (Nat × List Nat)) (pi : Nat) : pf (encP PS) pi = if PS = [] then [] else [pi] := by cases PS <;> rfl
theorem qf_if (PS : List (Nat × List Nat)) (q : Nat) : qf PS q = if PS = [] then [] else [q] := by cases PS <;> rfl

section
variable {B : Base} {h : AHeap} {s di ni pi m dd q : Nat} {DS : List (List Nat)} {PS : List (Nat × List Nat)} {pw : Int} {dn : Bool}

theorem Both.lt (A : Both h s di ni pi m dd q DS PS pw dn) : s < h.length ∧ di < h.length ∧ ni < h.length ∧ (PS ≠ [] → pi < h.length) ∧ m < h.length ∧ dd < h.length ∧ (PS ≠ [] → q < h.length) := by
  obtain ⟨ed, en, hs⟩ := A.S.hs
  exact ⟨hc_lt hs, hc_lt A.S.hd, hc_lt A.S.hn, fun hne => hc_lt (A.S.hp (encP_nil.2 hne)).1, hc_lt A.M.hm, hc_lt A.M.hd, fun hne => hc_lt (A.M.hp hne).1⟩

theorem Both.keep {h' : AHeap} (A : Both h s di ni pi m dd q DS PS pw dn) (sm : Same h h' []) : Both h' s di ni pi m dd q DS PS pw dn :=
  ⟨A.S.keep sm (by simp), A.M.keep sm (by simp), A.sD, A.sP, A.rng, A.pos, A.a1, A.a2, A.a3⟩

/- what is seen -/
theorem Both.seen (A : Both h s di ni pi m dd q DS PS pw dn) {i : Nat} (hi : i < DS.length) : ∃ t, (laidG DS PS)[i]? = some t ∧ Small t ∧ t.length = 64 := by
  have hl : i < (laidG DS PS).length := by rw [laidG_len]; exact hi
  refine ⟨_, List.getElem?_eq_getElem hl, ?_⟩
  have key : ∀ (PS : List (Nat × List Nat)) (DS : List (List Nat)), (∀ t ∈ DS, Small t ∧ t.length = 64) → (∀ w ∈ PS, Small w.2 ∧ w.2.length = 64) → ∀ t ∈ laidG DS PS, Small t ∧ t.length = 64 := by
    intro PS
    induction PS with
    | nil => intro DS hD _ t ht; exact hD t ht
    | cons w PS ih =>
      intro DS hD hP t ht
      refine ih (DS.set w.1 w.2) (fun u hu => ?_) (fun x hx => hP x (by simp [hx])) t ht
      rcases List.mem_or_eq_of_mem_set hu with h1 | h1
      · exact hD u h1
      · rw [h1]; exact hP w (by simp)
  exact key PS DS (fun t ht => ⟨A.sD t ht, A.M.aD t ht⟩) (fun w hw => ⟨A.sP w hw, (A.M.aP w hw).1⟩) _ (List.getElem_mem hl)

end
end Go.Proofs.Ytohjmflbgohkhaa.E
