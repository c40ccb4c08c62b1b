/- Conversions, the builtin functions, calls; all operations. -/
import Derived.Test.YtohjmflbgohkhaaEngP
namespace Go.Proofs.Ytohjmflbgohkhaa.E
set_option linter.all false
open Go

section
variable {P : Program} {W : World} {μ : Mu} {h : AHeap} {w : World} {nt : Nat} {env : Env} {a : Act} {B : Base} {o : Oper} {ao : AOp} {v : AV} {h' : AHeap}

theorem freeze_ok (s : Sim W μ h w) {i cs p c t fr} (hi : h[i]? = some (.cells cs)) (hp : μ i = some p) (hw : w.heap[p.blk]? = some (.cells c t fr)) :
    Stp W μ h w μ h (w.freeze ⟨p.blk, c.size, none⟩ 1) := by
  obtain ⟨p', c', t', fr', hp', hw', hfr, hsz, hle, hvs, ho⟩ := s.obj i _ hi
  rw [hp] at hp'; cases hp'
  rw [hw] at hw'; cases hw'
  have hh : (w.freeze ⟨p.blk, c.size, none⟩ 1).heap[p.blk]? = some (.cells c t (if fr.1 == fr.2 then (c.size, c.size + 1) else (min fr.1 c.size, max fr.2 (c.size + 1)))) := by
    simp [World.freeze, Array.getElem?_modify, hw]
  have hx : ∀ x, x ≠ p.blk → (w.freeze ⟨p.blk, c.size, none⟩ 1).heap[x]? = w.heap[x]? := by
    intro x hx; simp [World.freeze, Array.getElem?_modify]; intro e; exact absurd e.symm hx
  have st := Stp.write s hi hp hw (cs' := cs) hh hx (by simp [World.freeze]) rfl rfl rfl (by
    right
    split
    · simp
    · rename_i hne
      simp at hne
      simp
      rcases hfr with q | q
      · exact absurd q hne
      · omega) hsz hle hvs ho
  have : h.set i (.cells cs) = h := by
    apply List.ext_getElem?
    intro j
    by_cases e : j = i
    · subst e; rw [List.getElem?_set_self (List.getElem?_eq_some_iff.1 hi).1, hi]
    · rw [List.getElem?_set_ne (fun q => e q.symm)]
  rw [this] at st; exact st

theorem run_markStringish {p : Place} {c : Array Value} {t : TypeId} {fr : Nat × Nat} (s : Sim W μ h w) (hw : w.heap[p.blk]? = some (.cells c t fr)) (off : Nat) :
    (markStringish ⟨p.blk, off, none⟩).run P w = .ok () (w.freeze ⟨p.blk, c.size, none⟩ 1) := by
  have hs : w.shape? p.blk = some (t, c.size) := by simp [World.shape?, hw]
  simp [markStringish, hs]

def byteStep (c : Value) (s : ByteArray) : Sem (ForInStep ByteArray) :=
  match c with
  | .int .u8 n => pure (.yield (s.push (UInt8.ofNat n.toNat)))
  | _ => do
    stuck "bytesToString: byte expected"
    pure (.yield s)

theorem bytes_loop : ∀ {l : List AV} {r : List Nat} {c : List Value} (acc : ByteArray), ofByteCells l = some r → VRs μ l c →
    ∃ b : ByteArray, (forIn c acc byteStep : Sem ByteArray).run P w = .ok b w ∧ bytesN b = bytesN acc ++ r
  | [], r, c, acc, hr, hv => by
    have hv : c = [] := hv
    subst hv
    simp [ofByteCells] at hr; subst hr
    exact ⟨acc, rfl, by simp⟩
  | x :: l, r, c, acc, hr, hv => by
    obtain ⟨u, m, rfl, hx, hm⟩ := hv
    have XI : ∃ k n, x = .int k n := by
      cases x <;> first | exact ⟨_, _, rfl⟩ | (exfalso; simp [ofByteCells] at hr; done)
    obtain ⟨k, n, rfl⟩ := XI
    have KN : ∃ j, k = .u8 ∧ n = Int.ofNat j := by
      cases k <;> cases n <;> first | exact ⟨_, rfl, rfl⟩ | (exfalso; simp [ofByteCells] at hr; done)
    obtain ⟨n, rfl, rfl⟩ := KN
    simp only [ofByteCells] at hr
    split at hr
    · rename_i r' hb hl
      cases hr
      have hx : u = .int .u8 (Int.ofNat n) := hx
      subst hx
      obtain ⟨b, e1, e2⟩ := bytes_loop (acc.push (UInt8.ofNat n)) hl hm
      refine ⟨b, ?_, ?_⟩
      · simp only [List.forIn_cons, Sem.run_bind]
        have : (byteStep (.int .u8 (Int.ofNat n)) acc).run P w = .ok (.yield (acc.push (UInt8.ofNat n))) w := rfl
        rw [this]
        exact e1
      · rw [e2]
        have hn : n < 256 := by simpa using hb
        have : bytesN (acc.push (UInt8.ofNat n)) = bytesN acc ++ [n] := by
          unfold bytesN
          simp [ByteArray.push]
          omega
        rw [this]; simp
    · cases hr

theorem bytesToStr_ok (hB : BaseOk W B) (s : Sim W μ h w) {x : AV} {u : Value} {n cs l} (hx : VR μ x u) (hns : isStrV x = false) (hsrc : srcCells B h 1 x = some (n, cs)) (hl : ofByteCells cs = some l) :
    ∃ b, (Conv.bytesToString u).run P w = .ok (.string b) w ∧ bytesN b = l ∧ ∃ q i c, u = .slice q i c := by
  cases x <;> simp only [srcCells, reduceCtorEq] at hsrc
  case str => simp [isStrV] at hns
  case nilslice =>
    have hx : u = .slice none 0 0 := hx
    subst hx
    simp only [Option.some.injEq, Prod.mk.injEq] at hsrc
    obtain ⟨rfl, rfl⟩ := hsrc
    simp [ofByteCells] at hl; subst hl
    exact ⟨.empty, rfl, rfl, _, _, _, rfl⟩
  case slice b o len cap e =>
    obtain ⟨a, cap', rfl, h1, h2, ha, _⟩ := hx.slice_inv
    split at hsrc
    · rename_i l' hl'
      simp only [Option.some.injEq, Prod.mk.injEq] at hsrc
      obtain ⟨rfl, rfl⟩ := hsrc
      have LD : ∃ c, (loadCells a len).run P w = .ok c w ∧ VRs μ l' c.toList := by
        rcases ha with ha | ha
        · obtain ⟨c, q1, q2, _⟩ := load_any (P := P) hB s hl' ha
          rw [Nat.mul_one] at q1
          exact ⟨c, q1, q2⟩
        · have hl0 : len = 0 := by omega
          have := loadN_len hl'
          rw [hl0] at this
          have : l' = [] := List.eq_nil_of_length_eq_zero (by simpa using this)
          rw [this, hl0]
          exact ⟨#[], by simp [loadCells, loadCellsFrom], rfl⟩
      obtain ⟨c, q1, q2⟩ := LD
      obtain ⟨b, e1, e2⟩ := bytes_loop (P := P) (w := w) ByteArray.empty hl q2
      refine ⟨b, ?_, by rw [e2]; rfl, _, _, _, rfl⟩
      have e3 : (forIn c ByteArray.empty byteStep : Sem ByteArray).run P w = .ok b w := by rw [← Array.forIn_toList]; exact e1
      simp only [Conv.bytesToString, Sem.run_bind, q1, Result.andThen_ok]
      show ((Sem.run P (forIn c ByteArray.empty byteStep) w).andThen fun a w' => Sem.run P (pure (Value.string a)) w') = _
      rw [e3]
      rfl
    · cases hsrc

theorem om_convert (hB : BaseOk W B) (s : Sim W μ h w) (he : EnvR μ nt env a.tmps) {t d : TypeId} {x : Operand} (hop : o.op = .convert t d x) (hc : cOp P nt o = some ao) (hv : evalOp B env h ao = some (.val v h')) :
    OpOk P W μ h w (execOp a.eval o) v h' ao := by
  simp only [cOp, hop] at hc
  split at hc
  · rename_i k1 k y hs hd hy
    cases hc
    have e1 := opd_ok (a := a) hy he
    simp only [evalOp] at hv
    split at hv
    · rename_i k2 n hx
      rw [hx] at e1
      simp only [Option.some.injEq, ARes.val.injEq] at hv
      obtain ⟨rfl, rfl⟩ := hv
      have e1 : a.eval x = .int k2 n := e1
      exact .val s (u := .int k (awrap k n)) (by simp [execOp, hop, convert, run_underlying hs, run_underlying hd, e1, Conv.intToInt, awrap_eq]) rfl
    · cases hv
  · rename_i y hs hd hy
    cases hc
    have e1 := opd_ok (a := a) hy he
    simp only [evalOp] at hv
    split at hv
    · rename_i sl hx
      rw [hx] at e1
      simp only [Option.some.injEq, ARes.val.injEq] at hv
      obtain ⟨rfl, rfl⟩ := hv
      obtain ⟨b, hu2, hb⟩ := e1
      exact .val s (u := .string b) (by simp [execOp, hop, convert, run_underlying hs, run_underlying hd, hu2]) ⟨b, rfl, hb⟩
    · cases hv
  · rename_i e y hs hd hy
    split at hc
    · rename_i hu
      cases hc
      have e1 := opd_ok (a := a) hy he
      simp only [evalOp] at hv
      split at hv
      · cases hv
      · rename_i hns
        split at hv
        · rename_i n cs hsrc
          split at hv
          · rename_i l hl
            simp only [Option.some.injEq, ARes.val.injEq] at hv
            obtain ⟨rfl, rfl⟩ := hv
            obtain ⟨b, hb1, hb2, q0, i0, c0, hu2⟩ := bytesToStr_ok (P := P) hB s e1 hns hsrc hl
            rw [hu2] at hb1
            exact .val s (u := .string b) (by simp [execOp, hop, convert, run_underlying hs, run_underlying hd, run_underlying hu, hu2, hb1]) ⟨b, rfl, hb2⟩
          · cases hv
        · cases hv
    · cases hc
  · rename_i e0 e y hs hd hy
    split at hc
    · rename_i heq hu
      cases hc
      have e1 := opd_ok (a := a) hy he
      simp only [evalOp] at hv
      split at hv
      · rename_i i off l c es hx
        rw [hx] at e1
        split at hv
        · rename_i cs hcs hl0
          simp only [Option.some.injEq, ARes.val.injEq] at hv
          obtain ⟨rfl, rfl⟩ := hv
          have hl0 : l ≠ 0 := by intro q; rw [q] at hl0; cases hl0
          obtain ⟨ad, cap', hu2, l1, l2, hpl, x0, x1⟩ := e1.slice_inv
          obtain ⟨p, c0, t0, fr, hp, hw0, _⟩ := s.obj i _ (hcells_eq hcs)
          have heq : t = d := by simpa using heq
          subst heq
          rw [hs] at hd; cases hd
          by_cases hz : cap' = 0
          · omega
          · have hpl : ad = ⟨p.blk, p.off + off, none⟩ := by
              rcases hpl with q | q
              · simp [plOf, hp] at q; exact q.symm
              · exact absurd q hz
            have mk := run_markStringish (P := P) (p := p) s hw0 (p.off + off)
            rw [← hpl] at mk
            refine ⟨μ, a.eval x, _, .inl ?_, by rw [hu2]; exact VR.slice_mk l1 l2 (.inl (by rw [hpl]; simp [plOf, hp])) x0 x1, freeze_ok s (hcells_eq hcs) hp hw0, by simp [kindOf]⟩
            simp only [execOp, hop, convert, Sem.run_bind, run_underlying hs, Result.andThen_ok, hu2, run_underlying hu, mk, beq_self_eq_true, Sem.run_pure]
        · cases hv
      · cases hv
    · cases hc
  · cases hc

/- the builtin functions -/
theorem foldM_ok {f : Int → Int → Int} {g : Value → Value → Sem Value} (hg : ∀ k x y, (g (.int k x) (.int k y)).run P w = .ok (.int k (f x y)) w) : ∀ {l : List AV} {x r : AV} {us : List Value} {u : Value},
    foldMM f x l = some r → VR μ x u → VRs μ l us → ∃ z, (us.foldlM g u).run P w = .ok z w ∧ VR μ r z
  | [], x, r, us, u, hr, hx, hl => by
    have hl : us = [] := hl
    subst hl
    simp [foldMM] at hr; subst hr
    exact ⟨u, rfl, hx⟩
  | y :: l, x, r, us, u, hr, hx, hl => by
    obtain ⟨v, m, rfl, hy, hm⟩ := hl
    cases x with
    | int k i =>
      cases y with
      | int k' j =>
        simp only [foldMM] at hr
        by_cases hk : k = k'
        · subst hk
          simp only [decide_true] at hr
          have hx : u = .int k i := hx
          have hy : v = .int k j := hy
          subst hx; subst hy
          obtain ⟨z, hz, hzr⟩ := foldM_ok hg (u := .int k (f i j)) hr rfl hm
          exact ⟨z, by simp only [List.foldlM_cons, Sem.run_bind, hg, Result.andThen_ok, hz], hzr⟩
        · simp [hk] at hr
      | _ => simp [foldMM] at hr
    | _ => simp [foldMM] at hr

theorem imax_eq (x y : Int) : imax x y = if y > x then y else x := by
  unfold imax; rw [iLt_eq]; by_cases h : x < y <;> simp [h]
theorem imin_eq (x y : Int) : imin x y = if y < x then y else x := by
  unfold imin; rw [iLt_eq]; by_cases h : y < x <;> simp [h]

theorem evs_opds {l : List Operand} {r} (h : opds nt l = some r) (he : EnvR μ nt env a.tmps) : VRs μ (evs env r) (l.map a.eval) := opds_ok he h

theorem opds_one {x : Array Operand} {y} (h : opds nt x.toList = some [y]) : ∃ x0, x = #[x0] ∧ opd nt x0 = some y := by
  obtain ⟨l⟩ := x
  cases l with
  | nil => simp [opds] at h
  | cons x0 l =>
    simp only [opds] at h
    split at h
    · rename_i y0 k h1 h2
      simp only [Option.some.injEq, List.cons.injEq] at h
      obtain ⟨rfl, rfl⟩ := h
      cases l with
      | nil => exact ⟨x0, rfl, h1⟩
      | cons x1 l => simp only [opds] at h2; split at h2 <;> simp at h2
    · cases h

theorem opds_two {x : Array Operand} {y z} (h : opds nt x.toList = some [y, z]) : ∃ x0 x1, x = #[x0, x1] ∧ opd nt x0 = some y ∧ opd nt x1 = some z := by
  obtain ⟨l⟩ := x
  cases l with
  | nil => simp [opds] at h
  | cons x0 l =>
    simp only [opds] at h
    split at h
    · rename_i y0 k h1 h2
      simp only [Option.some.injEq, List.cons.injEq] at h
      obtain ⟨rfl, rfl⟩ := h
      obtain ⟨x1, e, h3⟩ := opds_one (x := ⟨l⟩) h2
      cases e
      exact ⟨x0, x1, rfl, h1, h3⟩
    · cases h

theorem om_builtin (hB : BaseOk W B) (s : Sim W μ h w) (he : EnvR μ nt env a.tmps) {c : Call} {b : Builtin} (hop : o.op = .call c) (hcal : c.callee = .builtin b) (hc : cOp P nt o = some ao) (hv : evalOp B env h ao = some (.val v h')) :
    OpOk P W μ h w (execOp a.eval o) v h' ao := by
  simp only [cOp, hop, cCall, hcal] at hc
  have RES : execOp a.eval o = Go.builtin b c.argTypes o.type (c.args.map isConstB) (c.args.map a.eval) := by
    simp only [execOp, hop, resolve, hcal]
    rfl
  split at hc
  · rename_i args hargs
    cases b <;> simp only [reduceCtorEq] at hc
    case append =>
      split at hc
      · rename_i sx xx e u hu0 hu1
        cases hT0 : c.argTypes[0]? with
        | none => rw [hT0] at hu0; simp at hu0
        | some t =>
          rw [hT0] at hu0
          have hu0 : P.underlying t = some (.slice e) := hu0
          obtain ⟨x0, x1, hx, ho1, ho2⟩ := opds_two hargs
          have AP : ∀ i, P.info? e = some i → ((∃ e', P.underlying u = some (.slice e')) ∨ P.underlying u = some .string) →
              (match Nat.beq i.size 0, i.zero with
                | false, some z => match Nat.beq z.cells.size i.size && !Nat.beq i.bytes 0 with
                  | true => some (AOp.append i.size i.bytes sx xx)
                  | false => none
                | _, _ => none) = some ao → OpOk P W μ h w (execOp a.eval o) v h' ao := by
            intro i hi hu hc
            split at hc
            · rename_i z h0 hz
              split at hc
              · rename_i hzs
                cases hc
                simp only [Bool.and_eq_true, Bool.not_eq_true'] at hzs
                obtain ⟨hzs, hby⟩ := hzs
                have hzs : z.cells.size = i.size := Nat.eq_of_beq_eq_true hzs
                have hby : i.bytes ≠ 0 := by intro q; rw [q] at hby; cases hby
                have h0 : i.size ≠ 0 := by intro q; rw [q] at h0; cases h0
                simp only [evalOp] at hv
                split at hv
                · rename_i r h2 hr
                  simp only [Option.some.injEq, ARes.val.injEq] at hv
                  obtain ⟨rfl, rfl⟩ := hv
                  obtain ⟨μ', u', w', e1, e2, e3⟩ := append_ok (P := P) hB s (ty := o.type) hT0 hu1 hu0 hu hi hz hzs h0 hby (opd_ok (a := a) ho1 he) (opd_ok (a := a) ho2 he) hr
                  refine ⟨μ', u', w', .inl ?_, e2, e3, by simp [kindOf]⟩
                  rw [RES, hx]
                  have : (#[x0, x1] : Array Operand).map a.eval = #[a.eval x0, a.eval x1] := by simp
                  rw [this]
                  simp only [Go.builtin, Sem.run_bind, e1, Result.andThen_ok, Sem.run_pure]
                · cases hv
              · cases hc
            · cases hc
          split at hc
          · rename_i hus hi; exact AP _ hi (.inl ⟨_, hus⟩) hc
          · rename_i hus hi; exact AP _ hi (.inr hus) hc
          · cases hc
      · cases hc
    case len =>
      split at hc
      · rename_i x hu
        cases hc
        cases hT0 : c.argTypes[0]? with
        | none => rw [hT0] at hu; simp at hu
        | some t =>
          rw [hT0] at hu
          have hu : P.underlying t = some .string := hu
          obtain ⟨x0, hx, ho⟩ := opds_one hargs
          have e1 := opd_ok (a := a) ho he
          simp only [evalOp] at hv
          split at hv
          · rename_i sl hsl
            rw [hsl] at e1
            simp only [Option.some.injEq, ARes.val.injEq] at hv
            obtain ⟨rfl, rfl⟩ := hv
            obtain ⟨b, hu2, hb⟩ := e1
            refine .val s (u := .int .i64 b.size) ?_ (by rw [← hb, bytesN_size]; rfl)
            rw [RES, hx]
            simp [Go.builtin, Builtin.len_, hT0, hu2, run_underlying hu, goInt]
          · cases hv
      · rename_i x e hu
        cases hc
        cases hT0 : c.argTypes[0]? with
        | none => rw [hT0] at hu; simp at hu
        | some t =>
          rw [hT0] at hu
          have hu : P.underlying t = some (.slice e) := hu
          obtain ⟨x0, hx, ho⟩ := opds_one hargs
          have e1 := opd_ok (a := a) ho he
          simp only [evalOp] at hv
          split at hv
          · rename_i b off n cap es hsl
            rw [hsl] at e1
            simp only [Option.some.injEq, ARes.val.injEq] at hv
            obtain ⟨rfl, rfl⟩ := hv
            obtain ⟨ad, cap', hu2, _⟩ := e1.slice_inv
            refine .val s (u := .int .i64 n) ?_ rfl
            rw [RES, hx]
            simp [Go.builtin, Builtin.len_, hT0, hu2, run_underlying hu, goInt]
          · rename_i hsl
            rw [hsl] at e1
            simp only [Option.some.injEq, ARes.val.injEq] at hv
            obtain ⟨rfl, rfl⟩ := hv
            have hu2 : a.eval x0 = .slice none 0 0 := e1
            refine .val s (u := .int .i64 0) ?_ rfl
            rw [RES, hx]
            simp [Go.builtin, Builtin.len_, hT0, hu2, run_underlying hu, goInt]
          · cases hv
      · rename_i y n e hu
        cases hc
        cases hT0 : c.argTypes[0]? with
        | none => rw [hT0] at hu; simp at hu
        | some t =>
          rw [hT0] at hu
          have hu : P.underlying t = some (.array n e) := hu
          obtain ⟨x0, hx, ho⟩ := opds_one hargs
          simp only [evalOp, Option.some.injEq, ARes.val.injEq] at hv
          obtain ⟨rfl, rfl⟩ := hv
          refine .val s (u := .int .i64 n) ?_ rfl
          rw [RES, hx]
          simp [Go.builtin, Builtin.len_, hT0, run_underlying hu, goInt]
      · cases hc
    case max =>
      cases hc
      simp only [evalOp] at hv
      split at hv
      · rename_i v0 r hev
        split at hv
        · rename_i r' hr
          simp only [Option.some.injEq, ARes.val.injEq] at hv
          obtain ⟨rfl, rfl⟩ := hv
          have e1 := evs_opds (a := a) hargs he
          rw [hev] at e1
          obtain ⟨u0, m, e2, hx, hm⟩ := e1
          obtain ⟨z, hz, hzr⟩ := foldM_ok (P := P) (w := w) (f := imax) (g := Builtin.max2) (by intro k x y; simp [Builtin.max2, imax_eq]) hr hx hm
          refine .val s (u := z) ?_ hzr
          rw [RES]
          have : (c.args.map a.eval).toList = u0 :: m := by simpa using e2
          simp only [Go.builtin, Builtin.max_, this, Sem.run_bind, hz, Result.andThen_ok, Sem.run_pure]
        · cases hv
      · cases hv
    case min =>
      cases hc
      simp only [evalOp] at hv
      split at hv
      · rename_i v0 r hev
        split at hv
        · rename_i r' hr
          simp only [Option.some.injEq, ARes.val.injEq] at hv
          obtain ⟨rfl, rfl⟩ := hv
          have e1 := evs_opds (a := a) hargs he
          rw [hev] at e1
          obtain ⟨u0, m, e2, hx, hm⟩ := e1
          obtain ⟨z, hz, hzr⟩ := foldM_ok (P := P) (w := w) (f := imin) (g := Builtin.min2) (by intro k x y; simp [Builtin.min2, imin_eq]) hr hx hm
          refine .val s (u := z) ?_ hzr
          rw [RES]
          have : (c.args.map a.eval).toList = u0 :: m := by simpa using e2
          simp only [Go.builtin, Builtin.min_, this, Sem.run_bind, hz, Result.andThen_ok, Sem.run_pure]
        · cases hv
      · cases hv
    case copy =>
      split at hc
      · rename_i d0 s0 e hu
        split at hc
        · rename_i n hn
          cases hc
          cases hT0 : c.argTypes[0]? with
          | none => rw [hT0] at hu; simp at hu
          | some t =>
            rw [hT0] at hu
            have hu : P.underlying t = some (.slice e) := hu
            obtain ⟨x0, x1, hx, ho1, ho2⟩ := opds_two hargs
            have e1 := opd_ok (a := a) ho1 he
            have e2 := opd_ok (a := a) ho2 he
            simp only [evalOp] at hv
            split at hv
            · rename_i b off len cap es m cs hd hsrc
              rw [hd] at e1
              obtain ⟨ad, cap', hu2, l1, l2, hpl, _⟩ := e1.slice_inv
              obtain ⟨hn1, hnl, hno, hnf⟩ := src_ok (P := P) hB s e2 hsrc
              split at hv
              · rename_i h2 hst
                simp only [Option.some.injEq, ARes.val.injEq] at hv
                obtain ⟨rfl, rfl⟩ := hv
                obtain ⟨cc, hc1, hc2⟩ := hnf w s (Nat.min m len) (Nat.min_le_left _ _)
                have hpl' : plOf μ b off = some ad ∨ cs.take (Nat.min m len * n) = [] := by
                  rcases hpl with q | q
                  · exact .inl q
                  · right
                    have : Nat.min m len = 0 := by
                      have h9 : Nat.min m len ≤ len := Nat.min_le_right m len
                      omega
                    rw [this]; simp
                obtain ⟨w', hsw, st⟩ := store_any (P := P) s hst hpl' hc2 (hno.take _)
                refine ⟨μ, .int .i64 (Nat.min m len), w', .inl ?_, rfl, st, by simp [kindOf]⟩
                rw [RES, hx]
                have : (#[x0, x1] : Array Operand).map a.eval = #[a.eval x0, a.eval x1] := by simp
                rw [this, hu2]
                simp only [Go.builtin, Builtin.copy_, hT0, Array.getElem?_eq_getElem, Sem.run_bind, run_underlying hu]
                simp [run_underlying hu, hn1, sizeB_run hn, hc1, hsw, goInt]
              · cases hv
            · rename_i q hd hsrc
              obtain ⟨m, cs⟩ := q
              rw [hd] at e1
              have hu2 : a.eval x0 = .slice none 0 0 := e1
              simp only [Option.some.injEq, ARes.val.injEq] at hv
              obtain ⟨rfl, rfl⟩ := hv
              obtain ⟨hn1, hnl, hno, hnf⟩ := src_ok (P := P) hB s e2 hsrc
              obtain ⟨cc, hc1, hc2⟩ := hnf w s 0 (Nat.zero_le _)
              refine .val s (u := .int .i64 0) ?_ rfl
              rw [RES, hx]
              have : (#[x0, x1] : Array Operand).map a.eval = #[a.eval x0, a.eval x1] := by simp
              rw [this, hu2]
              have h00 : Nat.min m 0 = 0 := by simp
              simp [Go.builtin, Builtin.copy_, hT0, run_underlying hu, hn1, sizeB_run hn, h00, hc1, goInt]
            · cases hv
        · cases hc
      · cases hc
    case clear =>
      split at hc
      · rename_i x e hu
        split at hc
        · rename_i n z hn hz
          split at hc
          · rename_i hzn
            cases hc
            cases hT0 : c.argTypes[0]? with
            | none => rw [hT0] at hu; simp at hu
            | some t =>
              rw [hT0] at hu
              have hu : P.underlying t = some (.slice e) := hu
              obtain ⟨x0, hx, ho⟩ := opds_one hargs
              have e1 := opd_ok (a := a) ho he
              simp only [Bool.and_eq_true, Bool.not_eq_true'] at hzn
              obtain ⟨hzn, hn0⟩ := hzn
              have hzn : z.length = n := Nat.eq_of_beq_eq_true hzn
              have hn0 : n ≠ 0 := by intro q; rw [q] at hn0; cases hn0
              obtain ⟨zv, hr, hvs, hone⟩ := zeroB_run hz w
              have hzl := VRs.length (hvs μ)
              simp at hzl
              simp only [evalOp] at hv
              split at hv
              · rename_i b off len cap es hsl
                rw [hsl] at e1
                obtain ⟨ad, cap', hu2, l1, l2, hpl, _⟩ := e1.slice_inv
                split at hv
                · rename_i h2 hst
                  simp only [Option.some.injEq, ARes.val.injEq] at hv
                  obtain ⟨rfl, rfl⟩ := hv
                  rw [rl_out] at hst
                  by_cases hl0 : len = 0
                  · subst hl0
                    obtain ⟨w', hsw, st⟩ := store_any (P := P) (a := ad) (us := []) s hst (.inr rfl) rfl trivial
                    have : w' = w := by simp [storeCells] at hsw; exact hsw.symm
                    subst this
                    refine ⟨μ, .tuple #[], _, .inl ?_, ⟨#[], rfl, rfl⟩, st, by simp [kindOf]⟩
                    rw [RES, hx]
                    simp [Go.builtin, Builtin.clear_, hT0, hu2, run_underlying hu]
                  · have hpl' : plOf μ b off = some ad := by
                      rcases hpl with q | q
                      · exact q
                      · omega
                    have hzc : (Builtin.zeroCells zv.cells len).toList = (List.replicate len zv.cells.toList).flatten := by
                      unfold Builtin.zeroCells
                      exact range_mod _ (by omega) len
                    obtain ⟨w', hsw, st⟩ := store_any (P := P) s hst (.inl hpl') (timesL_ok (hvs μ) len) (timesL_one hone len)
                    refine ⟨μ, .tuple #[], w', .inl ?_, ⟨#[], rfl, rfl⟩, st, by simp [kindOf]⟩
                    rw [RES, hx]
                    have : (#[x0] : Array Operand).map a.eval = #[a.eval x0] := by simp
                    rw [this, hu2]
                    obtain ⟨len', rfl⟩ : ∃ k, len = k + 1 := ⟨len - 1, by omega⟩
                    simp [Go.builtin, Builtin.clear_, hT0, run_underlying hu, hr, hzc, hsw]
                · cases hv
              · rename_i hsl
                rw [hsl] at e1
                simp only [Option.some.injEq, ARes.val.injEq] at hv
                obtain ⟨rfl, rfl⟩ := hv
                have hu2 : a.eval x0 = .slice none 0 0 := e1
                refine .val s (u := .tuple #[]) ?_ ⟨#[], rfl, rfl⟩
                rw [RES, hx]
                simp [Go.builtin, Builtin.clear_, hT0, hu2, run_underlying hu]
              · cases hv
          · cases hc
        · cases hc
      · cases hc
  · cases hc

end
end Go.Proofs.Ytohjmflbgohkhaa.E
