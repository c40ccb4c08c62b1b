/- Slices, conversions, the builtin functions, compiled; and calls. -/
import Derived.Test.YtohjmflbgohkhaaEngO
namespace Go.Proofs.Ytohjmflbgohkhaa.E
set_option linter.all false
open Go

section
variable {P : Program} {W : World} {μ : Mu} {h : AHeap} {w : World} {nt : Nat} {env : Env} {a : Act} {B : Base} {o : Oper} {ao : AOp} {v : AV} {h' : AHeap}

theorem om_makeSlice (s : Sim W μ h w) (he : EnvR μ nt env a.tmps) {t : TypeId} {x y : Operand} (hop : o.op = .makeSlice t x y) (hc : cOp P nt o = some ao) (hv : evalOp B env h ao = some (.val v h')) :
    OpOk P W μ h w (execOp a.eval o) v h' ao := by
  simp only [cOp, hop] at hc
  split at hc
  · rename_i e x' y' hu hx hy
    split at hc
    · rename_i i z hi hz
      split at hc
      · rename_i hzn
        cases hc
        simp only [evalOp] at hv
        split at hv
        · rename_i k1 l k2 c hl hcc
          split at hv
          · rename_i hb
            simp only [Option.some.injEq, ARes.val.injEq] at hv
            obtain ⟨rfl, rfl⟩ := hv
            simp at hzn
            obtain ⟨hzn, hn0⟩ := hzn
            have hn0 : i.size ≠ 0 := by intro e; rw [e] at hn0; cases hn0
            have e1 := opd_ok (a := a) hx he
            have e2 := opd_ok (a := a) hy he
            rw [hl] at e1; rw [hcc] at e2
            have e1 : a.eval x = .int k1 (Int.ofNat l) := e1
            have e2 : a.eval y = .int k2 (Int.ofNat c) := e2
            simp only [Bool.and_eq_true] at hb
            obtain ⟨⟨hb1, hb2⟩, hb3⟩ := hb
            have hb1 := Nat.le_of_ble_eq_true hb1
            have hb2 := Nat.le_of_ble_eq_true hb2
            have hb3 := Nat.le_of_ble_eq_true hb3
            obtain ⟨zv, hr, hvs, hone⟩ := zeroB_run hz w
            have hzl := VRs.length (hvs μ)
            simp at hzl
            have wl : IntKind.i64.wrap (l : Int) = l := IntWalk.i64_in _ ⟨by omega, by omega⟩
            have wc : IntKind.i64.wrap (c : Int) = c := IntWalk.i64_in _ ⟨by omega, by omega⟩
            have CELLS : ∃ zc : Array Value, ((c * i.size = 0 ∧ zc = #[]) ∨ (c * i.size ≠ 0 ∧ zc = zv.cells)) ∧ VRs μ (timesL c z) ((Array.range (c * i.size)).map (zc[· % zc.size]!)).toList := by
              by_cases hz0 : c * i.size = 0
              · refine ⟨#[], .inl ⟨hz0, rfl⟩, ?_⟩
                have : timesL c z = [] := List.eq_nil_of_length_eq_zero (by rw [timesL_length, hzn, hz0])
                rw [this, hz0]
                have : ((Array.range 0).map ((#[] : Array Value)[· % (#[] : Array Value).size]!)).toList = [] := by simp
                rw [this]; exact rfl
              · refine ⟨zv.cells, .inr ⟨hz0, rfl⟩, ?_⟩
                rw [show i.size = zv.cells.size by omega, range_mod _ (by omega)]
                exact timesL_ok (hvs μ) c
            obtain ⟨zc, e0, e00⟩ := CELLS
            rw [rl_out]
            have hcl := VRs.length e00
            simp at hcl
            have st := Stp.new (t := e) s (cs := timesL c z) (c := (Array.range (c * i.size)).map (zc[· % zc.size]!)) (by rw [take_len (by simp [hcl])]; exact e00) (timesL_one hone c) (by simp; omega)
            refine ⟨_, .slice (some ⟨w.heap.size, 0, none⟩) l c, _, .inl ?_, ?_, st, by simp [kindOf]⟩
            · have f1 : (decide ((c : Int) < 0) || decide ((i.bytes : Int) * (c : Int) > 2 ^ 48)) = false := by
                have : (i.bytes : Int) * (c : Int) = ((c * i.bytes : Nat) : Int) := by rw [Nat.mul_comm]; simp
                rw [this]
                simp; omega
              have f2 : ¬ ((l : Int) < 0) := by omega
              have f3 : ¬ ((l : Int) > (c : Int)) := by omega
              have e1' : a.eval x = .int k1 (l : Int) := e1
              have e2' : a.eval y = .int k2 (c : Int) := e2
              rcases e0 with ⟨q, rfl⟩ | ⟨q, rfl⟩
              · simp only [execOp, hop, Instr.makeSlice, Sem.run_bind, run_underlying hu, Result.andThen_ok, asInt, e1', e2', asIntOf, Sem.run_pure, typeInfo, hi, run_program, wl, wc, f1, f2, f3]
                simp [sizeOf, typeInfo, hi, q, newRow]
              · simp only [execOp, hop, Instr.makeSlice, Sem.run_bind, run_underlying hu, Result.andThen_ok, asInt, e1', e2', asIntOf, Sem.run_pure, typeInfo, hi, run_program, wl, wc, f1, f2, f3]
                have q' : ¬ (c = 0 ∨ i.size = 0) := by
                  rintro (rfl | q2)
                  · exact q (by simp)
                  · exact hn0 q2
                simp [sizeOf, typeInfo, hi, q', newRow, hr]
                try (intro q2; exact absurd q2 q)
            · exact ⟨hb1, _, rfl, .inl (by simp [plOf, muNew])⟩
          · cases hv
        · cases hv
      · cases hc
    · cases hc
  · cases hc

theorem slice_shift {b off} {ad : Addr} {l m n : Nat} (hpl : plOf μ b off = some ad ∨ m = 0) (hl : l ≤ m) :
    plOf μ b (off + l * n) = some (if m = l then ad else ad.add (l * n)) ∨ m - l = 0 := by
  by_cases e : m = l
  · right; omega
  · rw [if_neg e]
    rcases hpl with q | q
    · exact .inl (plOf_add q)
    · omega

theorem om_slice (s : Sim W μ h w) (he : EnvR μ nt env a.tmps) {t : TypeId} {x : Operand} {lo hi mx} (hop : o.op = .slice t x lo hi mx) (hc : cOp P nt o = some ao) (hv : evalOp B env h ao = some (.val v h')) :
    OpOk P W μ h w (execOp a.eval o) v h' ao := by
  simp only [cOp, hop] at hc
  split at hc
  · rename_i x' lo' hi' mx' hx h1 h2 h3
    have e1 := opd_ok (a := a) hx he
    split at hc
    · rename_i e hu
      split at hc
      · rename_i n hn
        cases hc
        simp only [evalOp] at hv
        split at hv
        · rename_i b off len cap es hxx
          rw [hxx] at e1
          obtain ⟨ad, cap', hu2, l1, l2, hpl, x0, x1⟩ := e1.slice_inv
          split at hv
          · rename_i l hh m hes0 hb
            simp only [Option.some.injEq, ARes.val.injEq] at hv
            obtain ⟨rfl, rfl⟩ := hv
            obtain ⟨m', hr, q1, q2, q3, q4, q5, q6⟩ := bounds_ok (P := P) (w := w) he h1 h2 h3 hb true len cap' rfl l2 l1
            refine .val s (u := .slice (some (if m' = l then ad else ad.add (l * n))) (hh - l) (m' - l)) ?_ ?_
            · simp only [execOp, hop, Instr.sliceAt, Instr.slice, Sem.run_bind, run_underlying hu, Result.andThen_ok, hu2, hr, sizeB_run hn, Sem.run_pure]
              by_cases q : m' = l <;> simp [q]
            · have hm' : mx' = none → m = cap ∧ m' = cap' := q6
              refine VR.slice_mk (by omega) (by omega) (slice_shift (n := n) (m := m') ?_ (by omega)) ?_ ?_
              · rcases hpl with q | q
                · exact .inl q
                · right
                  cases mx' with
                  | none => have := q6 rfl; omega
                  | some y => have := q5 (by simp); omega
              · intro hes
                cases mx' with
                | none => have := q6 rfl; have := x0 hes; omega
                | some y => have := q5 (by simp); omega
              · intro e' hes
                cases mx' with
                | none =>
                  obtain ⟨i, p, rfl, hp, hroom⟩ := x1 e' hes
                  refine ⟨i, p, rfl, hp, ?_⟩
                  have h9 : m' = cap' := (q6 rfl).2
                  subst h9
                  have h8 : e' = n := by
                    have hes : es = some e' := hes
                    subst hes; simpa [esOk] using hes0
                  subst h8
                  have h7 : l * e' + (m' - l) * e' = m' * e' := by rw [← Nat.add_mul]; congr 1; omega
                  omega
                | some y => simp at hes
          · cases hv
        · rename_i hxx
          rw [hxx] at e1
          have hu2 : a.eval x = .slice none 0 0 := e1
          split at hv
          · rename_i q hb
            simp only [Option.some.injEq, ARes.val.injEq] at hv
            obtain ⟨rfl, rfl⟩ := hv
            obtain ⟨l, hh, m⟩ := q
            obtain ⟨m', hr, q1, q2, q3, q4, q5, q6⟩ := bounds_ok (P := P) (w := w) he h1 h2 h3 hb true 0 0 rfl (Nat.le_refl _) (Nat.le_refl _)
            have hm0 : m' = 0 := by
              cases mx' with
              | none => exact (q6 rfl).2
              | some y => have := q5 (by simp); omega
            refine .val s (u := .slice none 0 0) ?_ rfl
            have hl0 : l = 0 := by omega
            have hh0 : hh = 0 := by omega
            subst hm0; subst hl0; subst hh0
            simp only [execOp, hop, Instr.sliceAt, Instr.slice, Sem.run_bind, run_underlying hu, Result.andThen_ok, hu2, hr, sizeB_run hn, Sem.run_pure]
            simp
          · cases hv
        · cases hv
      · cases hc
    · rename_i hu
      split at hc
      · cases hc
        simp only [evalOp] at hv
        split at hv
        · rename_i sl hxx
          rw [hxx] at e1
          obtain ⟨b, hu2, hb2⟩ := e1
          split at hv
          · rename_i l hh m hb
            simp only [Option.some.injEq, ARes.val.injEq] at hv
            obtain ⟨rfl, rfl⟩ := hv
            have hsz : sl.length = b.size := by rw [← hb2, bytesN_size]
            have hmx : mx = none := by
              rcases opdO_ok he h3 with ⟨q, _⟩ | ⟨x, y, q, q2, _⟩
              · exact q
              · cases q2
            subst hmx
            obtain ⟨m', hr, q1, q2, q3, q4, q5, q6⟩ := bounds_ok (P := P) (w := w) he h1 h2 h3 hb false sl.length sl.length rfl (Nat.le_refl _) (Nat.le_refl _)
            refine .val s (u := .string (b.extract l hh)) ?_ ⟨_, rfl, ?_⟩
            · rw [hsz] at hr
              simp only [Option.map_none] at hr
              simp only [execOp, hop, Instr.sliceAt, Instr.slice, Sem.run_bind, run_underlying hu, Result.andThen_ok, hu2, Option.map_none, hr]
              simp
              rw [hr]; rfl
            · rw [← hb2]; unfold bytesN
              rw [ByteArray.data_extract]; simp [List.map_take, List.map_drop]
          · cases hv
        · cases hv
      · cases hc
    · rename_i len e hu
      split at hc
      · rename_i n hn
        cases hc
        simp only [evalOp] at hv
        split at hv
        · rename_i b off hxx
          rw [hxx] at e1
          obtain ⟨ad, hpl, hu2⟩ := e1.ptr_inv
          split at hv
          · rename_i l hh m hb
            simp only [Option.some.injEq, ARes.val.injEq] at hv
            obtain ⟨rfl, rfl⟩ := hv
            obtain ⟨m', hr, q1, q2, q3, q4, q5, q6⟩ := bounds_ok (P := P) (w := w) he h1 h2 h3 hb false len len rfl (Nat.le_refl _) (Nat.le_refl _)
            have hmm : m' = m := by
              cases mx' with
              | none => have := q6 rfl; omega
              | some y => exact q5 (by simp)
            subst hmm
            refine .val s (u := .slice (some (if m' = l then ad else ad.add (l * n))) (hh - l) (m' - l)) ?_ ?_
            · simp only [execOp, hop, Instr.sliceAt, Sem.run_bind, run_underlying hu, Result.andThen_ok, hu2, Instr.sureAddr, hr, sizeB_run hn, Sem.run_pure]
            · exact VR.slice_mk (by omega) (Nat.le_refl _) (slice_shift (n := n) (.inl hpl) (by omega)) (fun _ => rfl) (by simp)
          · cases hv
        · cases hv
      · cases hc
    · rename_i t' hu
      split at hc
      · rename_i len e hu'
        split at hc
        · rename_i n hn
          cases hc
          simp only [evalOp] at hv
          split at hv
          · rename_i b off hxx
            rw [hxx] at e1
            obtain ⟨ad, hpl, hu2⟩ := e1.ptr_inv
            split at hv
            · rename_i l hh m hb
              simp only [Option.some.injEq, ARes.val.injEq] at hv
              obtain ⟨rfl, rfl⟩ := hv
              obtain ⟨m', hr, q1, q2, q3, q4, q5, q6⟩ := bounds_ok (P := P) (w := w) he h1 h2 h3 hb false len len rfl (Nat.le_refl _) (Nat.le_refl _)
              have hmm : m' = m := by
                cases mx' with
                | none => have := q6 rfl; omega
                | some y => exact q5 (by simp)
              subst hmm
              refine .val s (u := .slice (some (if m' = l then ad else ad.add (l * n))) (hh - l) (m' - l)) ?_ ?_
              · simp only [execOp, hop, Instr.sliceAt, Instr.slice, Sem.run_bind, run_underlying hu, run_underlying hu', Result.andThen_ok, hu2, asAddr, hr, sizeB_run hn, Sem.run_pure]
              · exact VR.slice_mk (by omega) (Nat.le_refl _) (slice_shift (n := n) (.inl hpl) (by omega)) (fun _ => rfl) (by simp)
            · cases hv
          · cases hv
        · cases hc
      · cases hc
    · cases hc
  · cases hc

end
end Go.Proofs.Ytohjmflbgohkhaa.E
