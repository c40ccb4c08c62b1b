/- Calls, regions in the order of the text, and all code: the run of the abstract machine is the model's. -/
import Derived.Test.YtohjmflbgohkhaaEngR
namespace Go.Proofs.Ytohjmflbgohkhaa.E
set_option linter.all false
open Go

def exitOf : AExit → Exit
  | .normal => .normal
  | .exit i => .exit i
  | .ret => .ret

structure FuncOk (P : Program) (f : Nat) (af : AFunc) : Prop where
  ok : ∃ fn c, P.funcs[f]? = some fn ∧ (fn.name == "runtime.NumGoroutine") = false ∧ fn.body = some c ∧ af.body = cCode P fn.ntmps c ∧ cRes P fn.ntmps fn.results.toList = some af.res ∧ fn.ntmps < 100000

theorem FuncOk.of {P : Program} {f : Nat} {fn : Func} {af : AFunc} (hf : P.funcs[f]? = some fn) (hc : cFunc P fn = some af) : FuncOk P f af := by
  unfold cFunc at hc
  split at hc
  · rename_i c r hb hr hg
    cases hc
    simp only [Bool.and_eq_true, Nat.blt_eq] at hg
    exact ⟨fn, c, hf, by simpa using hg.2, hb, rfl, hr, hg.1⟩
  · cases hc

def NameOk (P : Program) (f : Nat) : Prop := ∃ fn c, P.funcs[f]? = some fn ∧ (fn.name == "runtime.NumGoroutine") = false ∧ fn.body = some c

structure ExtOk (P : Program) (f : Nat) (F : List AV → AHeap → Option (AV × AHeap)) : Prop where
  name : NameOk P f
  run : ∀ (W : World) (μ : Mu) (h : AHeap) (w : World) (args : List AV) (v : AV) (h' : AHeap) (us : Array Value), F args h = some (v, h') → Sim W μ h w → VRs μ args us.toList →
    Calls P f us w fun e w' => ∃ u μ', e = .returned u ∧ VR μ' v u ∧ Stp W μ h w μ' h' w'

def GOk (P : Program) (G : Nat → Option AFunc) : Prop := ∀ f af, G f = some af → (af.ext = none → FuncOk P f af) ∧ ∀ F, af.ext = some F → ExtOk P f F

theorem cFunc_ext {P : Program} {fn : Func} {af : AFunc} (hc : cFunc P fn = some af) : af.ext = none := by
  unfold cFunc at hc
  split at hc
  · cases hc; rfl
  · cases hc

theorem GOk.name {P : Program} {G : Nat → Option AFunc} (hG : GOk P G) {f af} (h : G f = some af) : NameOk P f := by
  cases he : af.ext with
  | none =>
    obtain ⟨fn, c, q1, q2, q3, _⟩ := ((hG f af h).1 he).ok
    exact ⟨fn, c, q1, q2, q3⟩
  | some F => exact ((hG f af h).2 F he).name

theorem okOf {P : Program} {f : Nat} {fn : Func} {af : AFunc} (hf : P.funcs[f]? = some fn) (hc : cFunc P fn = some af) : (af.ext = none → FuncOk P f af) ∧ ∀ F, af.ext = some F → ExtOk P f F :=
  ⟨fun _ => FuncOk.of hf hc, fun F h => by rw [cFunc_ext hc] at h; cases h⟩

def RecOk (P : Program) (W : World) (rec : Exec) : Prop :=
  ∀ (nt : Nat) (c : Code) (env : Env) (h : AHeap) (out : AOut), nt < 100000 → rec (cCode P nt c) env h = some out → ∀ (μ : Mu) (w : World) (a : Act), Sim W μ h w → EnvR μ nt env a.tmps →
    ∀ Q : Exit → Act → World → Prop, (∀ μ' a' w', Stp W μ h w μ' out.h w' → EnvR μ' nt out.env a'.tmps → a'.defers = a.defers → Q (exitOf out.e) a' w') → c.wp P Q a w

section
variable {P : Program} {W : World} {μ : Mu} {h : AHeap} {w : World} {nt : Nat} {env : Env} {a : Act} {B : Base} {G : Nat → Option AFunc} {rec : Exec}

theorem envArgs_get : ∀ (args : List AV) (i : Nat) (env : Env) (t : Nat), i + args.length ≤ 90000 → t < 100000 →
    (envArgs i args env).get (pathOf 64 t) = if i ≤ t then (match args[t - i]? with | some v => v | none => env.get (pathOf 64 t)) else env.get (pathOf 64 t)
  | [], i, env, t, _, _ => by simp [envArgs]
  | v :: r, i, env, t, hl, ht => by
    simp only [envArgs]
    simp at hl
    rw [envArgs_get r (i + 1) _ t (by omega) ht]
    by_cases h1 : i + 1 ≤ t
    · rw [if_pos h1, if_pos (by omega)]
      have : t - i = (t - (i + 1)) + 1 := by omega
      rw [this, List.getElem?_cons_succ]
      cases r[t - (i + 1)]? with
      | some x => rfl
      | none =>
        simp only
        rw [Env.get_set_other]
        intro e; have := pathOf_inj (by omega) ht e; omega
    · rw [if_neg h1]
      by_cases h2 : i = t
      · subst h2
        rw [if_pos (Nat.le_refl _), Env.get_set_same]; simp
      · rw [if_neg (by omega), Env.get_set_other]
        intro e; have := pathOf_inj (by omega) ht e; omega

theorem envR_args {args : List AV} {us : Array Value} (hv : VRs μ args us.toList) (hl : args.length ≤ 1000) (hnt : nt < 100000) :
    EnvR μ nt (envArgs 0 args .e) (us ++ Array.replicate (nt - us.size) undef) := by
  have hlen := VRs.length hv
  simp at hlen
  refine ⟨by simp; omega, fun t ht => ?_⟩
  rw [envArgs_get args 0 .e t (by omega) (by omega), if_pos (Nat.zero_le _), Nat.sub_zero, Env.get_e]
  simp only [Array.getD_eq_getD_getElem?]
  cases hg : args[t]? with
  | some v =>
    obtain ⟨u, hu, hr⟩ := VRs.toArray_get hv hg
    have : t < us.size := by
      have := (Array.getElem?_eq_some_iff.1 hu).1; exact this
    rw [Array.getElem?_append_left this, hu]
    exact hr
  | none =>
    have : us.size ≤ t := by
      have := List.getElem?_eq_none_iff.1 hg; omega
    rw [Array.getElem?_append_right this]
    have e : ((Array.replicate (nt - us.size) undef)[t - us.size]?).getD undef = undef := by
      cases hq : (Array.replicate (nt - us.size) undef)[t - us.size]? with
      | none => rfl
      | some x =>
        rw [Array.getElem?_replicate] at hq
        split at hq
        · cases hq; rfl
        · cases hq
    rw [e]
    exact ⟨#[], rfl, rfl⟩

theorem load_run (hB : BaseOk W B) (s : Sim W μ h w) {t : TypeId} {g n b off l} {v : AV} {ad : Addr} (hg : isAggB P t = some g) (hn : sizeB P t = some n) (hgn : (g || Nat.beq n 1) = true) (hpl : plOf μ b off = some ad) (hl : loadN B h b off n = some l)
    (hv : oneOf g l = some v) : ∃ u, (loadVar t ad).run P w = .ok u w ∧ VR μ v u := by
  obtain ⟨c, hr, hvs, hone⟩ := load_any (P := P) hB s hl hpl
  cases g with
  | true =>
    cases hv
    exact ⟨.agg c, by simp [loadVar, isAggB_run hg, sizeB_run hn, hr], c, rfl, hvs, hone⟩
  | false =>
    have hv1 : ∃ v0, l = [v0] ∧ v0 = v := by
      cases l with
      | nil => cases hv
      | cons v0 l => cases l with
        | nil => cases hv; exact ⟨_, rfl, rfl⟩
        | cons _ _ => cases hv
    obtain ⟨v0, hl1, hv0⟩ := hv1
    subst hl1; subst hv0
    · clear hv
      obtain ⟨u0, m, e2, hr0, hm⟩ := hvs
      have hm : m = [] := hm
      subst hm
      have h1 : n = 1 := by simpa using hgn
      subst h1
      have hl1 : (load ad).run P w = .ok u0 w := by
        have : (loadCells ad 1).run P w = ((load ad).run P w).andThen fun v w' => .ok #[v] w' := by
          simp [loadCells, loadCellsFrom, Addr.add]
        rw [this] at hr
        cases hld : (load ad).run P w with
        | ok q w' =>
          rw [hld] at hr; simp at hr
          obtain ⟨rfl, rfl⟩ := hr
          simp at e2; rw [e2]
        | halt q w' => rw [hld] at hr; simp at hr
      exact ⟨u0, by simp only [loadVar, Sem.run_bind, isAggB_run hg, Result.andThen_ok, Bool.false_eq_true, if_false, hl1], hr0⟩

theorem getAll_ok (hB : BaseOk W B) (s : Sim W μ h w) (he : EnvR μ nt env a.tmps) : ∀ {l : List ResultVar} {r vs}, cRes P nt l = some r → getAll B env h r = some vs →
    ∃ us : List Value, (l.mapM fun (v : ResultVar) => match v with | .tmp t => pure (a.tmps.getD t undef) | .cell x t => do loadVar t (← asAddr (a.tmps.getD x undef)) : Sem (List Value)).run P w = .ok us w ∧ VRs μ vs us
  | [], r, vs, h, hv => by simp [cRes] at h; subst h; simp [getAll] at hv; subst hv; exact ⟨[], by simp, rfl⟩
  | .tmp t :: l, r, vs, h, hv => by
    simp only [cRes] at h
    split at h
    · rename_i k ht hk
      cases h
      simp only [getAll, getRes] at hv
      split at hv
      · rename_i v l' hv1 hv2
        cases hv; cases hv1
        obtain ⟨us, h1, h2⟩ := getAll_ok hB s he hk hv2
        refine ⟨a.tmps.getD t undef :: us, ?_, _, _, rfl, he.2 t (by simpa using ht), h2⟩
        simp only [List.mapM_cons, Sem.run_bind, Sem.run_pure, Result.andThen_ok, h1]
      · cases hv
    · cases h
  | .cell x t :: l, r, vs, h, hv => by
    simp only [cRes] at h
    split at h
    · rename_i k g n ht hk hg hn
      split at h
      · rename_i hgn
        cases h
        simp only [getAll, getRes] at hv
        split at hv
        · rename_i v l' hv1 hv2
          cases hv
          obtain ⟨us, h1, h2⟩ := getAll_ok hB s he hk hv2
          have hx := he.2 x (by simpa using ht)
          split at hv1
          · rename_i b off hp
            rw [hp] at hx
            obtain ⟨ad, hpl, hu⟩ := hx
            split at hv1
            · rename_i l0 hl0
              obtain ⟨u, hu1, hu2⟩ := load_run (P := P) hB s hg hn hgn hpl hl0 hv1
              refine ⟨u :: us, ?_, _, _, rfl, hu2, h2⟩
              have h0 : (do loadVar t (← asAddr (a.tmps.getD x undef)) : Sem Value).run P w = .ok u w := by
                rw [hu]; simp only [asAddr, Sem.run_bind, Sem.run_pure, Result.andThen_ok, hu1]
              rw [List.mapM_cons, Sem.run_bind]
              erw [h0]
              rw [Result.andThen_ok, Sem.run_bind, h1]
              rfl
            · cases hv1
          · cases hv1
        · cases hv
      · cases h
    · cases h

theorem packed_ok {l : List AV} {us : List Value} (hv : VRs μ l us) : VR μ (packed l) (if h : us.toArray.size = 1 then us.toArray[0] else .tuple us.toArray) := by
  unfold packed
  split
  · rename_i v
    obtain ⟨u, m, rfl, hx, hm⟩ := hv
    have hm : m = [] := hm
    subst hm
    simpa using hx
  · rename_i hne
    have hl := VRs.length hv
    have : us.toArray.size ≠ 1 := by
      intro e
      have e : l.length = 1 := by simp at e; omega
      obtain ⟨v, rfl⟩ := List.length_eq_one_iff.1 e
      exact hne v rfl
    rw [dif_neg this]
    exact ⟨us.toArray, rfl, by simpa using hv⟩

theorem call_sound (hB : BaseOk W B) (hG : GOk P G) (hrec : RecOk P W rec) {f : Nat} {args : List AV} {v : AV} {h' : AHeap} (hc : callF B G rec f args h = some (v, h')) (s : Sim W μ h w) {us : Array Value} (hv : VRs μ args us.toList) :
    Calls P f us w fun e w' => ∃ u μ', e = .returned u ∧ VR μ' v u ∧ Stp W μ h w μ' h' w' := by
  unfold callF at hc
  split at hc
  · rename_i af haf
    split at hc
    · rename_i F hF
      exact ((hG f af haf).2 F hF).run _ _ _ _ _ _ _ _ hc s hv
    rename_i hF
    obtain ⟨fn, c, hfn, hname, hbody, hab, hres, hnt⟩ := ((hG f af haf).1 hF).ok
    split at hc
    · rename_i hlen
      have hlen := Nat.le_of_ble_eq_true hlen
      have END : ∀ out l, rec af.body (envArgs 0 args .e) h = some out → (out.e = .normal ∨ out.e = .ret) → getAll B out.env out.h af.res = some l → (packed l, out.h) = (v, h') → Calls P f us w fun e w' => ∃ u μ', e = .returned u ∧ VR μ' v u ∧ Stp W μ h w μ' h' w' := by
        intro out l hr he hga hvh
        simp only [Prod.mk.injEq] at hvh
        obtain ⟨rfl, rfl⟩ := hvh
        refine calls_of_wp hfn hbody ?_
        refine hrec fn.ntmps c _ h out hnt (by rw [← hab]; exact hr) μ w _ s (envR_args hv hlen hnt) _ ?_
        intro μ' a' w' st henv hdef
        obtain ⟨rs, h1, h2⟩ := getAll_ok (P := P) (w := w') hB st.sim henv hres hga
        have hrun : (results fn a'.tmps).run P w' = .ok (if h : rs.toArray.size = 1 then rs.toArray[0] else .tuple rs.toArray) w' := by
          unfold results
          rw [Array.mapM_eq_mapM_toList]
          simp only [Sem.run_bind, Sem.run_map]
          erw [h1]
          rfl
        have post : a'.defers = [] ∧ ∃ v, (results fn a'.tmps).run P w' = .ok v w' ∧ (∃ u μ', Ending.returned v = .returned u ∧ VR μ' (packed l) u ∧ Stp W μ h w μ' out.h w') :=
          ⟨hdef, _, hrun, _, μ', rfl, packed_ok h2, st⟩
        rcases he with he | he <;> (rw [he]; exact post)
      split at hc
      · cases hc
      · rename_i e env h1 hne hr
        cases e with
        | normal =>
          split at hc
          · rename_i l hl; exact END _ l hr (.inl rfl) hl (Option.some.inj hc)
          · cases hc
        | ret =>
          split at hc
          · rename_i l hl; exact END _ l hr (.inr rfl) hl (Option.some.inj hc)
          · cases hc
        | exit i => exact absurd rfl (hne i)
      · cases hc
    · cases hc
  · cases hc

end
end Go.Proofs.Ytohjmflbgohkhaa.E
