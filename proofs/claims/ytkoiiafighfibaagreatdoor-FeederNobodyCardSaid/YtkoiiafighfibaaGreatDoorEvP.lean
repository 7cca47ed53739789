/- Functions, and all of them together. -/
import Derived.Test.YtkoiiafighfibaaGreatDoorEvO
set_option autoImplicit false
namespace Go.Ev

/-- What one function does, as a function on arguments and heap, is what it does in every world. -/
def FnOk (P : Program) (f : Nat) (g : Fs → List AV → Hp → RH) : Prop := ∀ F, Sound P F → ∀ args h v h', g F args h = .ok v h' → Callable P f ∧
  ∀ σ w cargs, Rel σ h w → VRs σ args cargs → Calls P f cargs.toArray w fun e w' => ∃ σ' cv, e = .returned cv ∧ Rel σ' h' w' ∧ Stp σ h w σ' h' w' ∧ VR σ' v cv

noncomputable def runF (tbl : Nat → Option (Fs → List AV → Hp → RH)) : Nat → Fs
  | 0, _, _, _ => .no
  | n + 1, f, args, h => match tbl f with
    | some g => g (runF tbl n) args h
    | none => .no

theorem runF_sound {P : Program} {tbl : Nat → Option (Fs → List AV → Hp → RH)} (ht : ∀ f g, tbl f = some g → FnOk P f g) : ∀ n, Sound P (runF tbl n) := by
  intro n
  induction n with
  | zero => intro f args h v h' e; cases e
  | succ n ih =>
    intro f args h v h' e
    simp only [runF] at e
    cases hf : tbl f with
    | none => rw [hf] at e; cases e
    | some g => rw [hf] at e; exact ht f g hf _ ih args h v h' e

section
variable {P : Program} {m : Mat}

theorem params_get (hm : mok m = true) : ∀ (vs : List AV) (i : Nat) (T : Tr AV) (t : Nat) (p : Ps), mfind m t = some p →
    (params m vs i T).get .bad p = if i ≤ t ∧ t < i + vs.length then (vs[t - i]?).getD .bad else T.get .bad p := by
  intro vs
  induction vs with
  | nil =>
    intro i T t p _
    have : ¬ (i ≤ t ∧ t < i + ([] : List AV).length) := by simp
    rw [if_neg this]; rfl
  | cons v vs ih =>
    intro i T t p hp
    simp only [params]
    cases hi : mfind m i with
    | none =>
      simp only
      rw [ih (i + 1) T t p hp]
      have hne : t ≠ i := fun e => by subst e; rw [hi] at hp; cases hp
      simp only [List.length_cons]
      by_cases hin : i + 1 ≤ t ∧ t < i + 1 + vs.length
      · rw [if_pos hin, if_pos (by omega)]
        have : t - i = (t - (i + 1)) + 1 := by omega
        rw [this]; simp
      · rw [if_neg hin, if_neg (by omega)]
    | some q =>
      simp only
      rw [ih (i + 1) _ t p hp]
      simp only [List.length_cons]
      by_cases hin : i + 1 ≤ t ∧ t < i + 1 + vs.length
      · rw [if_pos hin, if_pos (by omega)]
        have : t - i = (t - (i + 1)) + 1 := by omega
        rw [this]; simp
      · rw [if_neg hin]
        by_cases ht : t = i
        · subst ht
          rw [hi] at hp
          cases hp
          rw [Tr.get_set_same, if_pos (by omega)]
          simp
        · rw [if_neg (by omega)]
          have hne : p ≠ q := fun e => ht (mfind_inj hm t i p hp (e ▸ hi))
          rw [Tr.get_set_ne _ _ _ _ _ hne]

theorem St.start {σ : Sg} (hm : mok m = true) {args : List AV} {cargs : List Value} {N : Nat} (hv : VRs σ args cargs) (hN : args.length ≤ N) :
    St σ m N [] (params m args 0 .e) { tmps := cargs.toArray ++ Array.replicate (N - cargs.toArray.size) undef, defers := [] } := by
  have hl := hv.length
  refine ⟨fun t hb => ?_, rfl, (by simp only [Array.size_append, List.size_toArray, Array.size_replicate]; omega), fun t v h => by simp [efind] at h⟩
  simp only [opnd, efind] at hb ⊢
  cases hp : mfind m t with
  | none => rw [hp] at hb; exact absurd rfl hb
  | some p =>
    rw [hp] at hb
    simp only at hb ⊢
    rw [params_get hm args 0 .e t p hp] at hb ⊢
    by_cases hin : 0 ≤ t ∧ t < 0 + args.length
    · rw [if_pos hin] at hb ⊢
      have h1 : t < args.length := by have := hin.2; rwa [Nat.zero_add] at this
      have h2 : t < cargs.length := hl ▸ h1
      simp only [Nat.sub_zero, List.getElem?_eq_getElem h1, Option.getD_some]
      have := hv.get t h1 h2
      have h3 : t < cargs.toArray.size := by simpa using h2
      rw [Array.getD_eq_getD_getElem?, Array.getElem?_append_left h3]
      simpa [h2, h1] using this
    · rw [if_neg hin, Tr.get_e] at hb
      exact absurd rfl hb

/-- A result variable's reading. -/
def rvar (tm : Array Value) : ResultVar → Sem Value
  | .tmp t => pure (tm.getD t undef)
  | .cell b t => do loadVar t (← asAddr (tm.getD b undef))

theorem resV_ok {σ : Sg} {h : Hp} {w : World} {a : Act} {N : Nat} {T : Tr AV} (r : Rel σ h w) (s : St σ m N [] T a) (x : ResultVar) (hb : resV P m T h x ≠ .bad) :
    ∃ v, (rvar a.tmps x).run P w = .ok v w ∧ VR σ (resV P m T h x) v := by
  cases x with
  | tmp t => exact ⟨_, rfl, s.tmp t hb⟩
  | cell t ty =>
    simp only [resV] at hb ⊢
    cases hg : aggOf P ty with
    | none => rw [hg] at hb; exact absurd rfl hb
    | some g =>
      rw [hg] at hb
      cases g with
      | none =>
        simp only at hb ⊢
        have hy : opnd m [] T (.tmp t) ≠ .bad := fun e => hb (by rw [e]; rfl)
        obtain ⟨ad, v, e1, e2, e3⟩ := opLd_ok (P := P) r (s.tmp t hy) hb
        refine ⟨v, ?_, e3⟩
        simp only [rvar, e1, asAddr, Sem.run_bind, Sem.run_pure, Result.andThen_ok, loadVar, run_isAgg_false hg]
        exact e2
      | some n =>
        simp only at hb ⊢
        have hy : opnd m [] T (.tmp t) ≠ .bad := fun e => hb (by rw [e]; rfl)
        obtain ⟨ad, xs, e1, e2, e3⟩ := opLdn_ok (P := P) r (s.tmp t hy) hb
        refine ⟨.agg xs, ?_, e3⟩
        obtain ⟨g1, g2⟩ := run_isAgg_true (w := w) hg
        simp only [rvar, e1, asAddr, Sem.run_bind, Sem.run_pure, Result.andThen_ok, loadVar, g1, g2, if_true, e2]

theorem okAll_mem {l : List AV} (h : okAll l = true) : ∀ a ∈ l, a ≠ .bad := by
  induction l with
  | nil => simp
  | cons x l ih =>
    intro a ha e
    subst e
    rcases List.mem_cons.1 ha with e | ha
    · subst e; simp [okAll] at h
    · exact ih (by cases x <;> first | exact h | (simp [okAll] at h)) _ ha rfl

theorem resAll_ok {σ : Sg} {h : Hp} {w : World} {a : Act} {N : Nat} {T : Tr AV} (r : Rel σ h w) (s : St σ m N [] T a) : ∀ (rs : List ResultVar), (∀ x ∈ rs, resV P m T h x ≠ .bad) →
    ∃ vs, (rs.mapM (rvar a.tmps)).run P w = .ok vs w ∧
      VRs σ (rs.map (resV P m T h)) vs
  | [], _ => ⟨[], by simp, VRs.nil⟩
  | x :: rs, hb => by
    obtain ⟨v, e1, e2⟩ := resV_ok r s x (hb x (by simp))
    obtain ⟨vs, e3, e4⟩ := resAll_ok r s rs (fun y hy => hb y (by simp [hy]))
    refine ⟨v :: vs, ?_, VRs.cons e2 e4⟩
    rw [List.mapM_cons, Sem.run_bind, e1, Result.andThen_ok, Sem.run_bind, e3]
    rfl

theorem resR_ok {σ : Sg} {h h' : Hp} {w : World} {a : Act} {N : Nat} {T : Tr AV} {fn : Func} (r : Rel σ h w) (s : St σ m N [] T a) {v : AV} (hv : resR P m fn.results.toList T h = .ok v h') :
    h' = h ∧ ∃ cv, (results fn a.tmps).run P w = .ok cv w ∧ VR σ v cv := by
  have hall : (∀ x ∈ fn.results.toList, resV P m T h x ≠ .bad) ∧ h' = h ∧ ((∃ x, fn.results.toList = [x] ∧ v = resV P m T h x) ∨ ((∀ x, fn.results.toList = [x] → False) ∧ v = .tup (fn.results.toList.map (resV P m T h)))) := by
    unfold resR at hv
    split at hv
    · rename_i x hx
      cases hb : isBad (resV P m T h x) with
      | true => rw [hb] at hv; cases hv
      | false =>
        rw [hb] at hv
        simp only [RH.ok.injEq] at hv
        obtain ⟨rfl, rfl⟩ := hv
        refine ⟨fun y hy => ?_, rfl, .inl ⟨x, hx, rfl⟩⟩
        rw [hx, List.mem_singleton] at hy
        subst hy
        intro e; rw [e] at hb; cases hb
    · rename_i rs hne
      cases hk : okAll (fn.results.toList.map (resV P m T h)) with
      | false => rw [hk] at hv; cases hv
      | true =>
        rw [hk] at hv
        simp only [RH.ok.injEq] at hv
        obtain ⟨rfl, rfl⟩ := hv
        exact ⟨fun y hy => okAll_mem hk _ (List.mem_map.2 ⟨y, hy, rfl⟩), rfl, .inr ⟨hne, rfl⟩⟩
  obtain ⟨h1, h2, h3⟩ := hall
  refine ⟨h2, ?_⟩
  obtain ⟨vs, e1, e2⟩ := resAll_ok (P := P) r s _ h1
  have hl := e2.length
  simp only [List.length_map] at hl
  have hrun : (results fn a.tmps).run P w = .ok (if hs : vs.toArray.size = 1 then vs.toArray[0] else .tuple vs.toArray) w := by
    have : results fn a.tmps = (do let vs ← fn.results.mapM (rvar a.tmps); pure (if h : vs.size = 1 then vs[0] else .tuple vs)) := rfl
    rw [this, Sem.run_bind, Array.mapM_eq_mapM_toList, Sem.run_map, e1]
    rfl
  refine ⟨_, hrun, ?_⟩
  rcases h3 with ⟨x, hx, rfl⟩ | ⟨hne, rfl⟩
  · rw [hx] at e2 hl
    simp only [List.length_cons, List.length_nil] at hl
    have hs : vs.toArray.size = 1 := by simp; omega
    rw [dif_pos hs]
    have := e2.get 0 (by simp) (by omega)
    simpa using this
  · have hs : ¬ vs.toArray.size = 1 := by
      intro hs
      simp only [List.size_toArray] at hs
      cases hr : fn.results.toList with
      | nil => rw [hr] at hl; simp at hl; omega
      | cons x l =>
        cases l with
        | nil => exact hne x hr
        | cons y l => rw [hr] at hl; simp at hl; omega
    rw [dif_neg hs]
    simp only [VR]
    exact ⟨vs, e2, rfl⟩

/-- A function, by its code. -/
noncomputable def denF (P : Program) (lf : Nat) (fn : Func) (c : Code) (m : Mat) (dd : Fs → Array Oper → M) (F : Fs) (args : List AV) (h : Hp) : RH :=
  bif Nat.ble args.length fn.ntmps then
    finR P m fn.results.toList (denC P m fn.ntmps F lf (dd F) c (params m args 0 .e) h)
  else .no

/-- WHAT A FUNCTION COMES TO. -/
theorem denF_ok {f lf : Nat} {fn : Func} {c : Code} {dd : Fs → Array Oper → M} (hf : P.funcs[f]? = some fn) (hb : fn.body = some c) (hn : (fn.name == "runtime.NumGoroutine") = false)
    (hm : mok m = true) (hD : ∀ F, Sound P F → DrawOk P m fn.ntmps (dd F)) : FnOk P f (denF P lf fn c m dd) := by
  intro F hF args h v h' hv
  have hc : Callable P f := ⟨fn, hf, hn, by rw [hb]; rfl⟩
  refine ⟨hc, fun σ w cargs rel hargs => ?_⟩
  unfold denF at hv
  rw [ble_cond] at hv
  split at hv
  · rename_i hle
    have s0 := St.start (σ := σ) hm hargs hle
    have hc0 : cargs.toArray.size = cargs.length := by simp
    refine calls_of_wp hf hb ?_
    have fin : ∀ {T : Tr AV} {h1 : Hp} {e : Exit} {a : Act} {w1 : World}, (e = .normal ∨ e = .ret) → resR P m fn.results.toList T h1 = .ok v h' →
        (∃ σ1, Rel σ1 h1 w1 ∧ Stp σ h w σ1 h1 w1 ∧ St σ1 m fn.ntmps [] T a) →
        bodyPost P fn (fun e w' => ∃ σ' cv, e = .returned cv ∧ Rel σ' h' w' ∧ Stp σ h w σ' h' w' ∧ VR σ' v cv) e a w1 := by
      intro T h1 e a w1 he hres ⟨σ1, k1, k2, k3⟩
      obtain ⟨rfl, cv, e1, e2⟩ := resR_ok (P := P) k1 k3 hres
      rcases he with rfl | rfl <;> exact ⟨k3.defers, cv, e1, σ1, cv, rfl, k1, k2, e2⟩
    cases hr : denC P m fn.ntmps F lf (dd F) c (params m args 0 .e) h with
    | fl => rw [hr] at hv; cases hv
    | ex n T h1 => rw [hr] at hv; cases hv
    | nm T h1 =>
      rw [hr] at hv
      refine wp_mono (denC_ok hm hF (hD F hF) σ h w c _ h _ hr (fun e => (by cases e)) σ _ w rel (Stp.refl _ _ _) s0) ?_
      rintro e a w1 ⟨rfl, hq⟩
      exact fin (.inl rfl) hv hq
    | rt T h1 =>
      rw [hr] at hv
      refine wp_mono (denC_ok hm hF (hD F hF) σ h w c _ h _ hr (fun e => (by cases e)) σ _ w rel (Stp.refl _ _ _) s0) ?_
      rintro e a w1 ⟨rfl, hq⟩
      exact fin (.inr rfl) hv hq
  · cases hv

end
end Go.Ev
