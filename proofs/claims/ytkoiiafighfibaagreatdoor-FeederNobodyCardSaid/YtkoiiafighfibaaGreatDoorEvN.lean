/- Regions. -/
import Derived.Test.YtkoiiafighfibaaGreatDoorEvM
set_option autoImplicit false
namespace Go.Ev

section
variable {P : Program} {m : Mat} {N : Nat} {F : Fs} {ops : Array Oper}

/-- What holds behind a piece of code. -/
def Post (σ0 : Sg) (h0 : Hp) (w0 : World) (m : Mat) (N : Nat) (T : Tr AV) (h : Hp) (ex : Exit) (e : Exit) (a : Act) (w : World) : Prop :=
  e = ex ∧ ∃ σ, Rel σ h w ∧ Stp σ0 h0 w0 σ h w ∧ St σ m N [] T a

theorem bnd2_R {r : RH} {k : AV → Hp → R} {x : R} (h : bnd2 r k = x) (hx : x ≠ .fl) : ∃ v h', r = .ok v h' ∧ k v h' = x := by
  obtain ⟨v, h', e1, e2⟩ := bnd2_ok (by rw [h]; exact hx)
  exact ⟨v, h', e1, by rw [← e2]; exact h⟩
theorem bnd1_R {v : AV} {k : AV → R} {x : R} (h : bnd1 v k = x) (hx : x ≠ .fl) : v ≠ .bad ∧ k v = x := by
  obtain ⟨e1, e2⟩ := bnd1_ok (by rw [h]; exact hx)
  exact ⟨e1, by rw [← e2]; exact h⟩

theorem run_callFunc {f : Nat} (hc : Callable P f) (args : Array Value) (w : World) : (callFunc f args).run P w = .ok (.enter f args) w := by
  obtain ⟨fn, h1, h2, h3⟩ := hc
  simp only [callFunc, Sem.run_bind, run_program, Result.andThen_ok, h1, h2, h3, Bool.false_eq_true, if_false]
  rfl

/-- WHAT A CALL COMES TO. -/
theorem call_ok {σ : Sg} {h : Hp} {w : World} {a : Act} {ρ : Operand → AV} (hF : Sound P F) (r : Rel σ h w) (hρ : Hρ σ a ρ) {o : Oper} {s : SOp} (hs : spec P o = some s)
    (hns : (∃ f args, s = .c f args) ∨ ∃ x args, s = .cv x args) {v : AV} {h' : Hp} (hv : effR F ρ h s = .ok v h') :
    ∃ f cargs, (execOp a.eval o).run P w = .ok (.enter f cargs) w ∧
      Calls P f cargs w fun e w' => ∃ σ' cv, e = .returned cv ∧ Rel σ' h' w' ∧ Stp σ h w σ' h' w' ∧ VR σ' v cv := by
  unfold spec at hs
  unfold execOp
  cases hop : o.op <;> rw [hop] at hs <;> simp only at hs ⊢
  case call c =>
    obtain ⟨callee, args, argTypes⟩ := c
    cases callee with
    | invoke _ _ => simp at hs
    | builtin b =>
      exfalso
      have : ∀ x, s ≠ .e x ∧ ∀ y, s ≠ .p y := by
        intro x
        rcases hns with ⟨_, _, rfl⟩ | ⟨_, _, rfl⟩ <;> exact ⟨fun e => (by cases e), fun y e => (by cases e)⟩
      cases b <;> simp only at hs <;> (try contradiction)
      all_goals
        revert hs
        repeat' split
        all_goals (intro hs; first | (cases hs; done) | (simp only [Option.some.injEq] at hs; subst hs; first | exact (this _).1 rfl | exact (this (.al .bad)).2 _ rfl))
    | value f =>
      have gen : ∀ (x : Operand), spec P o = some (.cv x args.toList) ∨ x = f → s = .cv f args.toList → ∃ g cargs,
          (do let d ← resolve a.eval ⟨.value f, args, argTypes⟩ o.type; invoke d.target d.args : Sem Next).run P w = .ok (.enter g cargs) w ∧
            Calls P g cargs w fun e w' => ∃ σ' cv, e = .returned cv ∧ Rel σ' h' w' ∧ Stp σ h w σ' h' w' ∧ VR σ' v cv := by
        intro x _ he
        subst he
        simp only [effR, callV] at hv
        cases hk : okAll (args.toList.map ρ) with
        | false => rw [hk] at hv; simp at hv
        | true =>
          rw [hk] at hv
          simp only [cond_true] at hv
          cases hx : ρ f <;> rw [hx] at hv <;> simp only at hv <;> (try contradiction)
          rename_i g first caps
          have hfv := hρ f (by rw [hx]; intro e; cases e)
          rw [hx] at hfv
          simp only [VR] at hfv
          obtain ⟨xs, ys, k1, k2, k3⟩ := hfv
          obtain ⟨hc, hcall⟩ := hF _ _ _ _ _ hv
          have hargs : VRs σ (first ++ (args.toList.map ρ ++ caps)) (xs ++ (args.toList.map a.eval ++ ys)) := VRs.append k1 (VRs.append (okAll_map hρ _ hk) k2)
          refine ⟨g, (xs ++ (args.toList.map a.eval ++ ys)).toArray, ?_, hcall σ w _ r hargs⟩
          simp only [resolve, k3, Deferred.ofValue, Sem.run_bind, Sem.run_pure, Result.andThen_ok, invoke]
          rw [run_callFunc hc]
          congr 2
          apply Array.ext'
          simp
      cases f with
      | func g =>
        simp only [Option.some.injEq] at hs
        subst hs
        simp only [effR, callF] at hv
        cases hk : okAll (args.toList.map ρ) with
        | false => rw [hk] at hv; simp at hv
        | true =>
          rw [hk] at hv
          simp only [cond_true] at hv
          obtain ⟨hc, hcall⟩ := hF _ _ _ _ _ hv
          refine ⟨g, (args.toList.map a.eval).toArray, ?_, hcall σ w _ r (okAll_map hρ _ hk)⟩
          simp only [resolve, Act.eval, Deferred.ofValue, Sem.run_bind, Sem.run_pure, Result.andThen_ok, invoke]
          rw [run_callFunc hc]
          congr 2
          apply Array.ext'
          simp
      | tmp t => simp only [Option.some.injEq] at hs; exact gen (.tmp t) (.inr rfl) hs.symm
      | const v => simp only [Option.some.injEq] at hs; exact gen (.const v) (.inr rfl) hs.symm
      | global g => simp only [Option.some.injEq] at hs; exact gen (.global g) (.inr rfl) hs.symm
  case makeFunc fn first caps =>
    exfalso
    cases fn <;> simp only [Option.some.injEq, reduceCtorEq] at hs
    subst hs
    rcases hns with ⟨_, _, e⟩ | ⟨_, _, e⟩ <;> cases e
  all_goals
    exfalso
    have : ∀ x, s ≠ .e x ∧ ∀ y, s ≠ .p y := by
      intro x
      rcases hns with ⟨_, _, rfl⟩ | ⟨_, _, rfl⟩ <;> exact ⟨fun e => (by cases e), fun y e => (by cases e)⟩
    first
      | (cases hs; done)
      | (cases hs; exact (this (.al .bad)).2 _ rfl)
      | (cases hs; exact (this _).1 rfl)
      | (revert hs
         repeat' split
         all_goals
           intro hs
           first
             | (cases hs; done)
             | (cases hs; exact (this (.al .bad)).2 _ rfl)
             | (cases hs; exact (this _).1 rfl)
             | (simp only [Option.map_eq_some_iff] at hs; obtain ⟨_, _, rfl⟩ := hs; exact (this (.al .bad)).2 _ rfl))

theorem spec_mv {o : Oper} {y : Operand} (hs : spec P o = some (.p (.mv y))) : o.op = .move y ∨ o.op = .assign y := by
  unfold spec at hs
  cases hop : o.op <;> rw [hop] at hs <;> simp only at hs
  case move z => simp only [Option.some.injEq, SOp.p.injEq, PO.mv.injEq] at hs; subst hs; exact .inl rfl
  case assign z => simp only [Option.some.injEq, SOp.p.injEq, PO.mv.injEq] at hs; subst hs; exact .inr rfl
  case makeFunc fn first caps =>
    exfalso
    cases fn <;> simp only [Option.some.injEq, reduceCtorEq] at hs
    cases hs
  all_goals
    exfalso
    first
      | (cases hs; done)
      | (revert hs
         repeat' split
         all_goals
           intro hs
           first
             | (cases hs; done)
             | (simp only [Option.map_eq_some_iff] at hs; obtain ⟨_, _, hs⟩ := hs; cases hs))

theorem denOps_nm : ∀ (idxs : List Nat) (env : Env) (T : Tr AV) (h : Hp) (r : R), denOps P ops m N F idxs env T h = r → r ≠ .fl → ∃ T' h', r = .nm T' h' := by
  intro idxs
  induction idxs with
  | nil => intro env T h r hr _; simp only [denOps] at hr; exact ⟨T, h, hr.symm⟩
  | cons i rest ih =>
    intro env T h r hr hne
    have put : ∀ {d : Option Nat} {v : AV} {h : Hp}, putK m N d v env (denOps P ops m N F rest) T h = r → ∃ T' h', r = .nm T' h' := by
      intro d v h hk
      unfold putK at hk
      cases d with
      | none => exact ih _ _ _ _ hk hne
      | some t =>
        simp only [blt_cond] at hk
        split at hk
        · cases hf : mfind m t with
          | some p => rw [hf] at hk; exact ih _ _ _ _ hk hne
          | none => rw [hf] at hk; exact ih _ _ _ _ hk hne
        · exact absurd hk.symm hne
    simp only [denOps] at hr
    cases ho : ops[i]? with
    | none => rw [ho] at hr; exact absurd hr.symm hne
    | some o =>
      rw [ho] at hr
      simp only at hr
      cases hs : spec P o with
      | none => rw [hs] at hr; exact absurd hr.symm hne
      | some s =>
        rw [hs] at hr
        cases hg : o.guard with
        | none =>
          rw [hg] at hr
          cases s with
          | p x => cases x <;> first | exact put hr | exact put (bnd1_R hr hne).2
          | e x => obtain ⟨v, h', _, e2⟩ := bnd2_R hr hne; exact put e2
          | c f args => obtain ⟨v, h', _, e2⟩ := bnd2_R hr hne; exact put e2
          | cv f args => obtain ⟨v, h', _, e2⟩ := bnd2_R hr hne; exact put e2
        | some jw =>
          obtain ⟨j, want⟩ := jw
          rw [hg] at hr
          cases s with
          | p x => cases x <;> exact put (bnd1_R hr hne).2
          | e x => obtain ⟨v, h', _, e2⟩ := bnd2_R hr hne; exact put e2
          | c f args => obtain ⟨v, h', _, e2⟩ := bnd2_R hr hne; exact put e2
          | cv f args => obtain ⟨v, h', _, e2⟩ := bnd2_R hr hne; exact put e2

/-- A REGION THAT RUNS IN THE ORDER OF THE TEXT. -/
theorem denOps_ok (hm : mok m = true) (hF : Sound P F) {σ0 : Sg} {h0 : Hp} {w0 : World} : ∀ (idxs : List Nat) (env : Env) (T : Tr AV) (h : Hp) (T' : Tr AV) (h' : Hp),
    denOps P ops m N F idxs env T h = .nm T' h' → ∀ (σ : Sg) (a : Act) (w : World), Rel σ h w → Stp σ0 h0 w0 σ h w → St σ m N env T a →
    wpOps P ops (Post σ0 h0 w0 m N T' h' .normal) idxs a w := by
  intro idxs
  induction idxs with
  | nil =>
    intro env T h T' h' hr σ a w r st s
    simp only [denOps, R.nm.injEq] at hr
    obtain ⟨rfl, rfl⟩ := hr
    exact ⟨rfl, σ, r, st, s.drop⟩
  | cons i rest ih =>
    intro env T h T' h' hr σ a w r st s
    have hne : R.nm T' h' ≠ .fl := fun e => (by cases e)
    -- a value is put, in whatever world the step has led to
    have put : ∀ {σ1 : Sg} {h1 : Hp} {w1 : World} {d : Option Nat} {v : AV} {cv : Value}, Rel σ1 h1 w1 → Stp σ h w σ1 h1 w1 → (v ≠ .bad → VR σ1 v cv) →
        putK m N d v env (denOps P ops m N F rest) T h1 = .nm T' h' → wpOps P ops (Post σ0 h0 w0 m N T' h' .normal) rest (a.put d cv) w1 := by
      intro σ1 h1 w1 d v cv r1 st1 hv hk
      obtain ⟨env', T1, hk', s'⟩ := putK_ok hm (s.mono st1.le) hv hk hne
      exact ih env' T1 h1 T' h' hk' σ1 _ w1 r1 (st.trans st1) s'
    simp only [denOps] at hr
    cases ho : ops[i]? with
    | none => rw [ho] at hr; cases hr
    | some o =>
      rw [ho] at hr
      simp only at hr
      simp only [wpOps, ho]
      cases hs : spec P o with
      | none => rw [hs] at hr; cases hr
      | some sp =>
        rw [hs] at hr
        -- what an operation that only looks does, when it is wanted
        have doP : ∀ {x : PO}, sp = .p x → ∀ {v : AV}, v = x.ev (opnd m env T) h.t → v ≠ .bad → putK m N o.dst v env (denOps P ops m N F rest) T h = .nm T' h' →
            o.wp P a w (wpOps P ops (Post σ0 h0 w0 m N T' h' .normal) rest) (Post σ0 h0 w0 m N T' h' .normal) := by
          intro x hx v hv hb hk
          subst hx hv
          obtain ⟨cv, e1, e2⟩ := opP_ok (P := P) r s.hρ hs hb
          unfold Oper.wp
          rw [e1]
          exact put r (Stp.refl _ _ _) (fun _ => e2) hk
        have doE : (∀ x, sp ≠ .p x) → ∀ {v : AV} {h1 : Hp}, effR F (opnd m env T) h sp = .ok v h1 → putK m N o.dst v env (denOps P ops m N F rest) T h1 = .nm T' h' →
            o.wp P a w (wpOps P ops (Post σ0 h0 w0 m N T' h' .normal) rest) (Post σ0 h0 w0 m N T' h' .normal) := by
          intro hnp v h1 hv hk
          unfold Oper.wp
          cases sp with
          | p x => exact absurd rfl (hnp x)
          | e x =>
            obtain ⟨n, w', σ', e1, e2, e3, e4⟩ := opE_ok (P := P) r s.hρ hs hv
            rw [e1]
            rcases e4 with ⟨cv, rfl, e4⟩ | ⟨rfl, rfl⟩
            · exact put e2 e3 (fun _ => e4) hk
            · exact put e2 e3 (fun _ => by simp only [VR, VRs]; exact ⟨[], rfl, rfl⟩) hk
          | c f args =>
            obtain ⟨g, cargs, e1, e2⟩ := call_ok hF r s.hρ hs (.inl ⟨_, _, rfl⟩) hv
            rw [e1]
            refine Calls.mono e2 ?_
            rintro e w' ⟨σ', cv, rfl, k1, k2, k3⟩
            exact put k1 k2 (fun _ => k3) hk
          | cv f args =>
            obtain ⟨g, cargs, e1, e2⟩ := call_ok hF r s.hρ hs (.inr ⟨_, _, rfl⟩) hv
            rw [e1]
            refine Calls.mono e2 ?_
            rintro e w' ⟨σ', cv, rfl, k1, k2, k3⟩
            exact put k1 k2 (fun _ => k3) hk
        have undefV : ∀ σ, VR σ (.tup []) undef := fun σ => by simp only [VR, VRs]; exact ⟨[], rfl, rfl⟩
        cases hg : o.guard with
        | none =>
          have hw : Region.wanted o (yielded ops a.tmps) = true := by simp [Region.wanted, hg]
          rw [if_pos hw]
          rw [hg] at hr
          refine .inl ?_
          cases sp with
          | p x =>
            cases x with
            | mv y =>
              simp only at hr
              have hsp : (execOp a.eval o).run P w = .ok (.value (a.eval y)) w := by
                unfold execOp
                rcases spec_mv hs with e | e <;> rw [e] <;> rfl
              unfold Oper.wp
              rw [hsp]
              exact put r (Stp.refl _ _ _) (fun hb => s.hρ y hb) hr
            | _ => obtain ⟨e1, e2⟩ := bnd1_R hr hne; exact doP rfl rfl e1 e2
          | e x => obtain ⟨v, h1, e1, e2⟩ := bnd2_R hr hne; exact doE (fun x e => (by cases e)) e1 e2
          | c f args => obtain ⟨v, h1, e1, e2⟩ := bnd2_R hr hne; exact doE (fun x e => (by cases e)) e1 e2
          | cv f args => obtain ⟨v, h1, e1, e2⟩ := bnd2_R hr hne; exact doE (fun x e => (by cases e)) e1 e2
        | some jw =>
          obtain ⟨j, want⟩ := jw
          rw [hg] at hr
          obtain ⟨g1, g2⟩ := wanted_of s hg
          -- under its guard, an operation that only looks
          have gP : ∀ {x : PO}, sp = .p x → bnd1 (gdE (guardV ops (opnd m env T) j) want (x.ev (opnd m env T) h.t)) (fun v => putK m N o.dst v env (denOps P ops m N F rest) T h) = .nm T' h' →
              if Region.wanted o (yielded ops a.tmps) = true then o.wp P a w (wpOps P ops (Post σ0 h0 w0 m N T' h' .normal) rest) (Post σ0 h0 w0 m N T' h' .normal) ∨ (o.asks P a w ∧ LetsOut (Post σ0 h0 w0 m N T' h' .normal))
              else wpOps P ops (Post σ0 h0 w0 m N T' h' .normal) rest (a.put o.dst undef) w := by
            intro x hx hr
            obtain ⟨e1, e2⟩ := bnd1_R hr hne
            cases hgv : guardV ops (opnd m env T) j <;> rw [hgv] at e1 e2 <;> simp only [gdE] at e1 e2 <;> (try contradiction)
            · rename_i b
              rw [g1 b hgv]
              cases hq : beqB b want with
              | true => rw [hq] at e1 e2; exact .inl (doP hx rfl e1 e2)
              | false =>
                rw [hq] at e1 e2
                exact put r (Stp.refl _ _ _) (fun _ => undefV σ) e2
            · rw [g2 _ hgv]
              exact put r (Stp.refl _ _ _) (fun _ => undefV σ) e2
          have gE : (∀ x, sp ≠ .p x) → bnd2 (gdR (guardV ops (opnd m env T) j) want (effR F (opnd m env T) h sp) h) (fun v h' => putK m N o.dst v env (denOps P ops m N F rest) T h') = .nm T' h' →
              if Region.wanted o (yielded ops a.tmps) = true then o.wp P a w (wpOps P ops (Post σ0 h0 w0 m N T' h' .normal) rest) (Post σ0 h0 w0 m N T' h' .normal) ∨ (o.asks P a w ∧ LetsOut (Post σ0 h0 w0 m N T' h' .normal))
              else wpOps P ops (Post σ0 h0 w0 m N T' h' .normal) rest (a.put o.dst undef) w := by
            intro hx hr
            obtain ⟨v, h1, e1, e2⟩ := bnd2_R hr hne
            cases hgv : guardV ops (opnd m env T) j <;> rw [hgv] at e1 <;> simp only [gdR] at e1 <;> (try contradiction)
            · rename_i b
              rw [g1 b hgv]
              cases hq : beqB b want with
              | true => rw [hq] at e1; exact .inl (doE hx e1 e2)
              | false =>
                rw [hq] at e1
                simp only [cond_false, RH.ok.injEq] at e1
                obtain ⟨rfl, rfl⟩ := e1
                exact put r (Stp.refl _ _ _) (fun _ => undefV σ) e2
            · rw [g2 _ hgv]
              simp only [RH.ok.injEq] at e1
              obtain ⟨rfl, rfl⟩ := e1
              exact put r (Stp.refl _ _ _) (fun _ => undefV σ) e2
          cases sp with
          | p x => cases x <;> exact gP rfl hr
          | e x => exact gE (fun x e => (by cases e)) hr
          | c f args => exact gE (fun x e => (by cases e)) hr
          | cv f args => exact gE (fun x e => (by cases e)) hr

end
end Go.Ev
