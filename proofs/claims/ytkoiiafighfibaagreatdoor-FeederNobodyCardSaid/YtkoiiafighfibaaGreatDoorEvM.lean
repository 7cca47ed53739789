/- The code of a function as a function on temporaries and heap; what it comes to in every world. -/
import Derived.Test.YtkoiiafighfibaaGreatDoorEvL
set_option autoImplicit false
namespace Go.Ev

/-- Which temporaries have a place, and where. -/
abbrev Mat := List (Nat × Ps)
def mfind : Mat → Nat → Option Ps
  | [], _ => none
  | (t, p) :: l, k => bif Nat.beq t k then some p else mfind l k
def pfree (p : Ps) : Mat → Bool
  | [] => true
  | (_, q) :: l => !(p.beq q) && pfree p l
def mok : Mat → Bool
  | [] => true
  | (_, p) :: l => pfree p l && mok l

abbrev Env := List (Nat × AV)
def efind : Env → Nat → Option AV
  | [], _ => none
  | (t, v) :: l, k => bif Nat.beq t k then some v else efind l k

noncomputable def opnd (m : Mat) (env : Env) (T : Tr AV) : Operand → AV
  | .tmp t => match efind env t with
    | some v => v
    | none => match mfind m t with
      | some p => T.get .bad p
      | none => .bad
  | .const v => toA v
  | .global _ => .bad
  | .func f => .fn f [] []

inductive R where
  | nm (T : Tr AV) (h : Hp)
  | ex (n : Nat) (T : Tr AV) (h : Hp)
  | rt (T : Tr AV) (h : Hp)
  | fl

abbrev M := Tr AV → Hp → R
abbrev Fs := Nat → List AV → Hp → RH

def isBad : AV → Bool
  | .bad => true
  | _ => false
noncomputable def bnd1 (v : AV) (k : AV → R) : R := Bool.rec (k v) .fl (isBad v)
noncomputable def bnd2 (r : RH) (k : AV → Hp → R) : R := RH.rec .fl (fun v h => k v h) r

theorem bnd1_ok {v : AV} {k : AV → R} (h : bnd1 v k ≠ .fl) : v ≠ .bad ∧ bnd1 v k = k v := by
  unfold bnd1 at *
  cases v <;> first | exact absurd rfl h | exact ⟨fun e => (by cases e), rfl⟩
theorem bnd2_ok {r : RH} {k : AV → Hp → R} (h : bnd2 r k ≠ .fl) : ∃ v h', r = .ok v h' ∧ bnd2 r k = k v h' := by
  cases r with
  | no => exact absurd rfl h
  | ok v h' => exact ⟨v, h', rfl, rfl⟩

/-- Under a guard. -/
def beqB : Bool → Bool → Bool
  | true, b => b
  | false, b => !b
def gdE (g : AV) (want : Bool) (e : AV) : AV :=
  match g with
  | .bool b => bif beqB b want then e else .tup []
  | .tup _ => .tup []
  | _ => .bad
def gdR (g : AV) (want : Bool) (r : RH) (h : Hp) : RH :=
  match g with
  | .bool b => bif beqB b want then r else .ok (.tup []) h
  | .tup _ => .ok (.tup []) h
  | _ => .no

/-- The value by which an operation is guarded. -/
noncomputable def guardV (ops : Array Oper) (ρ : Operand → AV) (j : Nat) : AV :=
  match (ops[j]?).bind (·.dst) with
  | some d => ρ (.tmp d)
  | none => .tup []

/-- A call of a function value. -/
def callV (F : Fs) (x : AV) (args : List AV) (h : Hp) : RH :=
  bif okAll args then
    match x with
    | .fn f first caps => F f (first ++ (args ++ caps)) h
    | _ => .no
  else .no
def callF (F : Fs) (f : Nat) (args : List AV) (h : Hp) : RH := bif okAll args then F f args h else .no

noncomputable def effR (F : Fs) (ρ : Operand → AV) (h : Hp) : SOp → RH
  | .e x => x.ev ρ h
  | .c f args => callF F f (args.map ρ) h
  | .cv x args => callV F (ρ x) (args.map ρ) h
  | .p _ => .no

/-- A value is put where an operation says. -/
noncomputable def putK (m : Mat) (N : Nat) (d : Option Nat) (v : AV) (env : Env) (k : Env → M) (T : Tr AV) (h : Hp) : R :=
  match d with
  | none => k env T h
  | some t => bif Nat.blt t N then
      match mfind m t with
      | some p => k env (T.set .bad p v) h
      | none => k ((t, v) :: env) T h
    else .fl

noncomputable def denOps (P : Program) (ops : Array Oper) (m : Mat) (N : Nat) (F : Fs) : List Nat → Env → M
  | [], _, T, h => .nm T h
  | i :: rest, env, T, h =>
    match ops[i]? with
    | none => .fl
    | some o =>
      match spec P o with
      | none => .fl
      | some (.p (.mv x)) => match o.guard with
        | none => putK m N o.dst (opnd m env T x) env (denOps P ops m N F rest) T h
        | some (j, want) => bnd1 (gdE (guardV ops (opnd m env T) j) want (opnd m env T x)) fun v => putK m N o.dst v env (denOps P ops m N F rest) T h
      | some (.p x) => match o.guard with
        | none => bnd1 (x.ev (opnd m env T) h.t) fun v => putK m N o.dst v env (denOps P ops m N F rest) T h
        | some (j, want) => bnd1 (gdE (guardV ops (opnd m env T) j) want (x.ev (opnd m env T) h.t)) fun v => putK m N o.dst v env (denOps P ops m N F rest) T h
      | some s => match o.guard with
        | none => bnd2 (effR F (opnd m env T) h s) fun v h' => putK m N o.dst v env (denOps P ops m N F rest) T h'
        | some (j, want) => bnd2 (gdR (guardV ops (opnd m env T) j) want (effR F (opnd m env T) h s) h) fun v h' => putK m N o.dst v env (denOps P ops m N F rest) T h'

def Callable (P : Program) (f : Nat) : Prop := ∃ fn, P.funcs[f]? = some fn ∧ (fn.name == "runtime.NumGoroutine") = false ∧ fn.body.isNone = false

/-- Every call that comes to something does just that, in every world that the heap stands for. -/
def Sound (P : Program) (F : Fs) : Prop := ∀ f args h v h', F f args h = .ok v h' → Callable P f ∧
  ∀ σ w cargs, Rel σ h w → VRs σ args cargs →
    Calls P f cargs.toArray w fun e w' => ∃ σ' cv, e = .returned cv ∧ Rel σ' h' w' ∧ Stp σ h w σ' h' w' ∧ VR σ' v cv

/-- The temporaries stand for the frame's. -/
structure St (σ : Sg) (m : Mat) (N : Nat) (env : Env) (T : Tr AV) (a : Act) : Prop where
  tmp : ∀ t, opnd m env T (.tmp t) ≠ .bad → VR σ (opnd m env T (.tmp t)) (a.tmps.getD t undef)
  defers : a.defers = []
  size : a.tmps.size = N
  env : ∀ t v, efind env t = some v → mfind m t = none

theorem mfind_inj {m : Mat} (hm : mok m = true) : ∀ t t' p, mfind m t = some p → mfind m t' = some p → t = t' := by
  have free : ∀ (l : Mat) p, pfree p l = true → ∀ t, mfind l t ≠ some p := by
    intro l p
    induction l with
    | nil => intro _ t h; simp [mfind] at h
    | cons x l ih =>
      obtain ⟨k, q⟩ := x
      intro hf t h
      simp only [pfree, Bool.and_eq_true, Bool.not_eq_true'] at hf
      simp only [mfind, beq_cond] at h
      split at h
      · simp only [Option.some.injEq] at h
        subst h
        have : ∀ p : Ps, p.beq p = true := by intro p; induction p <;> simp_all [Ps.beq]
        rw [this] at hf
        cases hf.1
      · exact ih hf.2 t h
  induction m with
  | nil => intro t t' p h; simp [mfind] at h
  | cons x l ih =>
    obtain ⟨k, q⟩ := x
    simp only [mok, Bool.and_eq_true] at hm
    intro t t' p h h'
    simp only [mfind, beq_cond] at h h'
    split at h
    · split at h'
      · omega
      · simp only [Option.some.injEq] at h
        subst h
        exact absurd h' (free l _ hm.1 t')
    · split at h'
      · simp only [Option.some.injEq] at h'
        subst h'
        exact absurd h (free l _ hm.1 t)
      · exact ih hm.2 t t' p h h'

section
variable {P : Program} {σ : Sg} {h : Hp} {w : World} {a : Act} {m : Mat} {N : Nat} {env : Env} {T : Tr AV}

theorem St.hρ (s : St σ m N env T a) : Hρ σ a (opnd m env T) := by
  intro y hb
  cases y with
  | tmp t => exact s.tmp t hb
  | const v => exact toA_ok hb
  | global g => exact absurd rfl hb
  | func f =>
    simp only [opnd, Act.eval, VR]
    exact ⟨[], [], VRs.nil, VRs.nil, rfl⟩

theorem St.mono {τ : Sg} (s : St σ m N env T a) (hl : Sg.le σ τ) : St τ m N env T a :=
  ⟨fun t hb => VR.mono hl _ _ (s.tmp t hb), s.defers, s.size, s.env⟩

theorem St.drop (s : St σ m N env T a) : St σ m N [] T a := by
  refine ⟨fun t hb => ?_, s.defers, s.size, fun t v h => by simp [efind] at h⟩
  have e : opnd m [] T (.tmp t) = opnd m env T (.tmp t) := by
    simp only [opnd, efind]
    cases he : efind env t with
    | none => rfl
    | some v =>
      have := s.env t v he
      simp only [opnd, efind, this] at hb
      exact absurd rfl hb
  rw [e] at hb ⊢
  exact s.tmp t hb

theorem getD_put (s : St σ m N env T a) {d : Nat} (hd : d < N) (v : Value) (t : Nat) : (a.put (some d) v).tmps.getD t undef = if t = d then v else a.tmps.getD t undef := by
  simp only [Act.put, Array.getD_eq_getD_getElem?]
  have hs : d < a.tmps.size := by rw [s.size]; exact hd
  by_cases h : t = d
  · subst h; simp [hs]
  · rw [Array.getElem?_setIfInBounds_ne (by omega), if_neg h]

/-- A value is put; what follows goes on from there. -/
theorem putK_ok (hm : mok m = true) (s : St σ m N env T a) {d : Option Nat} {v : AV} {cv : Value} (hv : v ≠ .bad → VR σ v cv) {k : Env → M} {r : R} (hk : putK m N d v env k T h = r) (hr : r ≠ .fl) :
    ∃ env' T', k env' T' h = r ∧ St σ m N env' T' (a.put d cv) := by
  unfold putK at hk
  cases d with
  | none => exact ⟨env, T, hk, s⟩
  | some t =>
    simp only [blt_cond] at hk
    split at hk
    · rename_i hlt
      cases hf : mfind m t with
      | some p =>
        rw [hf] at hk
        refine ⟨env, T.set .bad p v, hk, ⟨fun t' hb => ?_, s.defers, by simp [Act.put, s.size], s.env⟩⟩
        rw [getD_put s hlt]
        by_cases ht : t' = t
        · subst ht
          have he : efind env t' = none := by
            cases he : efind env t' with
            | none => rfl
            | some u => have := s.env t' u he; rw [this] at hf; cases hf
          rw [if_pos rfl]
          simp only [opnd, he, hf, Tr.get_set_same] at hb ⊢
          exact hv hb
        · rw [if_neg ht]
          have e : opnd m env (T.set .bad p v) (.tmp t') = opnd m env T (.tmp t') := by
            simp only [opnd]
            cases he : efind env t' with
            | some u => rfl
            | none =>
              cases hf' : mfind m t' with
              | none => rfl
              | some p' =>
                have hne : p' ≠ p := fun e => ht (mfind_inj hm t' t p (e ▸ hf') hf)
                simp only [Tr.get_set_ne _ _ _ _ _ hne]
          rw [e] at hb ⊢
          exact s.tmp t' hb
      | none =>
        rw [hf] at hk
        refine ⟨(t, v) :: env, T, hk, ⟨fun t' hb => ?_, s.defers, by simp [Act.put, s.size], fun t' u he => ?_⟩⟩
        · rw [getD_put s hlt]
          by_cases ht : t' = t
          · subst ht
            rw [if_pos rfl]
            simp only [opnd, efind, beq_cond, if_true] at hb ⊢
            exact hv hb
          · rw [if_neg ht]
            have e : opnd m ((t, v) :: env) T (.tmp t') = opnd m env T (.tmp t') := by
              simp only [opnd, efind, beq_cond]
              rw [if_neg (Ne.symm ht)]
            rw [e] at hb ⊢
            exact s.tmp t' hb
        · simp only [efind, beq_cond] at he
          split at he
          · rename_i e; subst e; exact hf
          · exact s.env t' u he
    · exact absurd hk.symm hr

/-- Whether a guarded operation is wanted. -/
theorem wanted_tmp {ρ : Operand → AV} (s : ∀ t, ρ (.tmp t) ≠ .bad → VR σ (ρ (.tmp t)) (a.tmps.getD t undef)) {ops : Array Oper} {o : Oper} {j : Nat} {want : Bool} (hg : o.guard = some (j, want)) :
    (∀ b, guardV ops ρ j = .bool b → Region.wanted o (yielded ops a.tmps) = beqB b want) ∧
    (∀ l, guardV ops ρ j = .tup l → Region.wanted o (yielded ops a.tmps) = false) := by
  have hy : ∀ {x : AV} {cv : Value}, ∀ d, (ops[j]?).bind (·.dst) = some d → a.tmps.getD d undef = cv → yielded ops a.tmps j = (match cv with | .bool b => some b | _ => none) := by
    intro x cv d hd hc
    simp only [yielded, hd, Option.bind_some]
    rw [Array.getD_eq_getD_getElem?] at hc
    cases hq : a.tmps[d]? with
    | none => rw [hq] at hc; simp only [Option.getD_none] at hc; subst hc; rfl
    | some u => rw [hq] at hc; simp only [Option.getD_some] at hc; subst hc; cases u <;> rfl
  unfold guardV
  cases hd : (ops[j]?).bind (·.dst) with
  | none =>
    refine ⟨fun b hb => by simp at hb, fun l _ => ?_⟩
    simp [Region.wanted, hg, yielded, hd]
  | some d =>
    simp only
    refine ⟨fun b hb => ?_, fun l hl => ?_⟩
    · have hv := s d (by rw [hb]; intro e; cases e)
      rw [hb] at hv
      have := hy (x := .bad) d hd (VR.bool' hv)
      simp only [Region.wanted, hg, this]
      cases b <;> cases want <;> rfl
    · have hv := s d (by rw [hl]; intro e; cases e)
      rw [hl] at hv
      simp only [VR] at hv
      obtain ⟨xs, _, hq⟩ := hv
      have := hy (x := .bad) d hd hq
      simp only [Region.wanted, hg, this]
      rfl

theorem wanted_of (s : St σ m N env T a) {ops : Array Oper} {o : Oper} {j : Nat} {want : Bool} (hg : o.guard = some (j, want)) :
    (∀ b, guardV ops (opnd m env T) j = .bool b → Region.wanted o (yielded ops a.tmps) = beqB b want) ∧
    (∀ l, guardV ops (opnd m env T) j = .tup l → Region.wanted o (yielded ops a.tmps) = false) := wanted_tmp (ρ := opnd m env T) s.tmp hg

end
end Go.Ev
