/- Code and functions. -/
import Derived.Test.YtkoiiafighfibaaGreatDoorEvN
import Derived.LoopN
set_option autoImplicit false
namespace Go.Ev

noncomputable def mSq (a b : M) : M := fun T h => R.rec (motive := fun _ => R) (fun T h => b T h) (fun n T h => .ex n T h) (fun T h => .rt T h) .fl (a T h)
noncomputable def mCd (c : Tr AV → AV) (a b : M) : M := fun T h =>
  match c T with
  | .bool x => Bool.rec (b T h) (a T h) x
  | _ => .fl
noncomputable def mBk (id : Nat) (a : M) : M := fun T h => R.rec (motive := fun _ => R) (fun T h => .nm T h) (fun n T h => bif Nat.beq n id then .nm T h else .ex n T h) (fun T h => .rt T h) .fl (a T h)
noncomputable def mLp (n : Nat) (a : M) : M :=
  Nat.rec (motive := fun _ => M) (fun _ _ => .fl) (fun _ l T h => R.rec (motive := fun _ => R) (fun T h => l T h) (fun n T h => .ex n T h) (fun T h => .rt T h) .fl (a T h)) n

/-- A piece of code. dd: regions that draw their order. -/
noncomputable def denC (P : Program) (m : Mat) (N : Nat) (F : Fs) (lf : Nat) (dd : Array Oper → M) : Code → M
  | .skip => fun T h => .nm T h
  | .label _ => fun T h => .nm T h
  | .region _ ops draw => match draw with
    | true => dd ops
    | false => denOps P ops m N F (List.range ops.size) []
  | .seq a b => mSq (denC P m N F lf dd a) (denC P m N F lf dd b)
  | .cond c a b => mCd (fun T => opnd m [] T c) (denC P m N F lf dd a) (denC P m N F lf dd b)
  | .block id b => mBk id (denC P m N F lf dd b)
  | .loop b => mLp lf (denC P m N F lf dd b)
  | .exit id => fun T h => .ex id T h
  | .ret => fun T h => .rt T h
  | _ => fun _ _ => .fl

section
variable {P : Program} {m : Mat} {N : Nat} {F : Fs} {lf : Nat} {dd : Array Oper → M}

def PostR (σ0 : Sg) (h0 : Hp) (w0 : World) (m : Mat) (N : Nat) (r : R) (e : Exit) (a : Act) (w : World) : Prop :=
  match r with
  | .nm T h => Post σ0 h0 w0 m N T h .normal e a w
  | .ex n T h => Post σ0 h0 w0 m N T h (.exit n) e a w
  | .rt T h => Post σ0 h0 w0 m N T h .ret e a w
  | .fl => False

/-- What is asked of the regions that draw. -/
def DrawOk (P : Program) (m : Mat) (N : Nat) (dd : Array Oper → M) : Prop := ∀ (ops : Array Oper) (T : Tr AV) (h : Hp) (r : R), dd ops T h = r → r ≠ .fl →
  ∀ (id : Nat) (σ0 : Sg) (h0 : Hp) (w0 : World) (σ : Sg) (a : Act) (w : World), Rel σ h w → Stp σ0 h0 w0 σ h w → St σ m N [] T a →
    (Code.region id ops true).wp P (PostR σ0 h0 w0 m N r) a w

/-- WHAT CODE COMES TO. -/
theorem denC_ok (hm : mok m = true) (hF : Sound P F) (hD : DrawOk P m N dd) (σ0 : Sg) (h0 : Hp) (w0 : World) : ∀ (c : Code) (T : Tr AV) (h : Hp) (r : R), denC P m N F lf dd c T h = r → r ≠ .fl →
    ∀ (σ : Sg) (a : Act) (w : World), Rel σ h w → Stp σ0 h0 w0 σ h w → St σ m N [] T a → c.wp P (PostR σ0 h0 w0 m N r) a w := by
  intro c
  induction c with
  | skip => intro T h r hr _ σ a w rel st s; subst hr; exact wp_skip ⟨rfl, σ, rel, st, s⟩
  | label l => intro T h r hr _ σ a w rel st s; subst hr; exact wp_label ⟨rfl, σ, rel, st, s⟩
  | exit id => intro T h r hr _ σ a w rel st s; subst hr; exact wp_exit ⟨rfl, σ, rel, st, s⟩
  | ret => intro T h r hr _ σ a w rel st s; subst hr; exact wp_ret ⟨rfl, σ, rel, st, s⟩
  | region id ops draw =>
    intro T h r hr hne σ a w rel st s
    cases draw with
    | true => exact hD ops T h r hr hne id σ0 h0 w0 σ a w rel st s
    | false =>
      simp only [denC] at hr
      obtain ⟨T', h', rfl⟩ := denOps_nm _ _ _ _ _ hr hne
      exact wp_region (denOps_ok hm hF _ _ _ _ _ _ hr σ a w rel st s)
  | seq x y ihx ihy =>
    intro T h r hr hne σ a w rel st s
    simp only [denC, mSq] at hr
    refine wp_seq ?_
    cases hx : denC P m N F lf dd x T h with
    | fl => rw [hx] at hr; exact absurd hr.symm hne
    | nm T1 h1 =>
      rw [hx] at hr
      refine wp_mono (ihx T h _ hx (fun e => (by cases e)) σ a w rel st s) ?_
      rintro e a1 w1 ⟨rfl, σ1, k1, k2, k3⟩
      exact ihy T1 h1 r hr hne σ1 a1 w1 k1 k2 k3
    | ex n T1 h1 =>
      rw [hx] at hr
      refine wp_mono (ihx T h _ hx (fun e => (by cases e)) σ a w rel st s) ?_
      rintro e a1 w1 ⟨rfl, hq⟩
      subst hr
      exact ⟨rfl, hq⟩
    | rt T1 h1 =>
      rw [hx] at hr
      refine wp_mono (ihx T h _ hx (fun e => (by cases e)) σ a w rel st s) ?_
      rintro e a1 w1 ⟨rfl, hq⟩
      subst hr
      exact ⟨rfl, hq⟩
  | cond c x y ihx ihy =>
    intro T h r hr hne σ a w rel st s
    simp only [denC, mCd] at hr
    cases hc : opnd m [] T c <;> rw [hc] at hr <;> simp only at hr <;> (try exact absurd hr.symm hne)
    rename_i b
    have hv := s.hρ c (by rw [hc]; intro e; cases e)
    rw [hc] at hv
    have hv := VR.bool' hv
    cases b
    · exact wp_cond_false hv (ihy T h r hr hne σ a w rel st s)
    · exact wp_cond_true hv (ihx T h r hr hne σ a w rel st s)
  | block id x ih =>
    intro T h r hr hne σ a w rel st s
    simp only [denC, mBk] at hr
    refine wp_block ?_
    cases hx : denC P m N F lf dd x T h with
    | fl => rw [hx] at hr; exact absurd hr.symm hne
    | nm T1 h1 =>
      rw [hx] at hr
      refine wp_mono (ih T h _ hx (fun e => (by cases e)) σ a w rel st s) ?_
      rintro e a1 w1 ⟨rfl, hq⟩
      subst hr
      exact ⟨rfl, hq⟩
    | ex n T1 h1 =>
      rw [hx] at hr
      refine wp_mono (ih T h _ hx (fun e => (by cases e)) σ a w rel st s) ?_
      rintro e a1 w1 ⟨rfl, hq⟩
      simp only [beq_cond] at hr
      simp only [Exit.inBlock]
      by_cases hid : n = id
      · rw [if_pos hid] at hr ⊢
        subst hr
        exact ⟨rfl, hq⟩
      · rw [if_neg hid] at hr ⊢
        subst hr
        exact ⟨rfl, hq⟩
    | rt T1 h1 =>
      rw [hx] at hr
      refine wp_mono (ih T h _ hx (fun e => (by cases e)) σ a w rel st s) ?_
      rintro e a1 w1 ⟨rfl, hq⟩
      subst hr
      exact ⟨rfl, hq⟩
  | loop x ih =>
    intro T h r hr hne σ a w rel st s
    simp only [denC] at hr
    refine wp_loop_rounds lf ?_
    have key : ∀ (n : Nat) (T : Tr AV) (h : Hp), mLp n (denC P m N F lf dd x) T h = r → ∀ (σ : Sg) (a : Act) (w : World), Rel σ h w → Stp σ0 h0 w0 σ h w → St σ m N [] T a →
        Code.rounds P x (PostR σ0 h0 w0 m N r) n a w := by
      intro n
      induction n with
      | zero => intro T h hr; exact absurd hr.symm hne
      | succ n ihn =>
        intro T h hr σ a w rel st s
        rw [rounds_succ]
        have hr' : R.rec (motive := fun _ => R) (fun T h => mLp n (denC P m N F lf dd x) T h) (fun n T h => .ex n T h) (fun T h => .rt T h) .fl (denC P m N F lf dd x T h) = r := hr
        cases hx : denC P m N F lf dd x T h with
        | fl => rw [hx] at hr'; exact absurd hr'.symm hne
        | nm T1 h1 =>
          rw [hx] at hr'
          refine wp_mono (ih T h _ hx (fun e => (by cases e)) σ a w rel st s) ?_
          rintro e a1 w1 ⟨rfl, σ1, k1, k2, k3⟩
          exact ihn T1 h1 hr' σ1 a1 w1 k1 k2 k3
        | ex n T1 h1 =>
          rw [hx] at hr'
          refine wp_mono (ih T h _ hx (fun e => (by cases e)) σ a w rel st s) ?_
          rintro e a1 w1 ⟨rfl, hq⟩
          subst hr'
          exact ⟨rfl, hq⟩
        | rt T1 h1 =>
          rw [hx] at hr'
          refine wp_mono (ih T h _ hx (fun e => (by cases e)) σ a w rel st s) ?_
          rintro e a1 w1 ⟨rfl, hq⟩
          subst hr'
          exact ⟨rfl, hq⟩
    exact key lf T h hr σ a w rel st s
  | _ => intro T h r hr hne; exact absurd hr.symm hne
end

/-- The parameters are put into their places. -/
noncomputable def params (m : Mat) : List AV → Nat → Tr AV → Tr AV
  | [], _, T => T
  | v :: vs, i, T => match mfind m i with
    | some p => params m vs (i + 1) (T.set .bad p v)
    | none => params m vs (i + 1) T

/-- A result. -/
noncomputable def resV (P : Program) (m : Mat) (T : Tr AV) (h : Hp) : ResultVar → AV
  | .tmp t => opnd m [] T (.tmp t)
  | .cell t ty => match aggOf P ty with
    | some none => opLd h.t (opnd m [] T (.tmp t))
    | some (some n) => opLdn h.t n (opnd m [] T (.tmp t))
    | none => .bad

noncomputable def resR (P : Program) (m : Mat) (rs : List ResultVar) (T : Tr AV) (h : Hp) : RH :=
  match rs with
  | [r] => match isBad (resV P m T h r) with
    | true => .no
    | false => .ok (resV P m T h r) h
  | rs => match okAll (rs.map (resV P m T h)) with
    | true => .ok (.tup (rs.map (resV P m T h))) h
    | false => .no

noncomputable def finR (P : Program) (m : Mat) (rs : List ResultVar) (r : R) : RH :=
  R.rec (motive := fun _ => RH) (fun T h => resR P m rs T h) (fun _ _ _ => .no) (fun T h => resR P m rs T h) .no r

end Go.Ev
