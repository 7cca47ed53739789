/- Every function of a program, by its text: for runs that are short. -/
import Derived.Test.YtkoiiafighfibaaGreatDoorEvT
set_option autoImplicit false
namespace Go.Ev

def psOf : Nat → Ps
  | 0 => .h
  | n + 1 => (psOf n).succ
theorem psOf_num : ∀ n, (psOf n).num = n + Ps.num .h
  | 0 => by simp [psOf]
  | n + 1 => by simp only [psOf, Ps.num_succ, psOf_num n]; omega

/-- Every temporary has a place. -/
def allMat : Nat → Mat
  | 0 => []
  | n + 1 => (n, psOf n) :: allMat n
theorem allMat_ok : ∀ n, mok (allMat n) = true
  | 0 => rfl
  | n + 1 => by
    simp only [allMat, mok, Bool.and_eq_true]
    refine ⟨?_, allMat_ok n⟩
    have : ∀ k, k ≤ n → pfree (psOf n) (allMat k) = true := by
      intro k
      induction k with
      | zero => intro _; rfl
      | succ k ih =>
        intro hk
        simp only [allMat, pfree, Bool.and_eq_true, Bool.not_eq_true']
        refine ⟨?_, ih (by omega)⟩
        cases hb : (psOf n).beq (psOf k) with
        | false => rfl
        | true =>
          have := congrArg Ps.num (Ps.beq_eq hb)
          rw [psOf_num, psOf_num] at this
          omega
    exact this n (Nat.le_refl _)

/-- An order: what looks as early as may be, what writes as late as may be. -/
def readyN (ops : Array Oper) (dn : List Nat) (i : Nat) : Bool :=
  !memN i dn && match ops[i]? with
    | some o => edgesIn dn o.after.toList
    | none => false
def firstN (f : Nat → Bool) : List Nat → Option Nat
  | [] => none
  | a :: l => bif f a then some a else firstN f l
def linGo (P : Program) (ops : Array Oper) (all : List Nat) : Nat → List Nat → List Nat
  | 0, dn => dn.reverse
  | n + 1, dn => match firstN (fun i => readyN ops dn i && !isE P ops i) all with
    | some i => linGo P ops all n (i :: dn)
    | none => match firstN (readyN ops dn) all with
      | some i => linGo P ops all n (i :: dn)
      | none => dn.reverse
def lin (P : Program) (ops : Array Oper) : List Nat := linGo P ops (List.range ops.size) ops.size []

/-- A function of the program. -/
noncomputable def denG (P : Program) (lf : Nat) (fn : Func) (F : Fs) (args : List AV) (h : Hp) : RH :=
  match fn.body with
  | none => .no
  | some c => bif fn.name == "runtime.NumGoroutine" then .no else
      denF P lf fn c (allMat fn.ntmps) (denDraw P (allMat fn.ntmps) fn.ntmps (lin P)) F args h

noncomputable def tblG (P : Program) (lf : Nat) (f : Nat) : Option (Fs → List AV → Hp → RH) :=
  match P.funcs[f]? with
  | none => none
  | some fn => some (denG P lf fn)

theorem tblG_ok {P : Program} {lf : Nat} (hmix : P.follows .mixedOrders = true) : ∀ f g, tblG P lf f = some g → FnOk P f g := by
  intro f g hg
  unfold tblG at hg
  cases hf : P.funcs[f]? with
  | none => rw [hf] at hg; cases hg
  | some fn =>
    rw [hf] at hg
    simp only [Option.some.injEq] at hg
    subst hg
    intro F hF args h v h' hv
    unfold denG at hv
    cases hb : fn.body with
    | none => rw [hb] at hv; cases hv
    | some c =>
      rw [hb] at hv
      simp only at hv
      cases hn : (fn.name == "runtime.NumGoroutine") with
      | true => rw [hn] at hv; cases hv
      | false =>
        rw [hn] at hv
        exact denF_ok hf hb hn (allMat_ok _) (fun F hF => denDraw_ok (allMat_ok _) hmix (lin P) hF) F hF args h v h' hv

/-- The empty heap. -/
def hp0 : Hp := ⟨.e, .h⟩

/-- It returns true. -/
def saysTrue : RH → Bool
  | .ok (.bool true) _ => true
  | _ => false

/-- A RUN THAT SAYS TRUE SAYS TRUE IN EVERY WORLD, and leaves every block there is as it is. -/
theorem says {P : Program} {lf n f : Nat} {args : List AV} (hmix : P.follows .mixedOrders = true) (hr : saysTrue (runF (tblG P lf) n f args hp0) = true)
    {w : World} {cargs : List Value} (hargs : VRs (fun _ => none) args cargs) :
    Calls P f cargs.toArray w fun e w' => e = .returned (.bool true) ∧ w'.os = w.os ∧ w'.tape = w.tape ∧ w'.output = w.output ∧ w.heap.size ≤ w'.heap.size ∧ ∀ b, b < w.heap.size → w'.heap[b]? = w.heap[b]? := by
  cases hq : runF (tblG P lf) n f args hp0 with
  | no => rw [hq] at hr; cases hr
  | ok v h' =>
    rw [hq] at hr
    obtain ⟨_, hc⟩ := runF_sound (tblG_ok hmix) n f args hp0 v h' hq
    have rel : Rel (fun _ => none) hp0 w := by
      refine ⟨fun id hl => ?_, fun id e he => (by cases he), fun _ _ _ _ h => (by cases h), fun _ _ => rfl⟩
      simp only [Hp.get, hp0, Tr.get_e] at hl
      exact hl.elim
    refine (hc _ w cargs rel hargs).mono ?_
    rintro e w' ⟨σ', cv, rfl, _, st, hv⟩
    have hcv : cv = .bool true := by
      cases v with
      | bool b => cases b <;> simp only [saysTrue] at hr <;> first | (cases hr; done) | simpa only [VR] using hv
      | _ => cases hr
    exact ⟨by rw [hcv], st.os, st.tape, st.output, st.size, fun b hb => st.block b hb fun id e he => (by cases he)⟩

end Go.Ev
