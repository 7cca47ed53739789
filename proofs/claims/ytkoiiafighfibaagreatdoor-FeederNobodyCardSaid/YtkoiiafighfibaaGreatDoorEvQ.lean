/- Regions that draw their order: what is asked of them, and the order in which they are evaluated. -/
import Derived.Test.YtkoiiafighfibaaGreatDoorEvP
import Derived.Orders
set_option autoImplicit false
namespace Go.Ev

/-! Operands -/

def PO.heapy : PO → Bool
  | .ld _ | .ldn _ _ => true
  | _ => false

def PO.looks : PO → List Operand
  | .mv x | .ld x | .ldn _ x | .nck x | .un _ x | .cvI _ x | .fa _ x | .ext x _ | .lenL x | .lenS x => [x]
  | .pick c a b => [c, a, b]
  | .bin _ _ x y => [x, y]
  | .sl _ x lo hi mx => x :: (lo.toList ++ (hi.toList ++ mx.toList))
  | .slS x lo hi => x :: (lo.toList ++ hi.toList)
  | .ia _ x i | .iaA _ _ x i | .ixS x i => [x, i]
  | .mf _ first caps => first ++ caps
  | .bld _ parts => parts.map fun p => p.2.2

def EO.looks : EO → List Operand
  | .box x => [x]
  | .al _ | .mm => []
  | .bs _ _ _ parts => parts.map fun p => p.2.2
  | .st _ x y | .app _ _ x y => [x, y]

def SOp.looks : SOp → List Operand
  | .p x => x.looks
  | .e x => x.looks
  | .c _ args => args
  | .cv x args => x :: args

theorem pmap_congr {ρ ρ' : Operand → AV} : ∀ {l : List (Nat × Nat × Operand)}, (∀ y ∈ l.map (fun p => p.2.2), ρ y = ρ' y) → pmap ρ l = pmap ρ' l
  | [], _ => rfl
  | (a, b, x) :: l, h => by
    simp only [pmap]
    rw [h x (by simp), pmap_congr (l := l) (fun y hy => h y (by simp only [List.map_cons, List.mem_cons]; exact .inr hy))]

theorem omap_congr {ρ ρ' : Operand → AV} {x : Option Operand} (h : ∀ y ∈ x.toList, ρ y = ρ' y) : x.map ρ = x.map ρ' := by
  cases x with
  | none => rfl
  | some y => simp only [Option.map_some]; rw [h y (by simp)]

theorem PO.ev_congr {ρ ρ' : Operand → AV} {t : Tr AObj} (x : PO) (h : ∀ y ∈ x.looks, ρ y = ρ' y) : x.ev ρ t = x.ev ρ' t := by
  cases x <;> simp only [PO.looks] at h <;> simp only [PO.ev]
  case pick c a b => rw [h c (by simp), h a (by simp), h b (by simp)]
  case bin op ek x y => rw [h x (by simp), h y (by simp)]
  case sl size x lo hi mx => rw [h x (by simp), omap_congr (x := lo) (fun y hy => h y (by simp at hy ⊢; simp [hy])), omap_congr (x := hi) (fun y hy => h y (by simp at hy ⊢; simp [hy])), omap_congr (x := mx) (fun y hy => h y (by simp at hy ⊢; simp [hy]))]
  case slS x lo hi => rw [h x (by simp), omap_congr (x := lo) (fun y hy => h y (by simp at hy ⊢; simp [hy])), omap_congr (x := hi) (fun y hy => h y (by simp at hy ⊢; simp [hy]))]
  case ia size x i => rw [h x (by simp), h i (by simp)]
  case iaA len size x i => rw [h x (by simp), h i (by simp)]
  case ixS x i => rw [h x (by simp), h i (by simp)]
  case mf f first caps => rw [List.map_congr_left (fun y hy => h y (by simp [hy])), List.map_congr_left (l := caps) (fun y hy => h y (by simp [hy]))]
  case bld zero parts => rw [pmap_congr h]
  all_goals rw [h _ (by simp)]

theorem PO.ev_still {ρ : Operand → AV} {t t' : Tr AObj} (x : PO) (h : x.heapy = false) : x.ev ρ t = x.ev ρ t' := by
  cases x <;> first | rfl | cases h

theorem effR_congr {F : Fs} {ρ ρ' : Operand → AV} {h : Hp} (s : SOp) (hs : ∀ y ∈ s.looks, ρ y = ρ' y) : effR F ρ h s = effR F ρ' h s := by
  cases s with
  | p x => rfl
  | e x =>
    simp only [SOp.looks] at hs
    cases x <;> simp only [EO.looks] at hs <;> simp only [effR, EO.ev]
    case box x => rw [hs x (by simp)]
    case bs len bts zero parts => rw [pmap_congr hs]
    case st n x y => rw [hs x (by simp), hs y (by simp)]
    case app size bytes x y => rw [hs x (by simp), hs y (by simp)]
  | c f args => simp only [SOp.looks] at hs; simp only [effR]; rw [List.map_congr_left hs]
  | cv x args =>
    simp only [SOp.looks] at hs
    simp only [effR]
    rw [hs x (by simp), List.map_congr_left (fun y hy => hs y (by simp [hy]))]

/-! Equality of values, as far as it is needed -/

def natsBeq : List Nat → List Nat → Bool
  | [], [] => true
  | a :: l, b :: r => Nat.beq a b && natsBeq l r
  | _, _ => false
theorem natsBeq_eq : ∀ {l r : List Nat}, natsBeq l r = true → l = r
  | [], [], _ => rfl
  | [], _ :: _, h => by simp [natsBeq] at h
  | _ :: _, [], h => by simp [natsBeq] at h
  | a :: l, b :: r, h => by
    simp only [natsBeq, Bool.and_eq_true] at h
    rw [Nat.eq_of_beq_eq_true h.1, natsBeq_eq h.2]
theorem Ps.beq_eq : ∀ {p q : Ps}, p.beq q = true → p = q := by
  intro p
  induction p <;> intro q h <;> cases q <;> first | rfl | (simp [Ps.beq] at h; done) | (rename_i ih q; rw [ih h])
def AV.sbeq : AV → AV → Bool
  | .bool a, .bool b => beqB a b
  | .int k a, .int k' b => decide (k = k') && Nat.beq a b
  | .str a, .str b => natsBeq a b
  | .nilp, .nilp => true
  | .ptr i a, .ptr j b => i.beq j && Nat.beq a b
  | .nils, .nils => true
  | .slc i a b c, .slc j a' b' c' => i.beq j && (Nat.beq a a' && (Nat.beq b b' && Nat.beq c c'))
  | .slo i a b c, .slo j a' b' c' => i.beq j && (Nat.beq a a' && (Nat.beq b b' && Nat.beq c c'))
  | .sld i a b, .sld j a' b' => i.beq j && (Nat.beq a a' && Nat.beq b b')
  | .nilm, .nilm => true
  | .mp i, .mp j => i.beq j
  | .nilf, .nilf => true
  | .nili, .nili => true
  | .any, .any => true
  | .fn f [] [], .fn g [] [] => Nat.beq f g
  | .tup [], .tup [] => true
  | _, _ => false
theorem AV.sbeq_eq {a b : AV} (h : a.sbeq b = true) : a = b := by
  unfold AV.sbeq at h
  split at h <;> (try rfl) <;> (try simp only [Bool.and_eq_true, decide_eq_true_eq] at h)
  · rename_i x y; cases x <;> cases y <;> simp_all [beqB]
  · rw [h.1, Nat.eq_of_beq_eq_true h.2]
  · rw [natsBeq_eq h]
  · rw [Ps.beq_eq h.1, Nat.eq_of_beq_eq_true h.2]
  · rw [Ps.beq_eq h.1, Nat.eq_of_beq_eq_true h.2.1, Nat.eq_of_beq_eq_true h.2.2.1, Nat.eq_of_beq_eq_true h.2.2.2]
  · rw [Ps.beq_eq h.1, Nat.eq_of_beq_eq_true h.2.1, Nat.eq_of_beq_eq_true h.2.2.1, Nat.eq_of_beq_eq_true h.2.2.2]
  · rw [Ps.beq_eq h.1, Nat.eq_of_beq_eq_true h.2.1, Nat.eq_of_beq_eq_true h.2.2]
  · rw [Ps.beq_eq h]
  · rw [Nat.eq_of_beq_eq_true h]
  · cases h
def sbeqs : List AV → List AV → Bool
  | [], [] => true
  | a :: l, b :: r => a.sbeq b && sbeqs l r
  | _, _ => false
theorem sbeqs_eq : ∀ {l r : List AV}, sbeqs l r = true → l = r
  | [], [], _ => rfl
  | [], _ :: _, h => by simp [sbeqs] at h
  | _ :: _, [], h => by simp [sbeqs] at h
  | a :: l, b :: r, h => by
    simp only [sbeqs, Bool.and_eq_true] at h
    rw [AV.sbeq_eq h.1, sbeqs_eq h.2]
def AV.vbeq : AV → AV → Bool
  | .agg l, .agg r => sbeqs l r
  | a, b => a.sbeq b
theorem AV.vbeq_eq {a b : AV} (h : a.vbeq b = true) : a = b := by
  unfold AV.vbeq at h
  split at h
  · rw [sbeqs_eq h]
  · exact AV.sbeq_eq h

/-! What is put by a list of operations -/
section
variable (ops : Array Oper)

def dstOf (i : Nat) : Option Nat := (ops[i]?).bind (·.dst)
def dstE (i : Nat) (v : AV) : Env :=
  match dstOf ops i with
  | some t => [(t, v)]
  | none => []
def dls (v : Nat → AV) : List Nat → Env
  | [] => []
  | i :: l => dls v l ++ dstE ops i (v i)
end

theorem efind_append (a b : Env) (t : Nat) : efind (a ++ b) t = match efind a t with | some v => some v | none => efind b t := by
  induction a with
  | nil => rfl
  | cons x a ih =>
    obtain ⟨k, v⟩ := x
    simp only [List.cons_append, efind, beq_cond]
    split
    · rfl
    · exact ih

section
variable {ops : Array Oper}

theorem dls_append (v : Nat → AV) (l r : List Nat) : dls ops v (l ++ r) = dls ops v r ++ dls ops v l := by
  induction l with
  | nil => simp [dls]
  | cons i l ih => simp [dls, ih]

theorem dls_congr {v v' : Nat → AV} {l : List Nat} (h : ∀ k ∈ l, v k = v' k) : dls ops v l = dls ops v' l := by
  induction l with
  | nil => rfl
  | cons i l ih => simp only [dls]; rw [ih (fun k hk => h k (by simp [hk])), h i (by simp)]

theorem efind_dstE_ne {i t : Nat} {v : AV} (h : dstOf ops i ≠ some t) : efind (dstE ops i v) t = none := by
  unfold dstE
  cases hd : dstOf ops i with
  | none => rfl
  | some u =>
    simp only [efind, beq_cond]
    rw [if_neg (fun e => h (by rw [hd, e]))]

theorem efind_dstE_eq {i t : Nat} {v : AV} (h : dstOf ops i = some t) : efind (dstE ops i v) t = some v := by
  unfold dstE
  rw [h]
  simp only [efind, beq_cond, if_true]

theorem efind_dls_none {v : Nat → AV} {l : List Nat} {t : Nat} (h : ∀ k ∈ l, dstOf ops k ≠ some t) : efind (dls ops v l) t = none := by
  induction l with
  | nil => rfl
  | cons i l ih =>
    simp only [dls]
    rw [efind_append, ih (fun k hk => h k (by simp [hk])), efind_dstE_ne (h i (by simp))]

/-- What does not write a temporary may be left out. -/
theorem efind_dls_filter {v : Nat → AV} {l : List Nat} {t : Nat} {p : Nat → Bool} (h : ∀ k ∈ l, p k = false → dstOf ops k ≠ some t) : efind (dls ops v (l.filter p)) t = efind (dls ops v l) t := by
  induction l with
  | nil => rfl
  | cons i l ih =>
    have := ih (fun k hk => h k (by simp [hk]))
    simp only [dls]
    rw [efind_append, ← this]
    cases hp : p i with
    | true => rw [List.filter_cons_of_pos hp]; simp only [dls]; rw [efind_append]
    | false =>
      rw [List.filter_cons_of_neg (by simp [hp])]
      rw [efind_dstE_ne (h i (by simp) hp)]
      cases efind (dls ops v (l.filter p)) t <;> rfl

end
end Go.Ev
