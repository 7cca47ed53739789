/- The abstract values, heaps and temporaries of an evaluator for closed runs: keys and tries. -/
import Derived.Calls
import Derived.Orders
import Derived.Laws.Sem
set_option autoImplicit false
namespace Go.Ev

/-- Keys: positive numbers in binary, least bit first. -/
inductive Ps where
  | h
  | o (p : Ps)
  | i (p : Ps)

def Ps.num : Ps → Nat
  | .h => 1
  | .o p => 2 * p.num
  | .i p => 2 * p.num + 1

def Ps.succ : Ps → Ps
  | .h => .o .h
  | .o p => .i p
  | .i p => .o p.succ

theorem Ps.num_succ (p : Ps) : p.succ.num = p.num + 1 := by
  induction p with
  | h => rfl
  | o p _ => rfl
  | i p ih => simp only [Ps.succ, Ps.num, ih]; omega

theorem Ps.num_pos (p : Ps) : 0 < p.num := by
  induction p with
  | h => exact Nat.one_pos
  | o p ih => simp only [Ps.num]; omega
  | i p _ => simp only [Ps.num]; omega

theorem Ps.num_inj : ∀ (p q : Ps), p.num = q.num → p = q
  | .h, .h, _ => rfl
  | .h, .o q, e => by have := q.num_pos; simp only [Ps.num] at e; omega
  | .h, .i q, e => by have := q.num_pos; simp only [Ps.num] at e; omega
  | .o p, .h, e => by have := p.num_pos; simp only [Ps.num] at e; omega
  | .i p, .h, e => by have := p.num_pos; simp only [Ps.num] at e; omega
  | .o p, .o q, e => by rw [Ps.num_inj p q (by simp only [Ps.num] at e; omega)]
  | .o p, .i q, e => by simp only [Ps.num] at e; omega
  | .i p, .o q, e => by simp only [Ps.num] at e; omega
  | .i p, .i q, e => by rw [Ps.num_inj p q (by simp only [Ps.num] at e; omega)]

def Ps.beq : Ps → Ps → Bool
  | .h, .h => true
  | .o p, .o q => p.beq q
  | .i p, .i q => p.beq q
  | _, _ => false

theorem Ps.eq_of_beq : ∀ (p q : Ps), p.beq q = true → p = q
  | .h, .h, _ => rfl
  | .o p, .o q, e => by rw [Ps.eq_of_beq p q e]
  | .i p, .i q, e => by rw [Ps.eq_of_beq p q e]
  | .h, .o _, e => by cases e
  | .h, .i _, e => by cases e
  | .o _, .h, e => by cases e
  | .o _, .i _, e => by cases e
  | .i _, .h, e => by cases e
  | .i _, .o _, e => by cases e

instance : DecidableEq Ps := fun p q =>
  if h : p.num = q.num then .isTrue (Ps.num_inj p q h) else .isFalse fun e => h (e ▸ rfl)

/-- Tries over keys; what is not there reads as a default. -/
inductive Tr (α : Type) where
  | e
  | n (l : Tr α) (v : α) (r : Tr α)

noncomputable def Tr.get {α : Type} (d : α) (t : Tr α) (p : Ps) : α :=
  Ps.rec (motive := fun _ => Tr α → α)
    (fun t => Tr.rec (motive := fun _ => α) d (fun _ v _ _ _ => v) t)
    (fun _ ih t => Tr.rec (motive := fun _ => α) d (fun l _ _ _ _ => ih l) t)
    (fun _ ih t => Tr.rec (motive := fun _ => α) d (fun _ _ r _ _ => ih r) t) p t

noncomputable def Tr.set {α : Type} (d : α) (t : Tr α) (p : Ps) (x : α) : Tr α :=
  Ps.rec (motive := fun _ => Tr α → Tr α)
    (fun t => Tr.rec (motive := fun _ => Tr α) (.n .e x .e) (fun l _ r _ _ => .n l x r) t)
    (fun _ ih t => Tr.rec (motive := fun _ => Tr α) (.n (ih .e) d .e) (fun l v r _ _ => .n (ih l) v r) t)
    (fun _ ih t => Tr.rec (motive := fun _ => Tr α) (.n .e d (ih .e)) (fun l v r _ _ => .n l v (ih r)) t) p t

section
variable {α : Type} (d : α)
theorem Tr.get_e (p : Ps) : (Tr.e : Tr α).get d p = d := by cases p <;> rfl
theorem Tr.get_h (l r : Tr α) (v : α) : (Tr.n l v r).get d .h = v := rfl
theorem Tr.get_o (l r : Tr α) (v : α) (p : Ps) : (Tr.n l v r).get d (.o p) = l.get d p := rfl
theorem Tr.get_i (l r : Tr α) (v : α) (p : Ps) : (Tr.n l v r).get d (.i p) = r.get d p := rfl
theorem Tr.set_eh (x : α) : (Tr.e : Tr α).set d .h x = .n .e x .e := rfl
theorem Tr.set_eo (p : Ps) (x : α) : (Tr.e : Tr α).set d (.o p) x = .n (Tr.e.set d p x) d .e := rfl
theorem Tr.set_ei (p : Ps) (x : α) : (Tr.e : Tr α).set d (.i p) x = .n .e d (Tr.e.set d p x) := rfl
theorem Tr.set_h (l r : Tr α) (v x : α) : (Tr.n l v r).set d .h x = .n l x r := rfl
theorem Tr.set_o (l r : Tr α) (v x : α) (p : Ps) : (Tr.n l v r).set d (.o p) x = .n (l.set d p x) v r := rfl
theorem Tr.set_i (l r : Tr α) (v x : α) (p : Ps) : (Tr.n l v r).set d (.i p) x = .n l v (r.set d p x) := rfl

theorem Tr.get_set_same (p : Ps) (x : α) : ∀ t : Tr α, (t.set d p x).get d p = x := by
  induction p with
  | h => intro t; cases t <;> rfl
  | o p ih => intro t; cases t <;> exact ih _
  | i p ih => intro t; cases t <;> exact ih _

theorem Tr.get_set_ne (p : Ps) (x : α) : ∀ (t : Tr α) (q : Ps), q ≠ p → (t.set d p x).get d q = t.get d q := by
  induction p with
  | h =>
    intro t q hq
    cases q with
    | h => exact absurd rfl hq
    | o q => cases t <;> simp [Tr.set_eh, Tr.set_h, Tr.get_o, Tr.get_e]
    | i q => cases t <;> simp [Tr.set_eh, Tr.set_h, Tr.get_i, Tr.get_e]
  | o p ih =>
    intro t q hq
    cases q with
    | h => cases t <;> simp [Tr.set_eo, Tr.set_o, Tr.get_h, Tr.get_e]
    | o q =>
      have hne : q ≠ p := fun e => hq (e ▸ rfl)
      cases t with
      | e => rw [Tr.set_eo, Tr.get_o, ih _ _ hne, Tr.get_e, Tr.get_e]
      | n l v r => rw [Tr.set_o, Tr.get_o, ih _ _ hne, Tr.get_o]
    | i q => cases t <;> simp [Tr.set_eo, Tr.set_o, Tr.get_i, Tr.get_e]
  | i p ih =>
    intro t q hq
    cases q with
    | h => cases t <;> simp [Tr.set_ei, Tr.set_i, Tr.get_h, Tr.get_e]
    | i q =>
      have hne : q ≠ p := fun e => hq (e ▸ rfl)
      cases t with
      | e => rw [Tr.set_ei, Tr.get_i, ih _ _ hne, Tr.get_e, Tr.get_e]
      | n l v r => rw [Tr.set_i, Tr.get_i, ih _ _ hne, Tr.get_i]
    | o q => cases t <;> simp [Tr.set_ei, Tr.set_i, Tr.get_o, Tr.get_e]
end

/-- Values. 'bad': none. An integer is kept modulo 2^bits. A slice is 'slc' where its capacity is known, 'slo' where it lies in a block that append made (its capacity is not known; z: cells an element; el: how many elements of the block lie ahead of it), 'sld' where it is empty and may lie nowhere. -/
inductive AV where
  | bad
  | bool (b : Bool)
  | int (k : IntKind) (n : Nat)
  | str (l : List Nat)
  | nilp
  | ptr (id : Ps) (off : Nat)
  | nils
  | slc (id : Ps) (off len cap : Nat)
  | slo (id : Ps) (z len el : Nat)
  | sld (id : Ps) (z el : Nat)
  | nilm
  | mp (id : Ps)
  | nilf
  | fn (f : Nat) (first caps : List AV)
  | nili
  | ifc (t : Nat) (v : AV)
  | agg (cs : List AV)
  | tup (vs : List AV)
  | any

/-- A value of one cell. -/
def AV.scal : AV → Bool
  | .bad | .agg _ | .tup _ => false
  | _ => true
/-- The cells that a value takes. -/
def AV.cells : AV → List AV
  | .agg l => l
  | v => [v]
def allScal : List AV → Bool
  | [] => true
  | a :: l => a.scal && allScal l

/-- What an integer kept modulo 2^bits is. -/
def IntKind.back (k : IntKind) (n : Nat) : Int :=
  if k.signed && decide (2 ^ (k.bits - 1) ≤ n) then (n : Int) - 2 ^ k.bits else n

/-- Where an abstract block lies: the block, the first cell, and for a block that append made: its capacity in elements, and cells an element. -/
structure Ent where
  blk : Nat
  sh : Nat
  cap : Nat
  osz : Nat

abbrev Sg := Ps → Option Ent

def Sg.le (σ τ : Sg) : Prop := ∀ id e, σ id = some e → τ id = some e

theorem Sg.le_refl (σ : Sg) : Sg.le σ σ := fun _ _ h => h
theorem Sg.le_trans {σ τ υ : Sg} (h : Sg.le σ τ) (k : Sg.le τ υ) : Sg.le σ υ := fun id e x => k id e (h id e x)

def strOf (l : List Nat) : ByteArray := ⟨(l.map UInt8.ofNat).toArray⟩

mutual
/-- An abstract value and a value. -/
def VR (σ : Sg) : AV → Value → Prop
  | .bad, _ => False
  | .bool b, x => x = .bool b
  | .int k n, x => n < 2 ^ k.bits ∧ x = .int k (IntKind.back k n)
  | .str l, x => (∀ b ∈ l, b < 256) ∧ x = .string (strOf l)
  | .nilp, x => x = .pointer none
  | .ptr id off, x => ∃ e, σ id = some e ∧ x = .pointer (some ⟨e.blk, e.sh + off, none⟩)
  | .nils, x => x = .slice none 0 0
  | .slc id off len cap, x => ∃ e, σ id = some e ∧ len ≤ cap ∧ x = .slice (some ⟨e.blk, e.sh + off, none⟩) len cap
  | .slo id z len el, x => ∃ e, σ id = some e ∧ e.osz = z ∧ 0 < z ∧ el + len ≤ e.cap ∧ x = .slice (some ⟨e.blk, e.sh + el * z, none⟩) len (e.cap - el)
  | .sld id z el, x => (∃ e, σ id = some e ∧ e.osz = z ∧ 0 < z ∧ el ≤ e.cap ∧ x = .slice (some ⟨e.blk, e.sh + el * z, none⟩) 0 (e.cap - el)) ∨ ∃ a, x = .slice (some a) 0 0
  | .nilm, x => x = .map none
  | .mp id, x => ∃ e, σ id = some e ∧ x = .map (some e.blk)
  | .nilf, x => x = .nilFunc
  | .fn f as bs, x => ∃ xs ys, VRs σ as xs ∧ VRs σ bs ys ∧ x = .func (.func f) xs.toArray ys.toArray
  | .nili, x => x = .nilIface
  | .ifc t a, x => ∃ y, VR σ a y ∧ x = .iface t y
  | .agg as, x => allScal as = true ∧ ∃ xs, VRs σ as xs ∧ x = .agg xs.toArray
  | .tup as, x => ∃ xs, VRs σ as xs ∧ x = .tuple xs.toArray
  | .any, x => x.oneCell' = true
def VRs (σ : Sg) : List AV → List Value → Prop
  | [], xs => xs = []
  | a :: as, xs => ∃ y ys, VR σ a y ∧ VRs σ as ys ∧ xs = y :: ys
end

mutual
theorem VR.mono {σ τ : Sg} (h : Sg.le σ τ) : ∀ (a : AV) (x : Value), VR σ a x → VR τ a x
  | .bad, _, r => by simp only [VR] at r
  | .bool _, _, r => by simpa only [VR] using r
  | .int _ _, _, r => by simpa only [VR] using r
  | .str _, _, r => by simpa only [VR] using r
  | .nilp, _, r => by simpa only [VR] using r
  | .ptr _ _, _, r => by simp only [VR] at r ⊢; obtain ⟨e, he, r⟩ := r; exact ⟨e, h _ _ he, r⟩
  | .nils, _, r => by simpa only [VR] using r
  | .slc _ _ _ _, _, r => by simp only [VR] at r ⊢; obtain ⟨e, he, r⟩ := r; exact ⟨e, h _ _ he, r⟩
  | .slo _ _ _ _, _, r => by simp only [VR] at r ⊢; obtain ⟨e, he, r⟩ := r; exact ⟨e, h _ _ he, r⟩
  | .sld _ _ _, _, r => by
    simp only [VR] at r ⊢
    rcases r with ⟨e, he, r⟩ | r
    · exact .inl ⟨e, h _ _ he, r⟩
    · exact .inr r
  | .nilm, _, r => by simpa only [VR] using r
  | .mp _, _, r => by simp only [VR] at r ⊢; obtain ⟨e, he, r⟩ := r; exact ⟨e, h _ _ he, r⟩
  | .nilf, _, r => by simpa only [VR] using r
  | .fn _ as bs, _, r => by
    simp only [VR] at r ⊢
    obtain ⟨xs, ys, h1, h2, r⟩ := r
    exact ⟨xs, ys, VRs.mono h as xs h1, VRs.mono h bs ys h2, r⟩
  | .nili, _, r => by simpa only [VR] using r
  | .ifc _ a, _, r => by simp only [VR] at r ⊢; obtain ⟨y, h1, r⟩ := r; exact ⟨y, VR.mono h a y h1, r⟩
  | .agg as, _, r => by simp only [VR] at r ⊢; obtain ⟨hs, xs, h1, r⟩ := r; exact ⟨hs, xs, VRs.mono h as xs h1, r⟩
  | .tup as, _, r => by simp only [VR] at r ⊢; obtain ⟨xs, h1, r⟩ := r; exact ⟨xs, VRs.mono h as xs h1, r⟩
  | .any, _, r => by simpa only [VR] using r
theorem VRs.mono {σ τ : Sg} (h : Sg.le σ τ) : ∀ (as : List AV) (xs : List Value), VRs σ as xs → VRs τ as xs
  | [], _, r => by simpa only [VRs] using r
  | a :: as, _, r => by
    simp only [VRs] at r ⊢
    obtain ⟨y, ys, h1, h2, r⟩ := r
    exact ⟨y, ys, VR.mono h a y h1, VRs.mono h as ys h2, r⟩
end

theorem VRs.nil {σ : Sg} : VRs σ [] [] := by simp only [VRs]
theorem VRs.cons {σ : Sg} {a : AV} {as : List AV} {x : Value} {xs : List Value} (h : VR σ a x) (t : VRs σ as xs) : VRs σ (a :: as) (x :: xs) := by
  simp only [VRs]; exact ⟨x, xs, h, t, rfl⟩
theorem VRs.length {σ : Sg} : ∀ {as : List AV} {xs : List Value}, VRs σ as xs → as.length = xs.length
  | [], _, r => by simp only [VRs] at r; subst r; rfl
  | a :: as, _, r => by
    simp only [VRs] at r
    obtain ⟨y, ys, _, h2, rfl⟩ := r
    simp [VRs.length h2]
theorem VRs.get {σ : Sg} : ∀ {as : List AV} {xs : List Value}, VRs σ as xs → ∀ j (h : j < as.length) (h' : j < xs.length), VR σ as[j] xs[j]
  | [], _, _, j, h, _ => by simp at h
  | a :: as, _, r, j, h, h' => by
    simp only [VRs] at r
    obtain ⟨y, ys, h1, h2, rfl⟩ := r
    cases j with
    | zero => exact h1
    | succ j => exact VRs.get h2 j (by simpa using h) (by simpa using h')
theorem VRs.of_get {σ : Sg} : ∀ {as : List AV} {xs : List Value}, as.length = xs.length → (∀ j (h : j < as.length) (h' : j < xs.length), VR σ as[j] xs[j]) → VRs σ as xs
  | [], [], _, _ => VRs.nil
  | [], _ :: _, h, _ => by simp at h
  | _ :: _, [], h, _ => by simp at h
  | a :: as, x :: xs, h, g =>
    VRs.cons (g 0 (by simp) (by simp)) (VRs.of_get (by simpa using h) fun j h1 h2 => g (j + 1) (by simpa using h1) (by simpa using h2))
theorem VRs.append {σ : Sg} : ∀ {as bs : List AV} {xs ys : List Value}, VRs σ as xs → VRs σ bs ys → VRs σ (as ++ bs) (xs ++ ys)
  | [], _, _, _, h, k => by simp only [VRs] at h; subst h; exact k
  | a :: as, _, _, _, h, k => by
    simp only [VRs] at h
    obtain ⟨y, zs, h1, h2, rfl⟩ := h
    exact VRs.cons h1 (VRs.append h2 k)
theorem VRs.take {σ : Sg} (n : Nat) : ∀ {as : List AV} {xs : List Value}, VRs σ as xs → VRs σ (as.take n) (xs.take n) := by
  induction n with
  | zero => intro as xs _; simp; exact VRs.nil
  | succ n ih =>
    intro as xs h
    cases as with
    | nil => simp only [VRs] at h; subst h; simp; exact VRs.nil
    | cons a as =>
      simp only [VRs] at h
      obtain ⟨y, ys, h1, h2, rfl⟩ := h
      exact VRs.cons h1 (ih h2)
theorem VRs.drop {σ : Sg} (n : Nat) : ∀ {as : List AV} {xs : List Value}, VRs σ as xs → VRs σ (as.drop n) (xs.drop n) := by
  induction n with
  | zero => intro as xs h; simpa using h
  | succ n ih =>
    intro as xs h
    cases as with
    | nil => simp only [VRs] at h; subst h; simp; exact VRs.nil
    | cons a as =>
      simp only [VRs] at h
      obtain ⟨y, ys, h1, h2, rfl⟩ := h
      simpa using ih h2

theorem allScal_iff (l : List AV) : allScal l = true ↔ ∀ a ∈ l, a.scal = true := by
  induction l with
  | nil => simp [allScal]
  | cons a l ih => simp [allScal, ih]

theorem VR.ne_bad {σ : Sg} {a : AV} {x : Value} (h : VR σ a x) : a ≠ .bad := by
  intro e; subst e; simp only [VR] at h

theorem VR.oneCell {σ : Sg} {a : AV} {x : Value} (h : VR σ a x) (hs : a.scal = true) : x.oneCell' = true := by
  cases a <;> simp only [VR, AV.scal] at h hs <;> first
    | contradiction
    | exact h
    | (subst h; rfl)
    | (rcases h with ⟨_, _, _, _, _, rfl⟩ | ⟨_, rfl⟩; all_goals rfl)
    | (obtain ⟨_, rfl⟩ := h; rfl)
    | (obtain ⟨_, _, rfl⟩ := h; rfl)
    | (obtain ⟨_, _, _, rfl⟩ := h; rfl)
    | (obtain ⟨_, _, _, _, rfl⟩ := h; rfl)
    | (obtain ⟨_, _, _, _, _, rfl⟩ := h; rfl)

theorem cells_oneCell {x : Value} (h : x.oneCell' = true) : x.cells = #[x] := by
  cases x <;> first | rfl | cases h

/-- The cells of a value that can lie in memory. -/
theorem VR.cellsOf {σ : Sg} {a : AV} {x : Value} (h : VR σ a x) (hs : a.scal = true ∨ ∃ l, a = .agg l) :
    ∃ xs, x.cells = xs.toArray ∧ VRs σ a.cells xs ∧ allScal a.cells = true := by
  rcases hs with hs | ⟨l, rfl⟩
  · have hc : a.cells = [a] := by cases a <;> first | rfl | cases hs
    refine ⟨[x], cells_oneCell (h.oneCell hs), ?_, ?_⟩
    · rw [hc]; exact VRs.cons h VRs.nil
    · rw [hc]; simp [allScal, hs]
  · simp only [VR] at h
    obtain ⟨h1, xs, h2, rfl⟩ := h
    exact ⟨xs, rfl, h2, h1⟩

end Go.Ev
