/- The abstract heap: what a block holds, and when it stands for a world. -/
import Derived.Test.YtkoiiafighfibaaGreatDoorEvA
import Derived.Laws.World
import Derived.Laws.Sem
set_option autoImplicit false
namespace Go.Ev

/-- Data in a row: cells, or bytes packed into one number. -/
inductive Pay where
  | cs (l : List AV)
  | bs (n N : Nat)

def nth : List AV → Nat → AV
  | [], _ => .bad
  | a :: _, 0 => a
  | _ :: l, j + 1 => nth l j

theorem nth_eq (l : List AV) (j : Nat) : nth l j = (l[j]?).getD .bad := by
  induction l generalizing j with
  | nil => rfl
  | cons a l ih => cases j with
    | zero => rfl
    | succ j => simp [nth, ih]

/-- A byte of a packed row. -/
def byteAt (N j : Nat) : Nat := Nat.land (Nat.shiftRight N (Nat.mul 8 j)) 255

theorem byteAt_eq (N j : Nat) : byteAt N j = N >>> (8 * j) % 256 := by
  show (N >>> (8 * j)) &&& 255 = _
  have := Nat.and_two_pow_sub_one_eq_mod (N >>> (8 * j)) 8
  simpa using this

theorem byteAt_lt (N j : Nat) : byteAt N j < 256 := by
  rw [byteAt_eq]; exact Nat.mod_lt _ (by decide)

theorem byteAt_bit (N j k : Nat) : (byteAt N j).testBit k = (decide (k < 8) && N.testBit (8 * j + k)) := by
  rw [byteAt_eq]
  have : (256 : Nat) = 2 ^ 8 := rfl
  rw [this, Nat.testBit_mod_two_pow, Nat.testBit_shiftRight]

def Pay.len : Pay → Nat
  | .cs l => l.length
  | .bs n _ => n

def Pay.rd : Pay → Nat → AV
  | .cs l, j => nth l j
  | .bs n N, j => bif Nat.blt j n then .int .u8 (byteAt N j) else .bad

/-- The packed row of n bytes from off on. -/
def subN (N off n : Nat) : Nat := Nat.mod (Nat.shiftRight N (Nat.mul 8 off)) (Nat.shiftLeft 1 (Nat.mul 8 n))
def catN (n1 N1 N2 : Nat) : Nat := Nat.lor (Nat.mod N1 (Nat.shiftLeft 1 (Nat.mul 8 n1))) (Nat.shiftLeft N2 (Nat.mul 8 n1))

theorem byteAt_subN (N off n j : Nat) (h : j < n) : byteAt (subN N off n) j = byteAt N (off + j) := by
  apply Nat.eq_of_testBit_eq
  intro k
  rw [byteAt_bit, byteAt_bit]
  by_cases hk : k < 8
  · have hs : subN N off n = (N >>> (8 * off)) % 2 ^ (8 * n) := by
      unfold subN
      show (N >>> (8 * off)) % (1 <<< (8 * n)) = _
      rw [Nat.one_shiftLeft]
    rw [hs, Nat.testBit_mod_two_pow, Nat.testBit_shiftRight]
    have h1 : 8 * j + k < 8 * n := by omega
    have h2 : 8 * off + (8 * j + k) = 8 * (off + j) + k := by omega
    simp [hk, h1, h2]
  · simp [hk]

theorem byteAt_catN (n1 N1 N2 j : Nat) : byteAt (catN n1 N1 N2) j = if j < n1 then byteAt N1 j else byteAt N2 (j - n1) := by
  have hs : catN n1 N1 N2 = (N1 % 2 ^ (8 * n1)) ||| (N2 <<< (8 * n1)) := by
    unfold catN
    show (N1 % (1 <<< (8 * n1))) ||| (N2 <<< (8 * n1)) = _
    rw [Nat.one_shiftLeft]
  apply Nat.eq_of_testBit_eq
  intro k
  split
  · rename_i h
    rw [byteAt_bit, byteAt_bit]
    by_cases hk : k < 8
    · rw [hs, Nat.testBit_or, Nat.testBit_mod_two_pow, Nat.testBit_shiftLeft]
      have h1 : 8 * j + k < 8 * n1 := by omega
      simp [hk, h1]
      intro h2; omega
    · simp [hk]
  · rename_i h
    rw [byteAt_bit, byteAt_bit]
    by_cases hk : k < 8
    · rw [hs, Nat.testBit_or, Nat.testBit_mod_two_pow, Nat.testBit_shiftLeft]
      have h1 : ¬ 8 * j + k < 8 * n1 := by omega
      have h2 : 8 * (j - n1) + k = 8 * j + k - 8 * n1 := by omega
      have h3 : 8 * n1 ≤ 8 * j + k := by omega
      simp [hk, h1, h2, h3]
    · simp [hk]

/-- n cells from off on. -/
def Pay.sub (p : Pay) (off n : Nat) : Option Pay :=
  bif Nat.ble (Nat.add off n) p.len then
    match p with
    | .cs l => some (.cs ((l.drop off).take n))
    | .bs _ N => some (.bs n (subN N off n))
  else none

theorem blt_iff {a b : Nat} : Nat.blt a b = true ↔ a < b := by
  unfold Nat.blt; rw [Nat.ble_eq]; omega

theorem Pay.rd_bs (n N j : Nat) : (Pay.bs n N).rd j = if j < n then .int .u8 (byteAt N j) else .bad := by
  simp only [Pay.rd]
  by_cases h : j < n
  · rw [blt_iff.2 h]; simp [h]
  · have : Nat.blt j n = false := by
      cases hb : Nat.blt j n with
      | false => rfl
      | true => exact absurd (blt_iff.1 hb) h
    rw [this]; simp [h]

theorem Pay.rd_cs (l : List AV) (j : Nat) : (Pay.cs l).rd j = (l[j]?).getD .bad := nth_eq l j

theorem Pay.rd_out (p : Pay) (j : Nat) (h : p.len ≤ j) : p.rd j = .bad := by
  cases p with
  | cs l => rw [Pay.rd_cs]; simp only [Pay.len] at h; simp [List.getElem?_eq_none h]
  | bs n N => rw [Pay.rd_bs]; simp only [Pay.len] at h; rw [if_neg (by omega)]

theorem Pay.sub_spec {p q : Pay} {off n : Nat} (h : p.sub off n = some q) : off + n ≤ p.len ∧ q.len = n ∧ ∀ j, j < n → q.rd j = p.rd (off + j) := by
  unfold Pay.sub at h
  by_cases hb : Nat.ble (Nat.add off n) p.len = true
  · rw [hb] at h
    have hle : off + n ≤ p.len := Nat.le_of_ble_eq_true hb
    refine ⟨hle, ?_⟩
    cases p with
    | cs l =>
      simp only [cond_true, Option.some.injEq] at h
      subst h
      simp only [Pay.len] at hle ⊢
      refine ⟨by simp; omega, fun j hj => ?_⟩
      rw [Pay.rd_cs, Pay.rd_cs]
      simp [hj]
    | bs m N =>
      simp only [cond_true, Option.some.injEq] at h
      subst h
      simp only [Pay.len] at hle ⊢
      refine ⟨trivial, fun j hj => ?_⟩
      rw [Pay.rd_bs, Pay.rd_bs, if_pos hj, if_pos (by omega), byteAt_subN _ _ _ _ hj]
  · simp only [Bool.not_eq_true] at hb
    rw [hb] at h
    simp at h

/-- One behind the other. -/
def Pay.cat : Pay → Pay → Option Pay
  | .cs a, .cs b => some (.cs (a ++ b))
  | .bs n N, .bs m M => some (.bs (Nat.add n m) (catN n N M))
  | _, _ => none

theorem Pay.cat_spec {p q r : Pay} (h : p.cat q = some r) : r.len = p.len + q.len ∧ (∀ j, j < p.len → r.rd j = p.rd j) ∧ (∀ j, r.rd (p.len + j) = q.rd j) := by
  cases p with
  | cs a =>
    cases q with
    | cs b =>
      simp only [Pay.cat, Option.some.injEq] at h
      subst h
      simp only [Pay.len]
      refine ⟨by simp, fun j hj => ?_, fun j => ?_⟩
      · rw [Pay.rd_cs, Pay.rd_cs, List.getElem?_append_left hj]
      · rw [Pay.rd_cs, Pay.rd_cs, List.getElem?_append_right (by omega)]
        simp
    | bs m M => simp [Pay.cat] at h
  | bs n N =>
    cases q with
    | cs b => simp [Pay.cat] at h
    | bs m M =>
      have hadd : Nat.add n m = n + m := rfl
      simp only [Pay.cat, Option.some.injEq, hadd] at h
      subst h
      simp only [Pay.len]
      refine ⟨trivial, fun j hj => ?_, fun j => ?_⟩
      · rw [Pay.rd_bs, Pay.rd_bs, if_pos hj, if_pos (show j < n + m by omega), byteAt_catN, if_pos hj]
      · rw [Pay.rd_bs, Pay.rd_bs, byteAt_catN, if_neg (show ¬ n + j < n by omega)]
        have : n + j - n = j := by omega
        rw [this]
        by_cases hj : j < m
        · rw [if_pos hj, if_pos (show n + j < n + m by omega)]
        · rw [if_neg hj, if_neg (show ¬ n + j < n + m by omega)]

/-- q laid over p from off on. -/
def Pay.put (p : Pay) (off : Nat) (q : Pay) : Option Pay :=
  bif Nat.ble (Nat.add off q.len) p.len then
    match p, q with
    | .cs a, .cs b => some (.cs (a.take off ++ (b ++ a.drop (Nat.add off b.length))))
    | .bs n N, .bs m M => some (.bs n (catN off N (catN m M (Nat.shiftRight N (Nat.mul 8 (Nat.add off m))))))
    | _, _ => none
  else none

theorem byteAt_shift (N k j : Nat) : byteAt (Nat.shiftRight N (Nat.mul 8 k)) j = byteAt N (k + j) := by
  rw [byteAt_eq, byteAt_eq]
  show (N >>> (8 * k)) >>> (8 * j) % 256 = _
  rw [← Nat.shiftRight_add]
  congr 2; omega

theorem Pay.put_spec {p q r : Pay} {off : Nat} (h : p.put off q = some r) : off + q.len ≤ p.len ∧ r.len = p.len ∧
    ∀ j, r.rd j = if off ≤ j ∧ j < off + q.len then q.rd (j - off) else p.rd j := by
  unfold Pay.put at h
  by_cases hb : Nat.ble (Nat.add off q.len) p.len = true
  · rw [hb] at h
    have hle : off + q.len ≤ p.len := Nat.le_of_ble_eq_true hb
    refine ⟨hle, ?_⟩
    cases p with
    | cs a =>
      cases q with
      | cs b =>
        simp only [cond_true, Option.some.injEq] at h
        subst h
        simp only [Pay.len] at hle ⊢
        have hadd : Nat.add off b.length = off + b.length := rfl
        rw [hadd]
        refine ⟨by simp; omega, fun j => ?_⟩
        simp only [Pay.rd_cs]
        rw [List.getElem?_append]
        simp only [List.length_take]
        split
        · rename_i h1
          rw [if_neg (by omega), List.getElem?_take]
          rw [if_pos (by omega)]
        · rename_i h1
          rw [List.getElem?_append]
          have hm : min off a.length = off := by omega
          rw [hm] at h1 ⊢
          split
          · rename_i h2
            rw [if_pos (by omega)]
          · rename_i h2
            rw [if_neg (by omega), List.getElem?_drop]
            congr 2; omega
      | bs m M => simp at h
    | bs n N =>
      cases q with
      | cs b => simp at h
      | bs m M =>
        simp only [cond_true, Option.some.injEq] at h
        subst h
        simp only [Pay.len] at hle ⊢
        refine ⟨trivial, fun j => ?_⟩
        simp only [Pay.rd_bs]
        by_cases hj : j < n
        · rw [if_pos hj, byteAt_catN]
          by_cases h1 : j < off
          · rw [if_pos h1, if_neg (by omega)]; rw [if_pos hj]
          · rw [if_neg h1, byteAt_catN]
            by_cases h2 : j - off < m
            · rw [if_pos h2, if_pos (by omega), if_pos h2]
            · rw [if_neg h2, if_neg (by omega), byteAt_shift]
              have : off + m + (j - off - m) = j := by omega
              have h3 : Nat.add off m = off + m := rfl
              rw [h3, this, if_pos hj]
        · rw [if_neg hj, if_neg (by omega), if_neg hj]
  · simp only [Bool.not_eq_true] at hb
    rw [hb] at h
    simp at h

/-- What a block holds. 'no': nothing is known of it. 'dat p z': a row; z above 0: append made it for elements of z cells, and its capacity is not known. -/
inductive AObj where
  | no
  | dat (p : Pay) (z : Nat)
  | map (es : List (AV × AV × Nat)) (clock : Nat)
  | mit (m : Option Ps) (since : Nat) (seen : List Nat) (last : Nat)
  | sit (l : List Nat) (pos : Nat)

structure Hp where
  t : Tr AObj
  nx : Ps

noncomputable def Hp.get (h : Hp) (id : Ps) : AObj := h.t.get .no id
noncomputable def Hp.set (h : Hp) (id : Ps) (o : AObj) : Hp := ⟨h.t.set .no id o, h.nx⟩
noncomputable def Hp.new (h : Hp) (o : AObj) : Hp := ⟨h.t.set .no h.nx o, h.nx.succ⟩

theorem Hp.get_set (h : Hp) (id : Ps) (o : AObj) (k : Ps) : (h.set id o).get k = if k = id then o else h.get k := by
  unfold Hp.get Hp.set
  by_cases e : k = id
  · subst e; simp [Tr.get_set_same]
  · simp [e, Tr.get_set_ne _ _ _ _ _ e]
theorem Hp.get_new (h : Hp) (o : AObj) (k : Ps) : (h.new o).get k = if k = h.nx then o else h.get k := by
  unfold Hp.get Hp.new
  by_cases e : k = h.nx
  · subst e; simp [Tr.get_set_same]
  · simp [e, Tr.get_set_ne _ _ _ _ _ e]

def ERs (σ : Sg) : List (AV × AV × Nat) → List MapEntry → Prop
  | [], ms => ms = []
  | (a, b, n) :: es, ms => ∃ m ms', VR σ a m.key ∧ VR σ b m.val ∧ m.born = n ∧ ERs σ es ms' ∧ ms = m :: ms'

theorem ERs.mono {σ τ : Sg} (h : Sg.le σ τ) : ∀ (es : List (AV × AV × Nat)) (ms : List MapEntry), ERs σ es ms → ERs τ es ms
  | [], _, r => by simpa only [ERs] using r
  | (a, b, n) :: es, _, r => by
    simp only [ERs] at r ⊢
    obtain ⟨m, ms', h1, h2, h3, h4, r⟩ := r
    exact ⟨m, ms', VR.mono h _ _ h1, VR.mono h _ _ h2, h3, ERs.mono h es ms' h4, r⟩

/-- A block of a world, and what is known of it. -/
def OR (σ : Sg) (e : Ent) (w : World) : AObj → Prop
  | .no => True
  | .dat p z => ∃ c t lo hi, w.heap[e.blk]? = some (.cells c t (lo, hi)) ∧ (lo < hi → c.size ≤ lo) ∧ e.sh + p.len ≤ c.size ∧
      (∀ j, j < p.len → (p.rd j).scal = true ∧ ∃ v, c[e.sh + j]? = some v ∧ VR σ (p.rd j) v) ∧
      (0 < z → e.osz = z ∧ e.sh + e.cap * z ≤ c.size ∧ p.len ≤ e.cap * z)
  | .map es clock => ∃ ms, w.heap[e.blk]? = some (.map ms clock) ∧ ERs σ es ms.toList
  | .mit m since seen last => ∃ r, w.heap[e.blk]? = some (.mapIter r since seen.toArray last) ∧
      (match m with | none => r = none | some id => ∃ e', σ id = some e' ∧ r = some e'.blk)
  | .sit l pos => w.heap[e.blk]? = some (.stringIter (strOf l) pos) ∧ ∀ b ∈ l, b < 256

theorem OR.mono {σ τ : Sg} (h : Sg.le σ τ) {e : Ent} {w w' : World} (hw : w'.heap[e.blk]? = w.heap[e.blk]?) : ∀ {o : AObj}, OR σ e w o → OR τ e w' o
  | .no, _ => trivial
  | .dat p z, r => by
    simp only [OR] at r ⊢
    obtain ⟨c, t, lo, hi, h1, h2, h3, h4, h5⟩ := r
    exact ⟨c, t, lo, hi, hw ▸ h1, h2, h3, fun j hj => let ⟨s, v, a, b⟩ := h4 j hj; ⟨s, v, a, VR.mono h _ _ b⟩, h5⟩
  | .map es clock, r => by
    simp only [OR] at r ⊢
    obtain ⟨ms, h1, h2⟩ := r
    exact ⟨ms, hw ▸ h1, ERs.mono h _ _ h2⟩
  | .mit m since seen last, r => by
    simp only [OR] at r ⊢
    obtain ⟨q, h1, h2⟩ := r
    refine ⟨q, hw ▸ h1, ?_⟩
    cases m with
    | none => exact h2
    | some id => obtain ⟨e', he, hr⟩ := h2; exact ⟨e', h _ _ he, hr⟩
  | .sit l pos, r => by
    simp only [OR] at r ⊢
    exact ⟨hw ▸ r.1, r.2⟩

/-- A block is known. -/
def live : AObj → Prop
  | .no => False
  | _ => True

theorem OR.lt {σ : Sg} {e : Ent} {w : World} : ∀ {o : AObj}, OR σ e w o → live o → e.blk < w.heap.size := by
  have key : ∀ {x : Obj}, w.heap[e.blk]? = some x → e.blk < w.heap.size := by
    intro x hx
    rcases Nat.lt_or_ge e.blk w.heap.size with h | h
    · exact h
    · simp [Array.getElem?_eq_none h] at hx
  intro o r hl
  cases o with
  | no => exact hl.elim
  | dat p z => simp only [OR] at r; obtain ⟨c, t, lo, hi, h1, _⟩ := r; exact key h1
  | map es clock => simp only [OR] at r; obtain ⟨ms, h1, _⟩ := r; exact key h1
  | mit m a b c => simp only [OR] at r; obtain ⟨q, h1, _⟩ := r; exact key h1
  | sit l p => simp only [OR] at r; exact key r.1

/-- The abstract heap stands for the world. -/
structure Rel (σ : Sg) (h : Hp) (w : World) : Prop where
  dom : ∀ id, live (h.get id) → ∃ e, σ id = some e
  obj : ∀ id e, σ id = some e → OR σ e w (h.get id)
  inj : ∀ id id' e e', σ id = some e → σ id' = some e' → live (h.get id) → live (h.get id') → e.blk = e'.blk → id = id'
  fresh : ∀ id, h.nx.num ≤ id.num → σ id = none

/-- What a step does: it only adds to the names, leaves blocks that are not known as they were, and knows no old block that was not known. -/
structure Stp (σ : Sg) (h : Hp) (w : World) (σ' : Sg) (h' : Hp) (w' : World) : Prop where
  le : Sg.le σ σ'
  os : w'.os = w.os
  tape : w'.tape = w.tape
  output : w'.output = w.output
  size : w.heap.size ≤ w'.heap.size
  block : ∀ b, b < w.heap.size → (∀ id e, σ id = some e → live (h.get id) → e.blk ≠ b) → w'.heap[b]? = w.heap[b]?
  track : ∀ id e, σ' id = some e → live (h'.get id) → e.blk < w.heap.size → ∃ id0 e0, σ id0 = some e0 ∧ live (h.get id0) ∧ e0.blk = e.blk

theorem Stp.refl (σ : Sg) (h : Hp) (w : World) : Stp σ h w σ h w :=
  ⟨Sg.le_refl σ, rfl, rfl, rfl, Nat.le_refl _, fun _ _ _ => rfl, fun id e he hl _ => ⟨id, e, he, hl, rfl⟩⟩

theorem Stp.trans {σ0 σ1 σ2 : Sg} {h0 h1 h2 : Hp} {w0 w1 w2 : World} (a : Stp σ0 h0 w0 σ1 h1 w1) (b : Stp σ1 h1 w1 σ2 h2 w2) :
    Stp σ0 h0 w0 σ2 h2 w2 where
  le := Sg.le_trans a.le b.le
  os := b.os.trans a.os
  tape := b.tape.trans a.tape
  output := b.output.trans a.output
  size := Nat.le_trans a.size b.size
  block := fun k hk hn => by
    refine (b.block k (Nat.lt_of_lt_of_le hk a.size) fun id e he hl hb => ?_).trans (a.block k hk hn)
    obtain ⟨id0, e0, he0, hl0, hb0⟩ := a.track id e he hl (hb ▸ hk)
    exact hn id0 e0 he0 hl0 (hb0.trans hb)
  track := fun id e he hl hk => by
    obtain ⟨id1, e1, he1, hl1, hb1⟩ := b.track id e he hl (Nat.lt_of_lt_of_le hk a.size)
    obtain ⟨id0, e0, he0, hl0, hb0⟩ := a.track id1 e1 he1 hl1 (hb1 ▸ hk)
    exact ⟨id0, e0, he0, hl0, hb0.trans hb1⟩

end Go.Ev
