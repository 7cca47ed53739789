/- Memory: load, store, new blocks. -/
import Derived.Test.YtkoiiafighfibaaGreatDoorEvD
import Derived.Laws.Cells
set_option autoImplicit false
namespace Go.Ev

section
variable {P : Program} {σ : Sg} {h : Hp} {w : World}

theorem cell_of_heap {b off : Nat} {c : Array Value} {t : TypeId} {fr : Nat × Nat} (hb : w.heap[b]? = some (.cells c t fr)) : w.cell? ⟨b, off, none⟩ = c[off]? := by
  simp [World.cell?, hb]

theorem add_eq (b off n : Nat) : (⟨b, off, none⟩ : Addr).add n = ⟨b, off + n, none⟩ := by
  unfold Addr.add; split
  · rename_i h; subst h; rfl
  · rfl

/-- A known cell. -/
theorem Rel.cell (r : Rel σ h w) {id : Ps} {e : Ent} {p : Pay} {z j : Nat} (he : σ id = some e) (ho : h.get id = .dat p z) (hj : j < p.len) :
    (p.rd j).scal = true ∧ ∃ v, w.cell? ⟨e.blk, e.sh + j, none⟩ = some v ∧ VR σ (p.rd j) v := by
  have := r.obj id e he
  rw [ho] at this
  simp only [OR] at this
  obtain ⟨c, t, lo, hi, h1, _, _, h4, _⟩ := this
  obtain ⟨hs, v, hv, hr⟩ := h4 j hj
  exact ⟨hs, v, by rw [cell_of_heap h1]; exact hv, hr⟩

/-- A payload and the values that it stands for. -/
def PR (σ : Sg) (p : Pay) (xs : List Value) : Prop := p.len = xs.length ∧ ∀ j (hj : j < xs.length), (p.rd j).scal = true ∧ VR σ (p.rd j) xs[j]

theorem PR.oneCell {p : Pay} {xs : List Value} (h : PR σ p xs) : ∀ x ∈ xs, x.oneCell' = true := by
  intro x hx
  obtain ⟨j, hj, rfl⟩ := List.getElem_of_mem hx
  exact (h.2 j hj).2.oneCell (h.2 j hj).1

/-- A known stretch of a block. -/
theorem Rel.stretch (r : Rel σ h w) {id : Ps} {e : Ent} {p q : Pay} {z off n : Nat} (he : σ id = some e) (ho : h.get id = .dat p z) (hs : p.sub off n = some q) :
    ∃ xs, PR σ q xs ∧ xs.length = n ∧ (∀ j v, xs[j]? = some v → w.cell? ((⟨e.blk, e.sh + off, none⟩ : Addr).add j) = some v) := by
  obtain ⟨hle, hl, hrd⟩ := Pay.sub_spec hs
  have key : ∀ j, j < n → ∃ v, w.cell? ⟨e.blk, e.sh + (off + j), none⟩ = some v ∧ (q.rd j).scal = true ∧ VR σ (q.rd j) v := by
    intro j hj
    obtain ⟨hsc, v, hv, hr⟩ := r.cell he ho (j := off + j) (by omega)
    rw [hrd j hj]
    exact ⟨v, hv, hsc, hr⟩
  have : ∃ xs : List Value, xs.length = n ∧ ∀ j (hj : j < xs.length), w.cell? ⟨e.blk, e.sh + (off + j), none⟩ = some xs[j] ∧ (q.rd j).scal = true ∧ VR σ (q.rd j) xs[j] := by
    clear hs hl hrd hle
    induction n with
    | zero => exact ⟨[], rfl, fun j hj => by simp at hj⟩
    | succ n ih =>
      obtain ⟨xs, hxl, hx⟩ := ih (fun j hj => key j (by omega))
      obtain ⟨v, hv⟩ := key n (by omega)
      refine ⟨xs ++ [v], by simp [hxl], fun j hj => ?_⟩
      by_cases hjn : j < n
      · rw [List.getElem_append_left (by omega)]
        exact hx j (by omega)
      · have : j = n := by simp at hj; omega
        subst this
        rw [List.getElem_append_right (by omega)]
        simpa [hxl] using hv
  obtain ⟨xs, hxl, hx⟩ := this
  refine ⟨xs, ⟨by omega, fun j hj => (hx j hj).2⟩, hxl, fun j v hv => ?_⟩
  rw [add_eq, Nat.add_assoc]
  have hj : j < xs.length := by
    rcases Nat.lt_or_ge j xs.length with h | h
    · exact h
    · simp [List.getElem?_eq_none h] at hv
  rw [List.getElem?_eq_getElem hj] at hv
  cases hv
  exact (hx j hj).1

/-- Cells are written, one behind the other. -/
theorem run_storeCells_gen : ∀ (vs : List Value) (b off i : Nat) (c : Array Value) (t : TypeId) (lo hi : Nat) (w : World),
    w.heap[b]? = some (.cells c t (lo, hi)) → (lo < hi → c.size ≤ lo) → (∀ x ∈ vs, x.oneCell' = true) → off + i + vs.length ≤ c.size →
    ∃ (w' : World) (c' : Array Value), (storeCells ⟨b, off, none⟩ vs i).run P w = .ok () w' ∧ w'.heap[b]? = some (.cells c' t (lo, hi)) ∧ c'.size = c.size ∧
      (∀ j, c'[j]? = if off + i ≤ j ∧ j < off + i + vs.length then vs[j - (off + i)]? else c[j]?) ∧
      (∀ k, k ≠ b → w'.heap[k]? = w.heap[k]?) ∧ w'.heap.size = w.heap.size ∧ w'.os = w.os ∧ w'.tape = w.tape ∧ w'.output = w.output := by
  intro vs
  induction vs with
  | nil =>
    intro b off i c t lo hi w hb _ _ _
    refine ⟨w, c, by simp [storeCells], hb, rfl, fun j => ?_, fun _ _ => rfl, rfl, rfl, rfl, rfl⟩
    have hn : ¬ (off + i ≤ j ∧ j < off + i + ([] : List Value).length) := by simp
    rw [if_neg hn]
  | cons v vs ih =>
    intro b off i c t lo hi w hb hfr hone hle
    simp only [List.length_cons] at hle
    have hlt : off + i < c.size := by omega
    have hc : w.cell? ⟨b, off + i, none⟩ = some c[off + i] := by rw [cell_of_heap hb, Array.getElem?_eq_getElem hlt]
    have hf : w.frozen? ⟨b, off + i, none⟩ = false := by
      simp only [World.frozen?, hb]
      cases hd : (decide (lo ≤ off + i) && decide (off + i < hi)) with
      | false => rfl
      | true => simp at hd; have := hfr (by omega); omega
    have hrun : (store ((⟨b, off, none⟩ : Addr).add i) v).run P w = .ok () (w.setCell ⟨b, off + i, none⟩ v) := by
      rw [run_store P w _ v .plain (hone v (by simp)), add_eq, hc]
      simp [hf]
    have hb1 : (w.setCell ⟨b, off + i, none⟩ v).heap[b]? = some (.cells (c.setIfInBounds (off + i) v) t (lo, hi)) := by
      simp [World.setCell, Array.getElem?_modify, hb]
    obtain ⟨w', c', h1, h2, h3, h4, h5, h6, h7, h8, h9⟩ := ih b off (i + 1) (c.setIfInBounds (off + i) v) t lo hi (w.setCell ⟨b, off + i, none⟩ v) hb1
      (by simpa using hfr) (fun x hx => hone x (by simp [hx])) (by simp; omega)
    refine ⟨w', c', by simp only [storeCells, Sem.run_bind, hrun, Result.andThen_ok]; exact h1, h2, by rw [h3]; simp, fun j => ?_, fun k hk => ?_, ?_, h7, h8, h9⟩
    · rw [h4 j]
      simp only [List.length_cons]
      by_cases hj : j = off + i
      · subst hj
        rw [if_neg (by omega), if_pos (by omega)]
        simp [hlt]
      · by_cases hin : off + (i + 1) ≤ j ∧ j < off + (i + 1) + vs.length
        · rw [if_pos hin, if_pos (by omega)]
          have : j - (off + i) = (j - (off + (i + 1))) + 1 := by omega
          rw [this]; simp
        · rw [if_neg hin, if_neg (by omega), Array.getElem?_setIfInBounds_ne (by omega)]
    · rw [h5 k hk]
      simp [World.setCell, Array.getElem?_modify, Ne.symm hk]
    · rw [h6]; simp

/-- What a payload is made of: cells as they are, or one byte. -/
def mkPay (p : Pay) (l : List AV) : Option Pay :=
  match p with
  | .cs _ => some (.cs l)
  | .bs _ _ => match l with
    | [.int .u8 b] => bif Nat.blt b 256 then some (.bs 1 b) else none
    | _ => none

theorem byteAt_zero (b : Nat) (hb : b < 256) : byteAt b 0 = b := by
  rw [byteAt_eq]; simp; omega

theorem mkPay_spec {p q : Pay} {l : List AV} (h : mkPay p l = some q) : q.len = l.length ∧ ∀ j (hj : j < l.length), q.rd j = l[j] := by
  unfold mkPay at h
  cases p with
  | cs a =>
    simp only [Option.some.injEq] at h
    subst h
    exact ⟨rfl, fun j hj => by rw [Pay.rd_cs, List.getElem?_eq_getElem hj]; rfl⟩
  | bs n N =>
    simp only at h
    split at h
    · rename_i b
      rw [blt_cond] at h
      split at h
      · rename_i hb
        simp only [Option.some.injEq] at h
        subst h
        refine ⟨rfl, fun j hj => ?_⟩
        have : j = 0 := by simp at hj; omega
        subst this
        rw [Pay.rd_bs, if_pos (by decide), byteAt_zero _ hb]; rfl
      · cases h
    · cases h

theorem PR.of_cells {p q : Pay} {l : List AV} {xs : List Value} (h : mkPay p l = some q) (hv : VRs σ l xs) (hs : allScal l = true) : PR σ q xs := by
  obtain ⟨h1, h2⟩ := mkPay_spec h
  have hl := hv.length
  refine ⟨by omega, fun j hj => ?_⟩
  rw [h2 j (by omega)]
  exact ⟨(allScal_iff l).1 hs _ (List.getElem_mem _), hv.get j (by omega) hj⟩

/-- A payload is stored in a known block. -/
theorem Rel.put (r : Rel σ h w) {id : Ps} {e : Ent} {p q p' : Pay} {z off : Nat} {xs : List Value} (he : σ id = some e) (ho : h.get id = .dat p z)
    (hp : p.put off q = some p') (hq : PR σ q xs) :
    ∃ w', (storeCells ⟨e.blk, e.sh + off, none⟩ xs).run P w = .ok () w' ∧ Rel σ (h.set id (.dat p' z)) w' ∧ Stp σ h w σ (h.set id (.dat p' z)) w' := by
  obtain ⟨hle, hl, hrd⟩ := Pay.put_spec hp
  have hlive : live (h.get id) := by rw [ho]; trivial
  have hobj := r.obj id e he
  rw [ho] at hobj
  simp only [OR] at hobj
  obtain ⟨c, t, lo, hi, h1, h2, h3, h4, h5⟩ := hobj
  obtain ⟨w', c', g1, g2, g3, g4, g5, g6, g7, g8, g9⟩ := run_storeCells_gen (P := P) xs e.blk (e.sh + off) 0 c t lo hi w h1 h2 hq.oneCell (by have := hq.1; omega)
  refine ⟨w', g1, r.write he hlive g5 ?_, Stp.write he hlive g5 g6 g7 g8 g9⟩
  simp only [OR]
  refine ⟨c', t, lo, hi, g2, by rw [g3]; exact h2, by omega, fun j hj => ?_, fun hz => ?_⟩
  · rw [hrd j, g4]
    have hql := hq.1
    by_cases hin : off ≤ j ∧ j < off + q.len
    · rw [if_pos hin, if_pos (by omega)]
      have hlt : j - off < xs.length := by omega
      obtain ⟨s1, s2⟩ := hq.2 (j - off) hlt
      refine ⟨s1, xs[j - off], ?_, s2⟩
      rw [← List.getElem?_eq_getElem hlt]
      congr 1; omega
    · rw [if_neg hin, if_neg (by omega)]
      exact h4 j (by omega)
  · obtain ⟨k1, k2, k3⟩ := h5 hz
    exact ⟨k1, by omega, by omega⟩

/-- A load of one cell. -/
noncomputable def opLd (h : Tr AObj) (a : AV) : AV :=
  match a with
  | .ptr id off => match h.get .no id with
    | .dat p _ => p.rd off
    | _ => .bad
  | _ => .bad

theorem opLd_ok (r : Rel σ h w) {a : AV} {x : Value} (ha : VR σ a x) (hb : opLd h.t a ≠ .bad) :
    ∃ ad v, x = .pointer (some ad) ∧ (load ad).run P w = .ok v w ∧ VR σ (opLd h.t a) v := by
  cases a <;> simp only [opLd] at hb <;> try contradiction
  rename_i id off
  simp only [VR] at ha
  obtain ⟨e, he, rfl⟩ := ha
  cases ho : h.get id with
  | dat p z =>
    have ho' : h.t.get .no id = .dat p z := ho
    rw [ho'] at hb
    have hlt : off < p.len := by
      rcases Nat.lt_or_ge off p.len with h | h
      · exact h
      · exact absurd (p.rd_out off h) hb
    obtain ⟨_, v, hv, hr⟩ := r.cell he ho hlt
    refine ⟨_, v, rfl, by simp [hv], ?_⟩
    simp only [opLd, ho']
    exact hr
  | _ =>
    have ho' : h.t.get .no id = _ := ho
    rw [ho'] at hb
    exact absurd rfl hb

/-- A load of n cells. -/
noncomputable def opLdn (h : Tr AObj) (n : Nat) (a : AV) : AV :=
  match a with
  | .ptr id off => match h.get .no id with
    | .dat p _ => match p.sub off n with
      | some (.cs l) => .agg l
      | _ => .bad
    | _ => .bad
  | _ => .bad

theorem VRs.of_PR {l : List AV} {xs : List Value} (h : PR σ (.cs l) xs) : VRs σ l xs ∧ allScal l = true := by
  obtain ⟨h1, h2⟩ := h
  simp only [Pay.len] at h1
  have key : ∀ j (hj : j < l.length), (Pay.cs l).rd j = l[j] := fun j hj => by rw [Pay.rd_cs, List.getElem?_eq_getElem hj]; rfl
  refine ⟨VRs.of_get h1 fun j hj hj' => ?_, (allScal_iff l).2 fun a ha => ?_⟩
  · have := (h2 j hj').2
    rw [key j hj] at this; exact this
  · obtain ⟨j, hj, rfl⟩ := List.getElem_of_mem ha
    have := (h2 j (by omega)).1
    rw [key j hj] at this; exact this

theorem opLdn_ok (r : Rel σ h w) {a : AV} {x : Value} {n : Nat} (ha : VR σ a x) (hb : opLdn h.t n a ≠ .bad) :
    ∃ ad xs, x = .pointer (some ad) ∧ (loadCells ad n).run P w = .ok xs w ∧ VR σ (opLdn h.t n a) (.agg xs) := by
  cases a <;> simp only [opLdn] at hb <;> try contradiction
  rename_i id off
  simp only [VR] at ha
  obtain ⟨e, he, rfl⟩ := ha
  cases ho : h.get id with
  | dat p z =>
    have ho' : h.t.get .no id = .dat p z := ho
    rw [ho'] at hb
    cases hs : p.sub off n with
    | none => simp only [hs] at hb; exact absurd rfl hb
    | some q =>
      cases q with
      | bs m M => simp only [hs] at hb; exact absurd rfl hb
      | cs l =>
        obtain ⟨xs, hpr, hxl, hcells⟩ := r.stretch he ho hs
        obtain ⟨hv, hsc⟩ := VRs.of_PR hpr
        refine ⟨_, xs.toArray, rfl, by rw [← hxl]; exact run_loadCells_list w _ xs hcells, ?_⟩
        simp only [opLdn, ho', hs]
        simp only [VR]
        exact ⟨hsc, xs, hv, rfl⟩
  | _ =>
    have ho' : h.t.get .no id = _ := ho
    rw [ho'] at hb
    exact absurd rfl hb

/-- What an operation that acts comes to. -/
inductive RH where
  | no
  | ok (v : AV) (h : Hp)

def stor : AV → Bool
  | .bad | .tup _ => false
  | _ => true

theorem stor_cells {a : AV} (h : stor a = true) : a.scal = true ∨ ∃ l, a = .agg l := by
  cases a <;> first | exact .inl rfl | exact .inr ⟨_, rfl⟩ | cases h

/-- A store. -/
noncomputable def opSt (h : Hp) (a v : AV) : RH :=
  match a with
  | .ptr id off => match h.get id with
    | .dat p z => bif stor v then match mkPay p v.cells with
        | some q => match p.put off q with
          | some p' => .ok (.tup []) (h.set id (.dat p' z))
          | none => .no
        | none => .no
      else .no
    | _ => .no
  | _ => .no

theorem opSt_ok (r : Rel σ h w) {a b : AV} {x y : Value} {u : AV} {h' : Hp} (ha : VR σ a x) (hb : VR σ b y) (ho : opSt h a b = .ok u h') :
    ∃ ad w', x = .pointer (some ad) ∧ (storeCells ad y.cells.toList).run P w = .ok () w' ∧ Rel σ h' w' ∧ Stp σ h w σ h' w' ∧ u = .tup [] ∧ y.cells.size = b.cells.length := by
  cases a <;> simp only [opSt] at ho <;> try contradiction
  rename_i id off
  simp only [VR] at ha
  obtain ⟨e, he, rfl⟩ := ha
  cases hg : h.get id with
  | dat p z =>
    simp only [hg] at ho
    cases hst : stor b with
    | false => rw [hst] at ho; simp at ho
    | true =>
      rw [hst] at ho
      simp only [cond_true] at ho
      obtain ⟨ys, hyc, hyv, hys⟩ := hb.cellsOf (stor_cells hst)
      cases hq : mkPay p b.cells with
      | none => simp only [hq] at ho; cases ho
      | some q =>
        simp only [hq] at ho
        cases hp : p.put off q with
        | none => simp only [hp] at ho; cases ho
        | some p' =>
          simp only [hp, RH.ok.injEq] at ho
          obtain ⟨rfl, rfl⟩ := ho
          obtain ⟨w', h1, h2, h3⟩ := r.put (P := P) he hg hp (PR.of_cells hq hyv hys)
          refine ⟨_, w', rfl, by rw [hyc]; simpa using h1, h2, h3, rfl, by rw [hyc, List.size_toArray, hyv.length]⟩
  | _ => simp only [hg] at ho; cases ho

/-- A new row of cells. -/
theorem Rel.newRow (r : Rel σ h w) {l : List AV} {xs : List Value} (t : TypeId) (hv : VRs σ l xs) (hs : allScal l = true) :
    ∃ w' e, (newRow t xs.toArray).run P w = .ok ⟨e.blk, 0, none⟩ w' ∧ e.sh = 0 ∧ Rel (σ.upd h.nx e) (h.new (.dat (.cs l) 0)) w' ∧ Stp σ h w (σ.upd h.nx e) (h.new (.dat (.cs l) 0)) w' := by
  refine ⟨w.alloc (.cells xs.toArray t), ⟨w.heap.size, 0, 0, 0⟩, by simp [Go.newRow], rfl, ?_, Stp.alloc r rfl rfl rfl rfl rfl⟩
  refine r.alloc (X := .cells xs.toArray t) rfl rfl ?_
  have hl := hv.length
  simp only [OR]
  refine ⟨xs.toArray, t, 0, 0, by show (w.heap.push _)[w.heap.size]? = _; simp, by omega, by simp [Pay.len, hl], fun j hj => ?_, by omega⟩
  simp only [Pay.len] at hj
  have hrd : (Pay.cs l).rd j = l[j] := by rw [Pay.rd_cs, List.getElem?_eq_getElem hj]; rfl
  rw [hrd]
  refine ⟨(allScal_iff l).1 hs _ (List.getElem_mem _), xs[j]'(by omega), by simp, ?_⟩
  exact VR.mono (Sg.le_upd _ r.nx_dead) _ _ (hv.get j hj (by omega))

end
end Go.Ev
