/- How the relation is kept: a new block, a block written, a block that append may have moved. -/
import Derived.Test.YtkoiiafighfibaaGreatDoorEvB
set_option autoImplicit false
namespace Go.Ev

def Sg.upd (σ : Sg) (id : Ps) (e : Ent) : Sg := fun k => if k = id then some e else σ k

theorem Sg.upd_same (σ : Sg) (id : Ps) (e : Ent) : σ.upd id e id = some e := by simp [Sg.upd]
theorem Sg.upd_ne (σ : Sg) {id k : Ps} (e : Ent) (h : k ≠ id) : σ.upd id e k = σ k := by simp [Sg.upd, h]
theorem Sg.le_upd {σ : Sg} {id : Ps} (e : Ent) (h : σ id = none) : Sg.le σ (σ.upd id e) := fun k x hk => by
  by_cases hq : k = id
  · subst hq; rw [h] at hk; cases hk
  · rw [Sg.upd_ne σ e hq]; exact hk

theorem Rel.lt {σ : Sg} {h : Hp} {w : World} (r : Rel σ h w) {id : Ps} {e : Ent} (he : σ id = some e) (hl : live (h.get id)) : e.blk < w.heap.size :=
  OR.lt (r.obj id e he) hl

theorem Rel.nx_dead {σ : Sg} {h : Hp} {w : World} (r : Rel σ h w) : σ h.nx = none := r.fresh _ (Nat.le_refl _)

theorem Rel.ne_nx {σ : Sg} {h : Hp} {w : World} (r : Rel σ h w) {id : Ps} {e : Ent} (he : σ id = some e) : id ≠ h.nx := fun hq => by
  rw [hq, r.nx_dead] at he; cases he

/-- The heap as it was. -/
theorem Rel.same {σ : Sg} {h : Hp} {w w' : World} (r : Rel σ h w) (hh : w'.heap = w.heap) : Rel σ h w' where
  dom := r.dom
  obj := fun id e he => OR.mono (Sg.le_refl σ) (by rw [hh]) (r.obj id e he)
  inj := r.inj
  fresh := r.fresh
theorem Stp.same (σ : Sg) (h : Hp) {w w' : World} (hh : w'.heap = w.heap) (ho : w'.os = w.os) (ht : w'.tape = w.tape) (hp : w'.output = w.output) : Stp σ h w σ h w' :=
  ⟨Sg.le_refl σ, ho, ht, hp, by rw [hh]; exact Nat.le_refl _, fun b _ _ => by rw [hh], fun id e he hl _ => ⟨id, e, he, hl, rfl⟩⟩

/-- A new block. -/
theorem Rel.alloc {σ : Sg} {h : Hp} {w w' : World} {X : Obj} {o : AObj} {e : Ent} (r : Rel σ h w) (hw : w'.heap = w.heap.push X) (hb : e.blk = w.heap.size)
    (ho : OR (σ.upd h.nx e) e w' o) : Rel (σ.upd h.nx e) (h.new o) w' where
  dom := fun id hl => by
    rw [Hp.get_new] at hl
    by_cases hq : id = h.nx
    · exact ⟨e, hq ▸ Sg.upd_same _ _ _⟩
    · rw [if_neg hq] at hl
      obtain ⟨e', he'⟩ := r.dom id hl
      exact ⟨e', by rw [Sg.upd_ne σ e hq]; exact he'⟩
  obj := fun id e' he' => by
    rw [Hp.get_new]
    by_cases hq : id = h.nx
    · rw [if_pos hq]
      subst hq
      rw [Sg.upd_same] at he'
      cases he'
      exact ho
    · rw [if_neg hq]
      rw [Sg.upd_ne σ e hq] at he'
      have ho' := r.obj id e' he'
      cases hl : h.get id with
      | no => trivial
      | _ =>
        have hlt : e'.blk < w.heap.size := r.lt he' (by rw [hl]; trivial)
        have hsame : w'.heap[e'.blk]? = w.heap[e'.blk]? := by
          rw [hw, Array.getElem?_push, if_neg (by omega)]
        rw [← hl]
        exact OR.mono (Sg.le_upd e r.nx_dead) hsame ho'
  inj := fun id id' e1 e2 h1 h2 l1 l2 hbb => by
    rw [Hp.get_new] at l1 l2
    by_cases q1 : id = h.nx
    · by_cases q2 : id' = h.nx
      · rw [q1, q2]
      · rw [if_neg q2] at l2
        rw [Sg.upd_ne σ e q2] at h2
        rw [q1, Sg.upd_same] at h1
        cases h1
        have := r.lt h2 l2
        omega
    · rw [if_neg q1] at l1
      rw [Sg.upd_ne σ e q1] at h1
      by_cases q2 : id' = h.nx
      · rw [q2, Sg.upd_same] at h2
        cases h2
        have := r.lt h1 l1
        omega
      · rw [if_neg q2] at l2
        rw [Sg.upd_ne σ e q2] at h2
        exact r.inj id id' e1 e2 h1 h2 l1 l2 hbb
  fresh := fun id hid => by
    have hn : (h.new o).nx = h.nx.succ := rfl
    rw [hn, Ps.num_succ] at hid
    have hq : id ≠ h.nx := fun hq => by rw [hq] at hid; omega
    rw [Sg.upd_ne σ e hq]
    exact r.fresh id (by omega)

theorem Stp.alloc {σ : Sg} {h : Hp} {w w' : World} {X : Obj} {o : AObj} {e : Ent} (r : Rel σ h w) (hw : w'.heap = w.heap.push X) (hb : e.blk = w.heap.size)
    (hos : w'.os = w.os) (ht : w'.tape = w.tape) (hp : w'.output = w.output) : Stp σ h w (σ.upd h.nx e) (h.new o) w' where
  le := Sg.le_upd e r.nx_dead
  os := hos
  tape := ht
  output := hp
  size := by rw [hw, Array.size_push]; omega
  block := fun b hlt _ => by rw [hw, Array.getElem?_push, if_neg (by omega)]
  track := fun id e' he' hl hlt => by
    rw [Hp.get_new] at hl
    by_cases hq : id = h.nx
    · rw [hq, Sg.upd_same] at he'
      cases he'
      omega
    · rw [if_neg hq] at hl
      rw [Sg.upd_ne σ e hq] at he'
      exact ⟨id, e', he', hl, rfl⟩

/-- A known block is written. -/
theorem Rel.write {σ : Sg} {h : Hp} {w w' : World} {id : Ps} {e : Ent} {o : AObj} (r : Rel σ h w) (he : σ id = some e) (hl : live (h.get id))
    (hw : ∀ b, b ≠ e.blk → w'.heap[b]? = w.heap[b]?) (ho : OR σ e w' o) : Rel σ (h.set id o) w' where
  dom := fun k hk => by
    rw [Hp.get_set] at hk
    by_cases hq : k = id
    · exact ⟨e, hq ▸ he⟩
    · rw [if_neg hq] at hk; exact r.dom k hk
  obj := fun k e' he' => by
    rw [Hp.get_set]
    by_cases hq : k = id
    · rw [if_pos hq]
      subst hq
      rw [he] at he'
      cases he'
      exact ho
    · rw [if_neg hq]
      have ho' := r.obj k e' he'
      cases hk : h.get k with
      | no => trivial
      | _ =>
        have hne : e'.blk ≠ e.blk := fun hbb => hq (r.inj k id e' e he' he (by rw [hk]; trivial) hl hbb)
        rw [← hk]
        exact OR.mono (Sg.le_refl σ) (hw _ hne) ho'
  inj := fun k k' e1 e2 h1 h2 l1 l2 hbb => by
    rw [Hp.get_set] at l1 l2
    refine r.inj k k' e1 e2 h1 h2 ?_ ?_ hbb
    · by_cases hq : k = id
      · rw [hq]; exact hl
      · rw [if_neg hq] at l1; exact l1
    · by_cases hq : k' = id
      · rw [hq]; exact hl
      · rw [if_neg hq] at l2; exact l2
  fresh := r.fresh

theorem Stp.write {σ : Sg} {h : Hp} {w w' : World} {id : Ps} {e : Ent} {o : AObj} (he : σ id = some e) (hl : live (h.get id))
    (hw : ∀ b, b ≠ e.blk → w'.heap[b]? = w.heap[b]?) (hz : w'.heap.size = w.heap.size)
    (hos : w'.os = w.os) (ht : w'.tape = w.tape) (hp : w'.output = w.output) : Stp σ h w σ (h.set id o) w' where
  le := Sg.le_refl σ
  os := hos
  tape := ht
  output := hp
  size := by omega
  block := fun b _ hn => hw b fun hq => hn id e he hl hq.symm
  track := fun k e' he' hk _ => by
    rw [Hp.get_set] at hk
    by_cases hq : k = id
    · exact ⟨id, e, he, hl, by rw [hq, he] at he'; cases he'; rfl⟩
    · rw [if_neg hq] at hk; exact ⟨k, e', he', hk, rfl⟩

/-- What is known of a block is forgotten; the world may have turned there. -/
theorem Rel.forget {σ : Sg} {h : Hp} {w w' : World} {id : Ps} {e : Ent} (r : Rel σ h w) (he : σ id = some e) (hl : live (h.get id))
    (hw : ∀ b, b ≠ e.blk → w'.heap[b]? = w.heap[b]?) : Rel σ (h.set id .no) w' := r.write he hl hw trivial

/-- A block that append wrote in place, under a new name: the elder name is forgotten. -/
theorem Rel.rename {σ : Sg} {h : Hp} {w w' : World} {id : Ps} {e e' : Ent} {o : AObj} (r : Rel σ h w) (he : σ id = some e) (hl : live (h.get id))
    (hw : ∀ b, b ≠ e.blk → w'.heap[b]? = w.heap[b]?) (hb : e'.blk = e.blk) (ho : OR (σ.upd h.nx e') e' w' o) :
    Rel (σ.upd h.nx e') ((h.set id .no).new o) w' := by
  have r1 : Rel σ (h.set id .no) w' := r.forget he hl hw
  have hnx : (h.set id .no).nx = h.nx := rfl
  have hdead : ∀ k e1, σ k = some e1 → live ((h.set id .no).get k) → e1.blk ≠ e.blk := by
    intro k e1 hk hlk hbb
    rw [Hp.get_set] at hlk
    by_cases hq : k = id
    · rw [if_pos hq] at hlk; exact hlk
    · rw [if_neg hq] at hlk
      exact hq (r.inj k id e1 e hk he hlk hl hbb)
  exact {
    dom := fun k hk => by
      rw [Hp.get_new] at hk
      by_cases hq : k = (h.set id .no).nx
      · exact ⟨e', by rw [hq, hnx]; exact Sg.upd_same _ _ _⟩
      · rw [if_neg hq] at hk
        obtain ⟨e1, h1⟩ := r1.dom k hk
        exact ⟨e1, by rw [Sg.upd_ne σ e' (hnx ▸ hq)]; exact h1⟩
    obj := fun k e1 h1 => by
      rw [Hp.get_new]
      by_cases hq : k = (h.set id .no).nx
      · rw [if_pos hq]
        rw [hq, hnx, Sg.upd_same] at h1
        cases h1
        exact ho
      · rw [if_neg hq]
        rw [Sg.upd_ne σ e' (hnx ▸ hq)] at h1
        exact OR.mono (Sg.le_upd e' r.nx_dead) rfl (r1.obj k e1 h1)
    inj := fun k k' e1 e2 h1 h2 l1 l2 hbb => by
      rw [Hp.get_new] at l1 l2
      by_cases q1 : k = (h.set id .no).nx
      · by_cases q2 : k' = (h.set id .no).nx
        · rw [q1, q2]
        · rw [if_neg q2] at l2
          rw [Sg.upd_ne σ e' (hnx ▸ q2)] at h2
          rw [q1, hnx, Sg.upd_same] at h1
          cases h1
          exact absurd (hbb.symm.trans hb) (hdead k' e2 h2 l2)
      · rw [if_neg q1] at l1
        rw [Sg.upd_ne σ e' (hnx ▸ q1)] at h1
        by_cases q2 : k' = (h.set id .no).nx
        · rw [q2, hnx, Sg.upd_same] at h2
          cases h2
          exact absurd (hbb.trans hb) (hdead k e1 h1 l1)
        · rw [if_neg q2] at l2
          rw [Sg.upd_ne σ e' (hnx ▸ q2)] at h2
          exact r1.inj k k' e1 e2 h1 h2 l1 l2 hbb
    fresh := fun k hk => by
      have hn : ((h.set id .no).new o).nx = h.nx.succ := rfl
      rw [hn, Ps.num_succ] at hk
      have hq : k ≠ h.nx := fun hq => by rw [hq] at hk; omega
      rw [Sg.upd_ne σ e' hq]
      exact r.fresh k (by omega) }

theorem Stp.rename {σ : Sg} {h : Hp} {w w' : World} {id : Ps} {e e' : Ent} {o : AObj} (r : Rel σ h w) (he : σ id = some e) (hl : live (h.get id))
    (hw : ∀ b, b ≠ e.blk → w'.heap[b]? = w.heap[b]?) (hz : w'.heap.size = w.heap.size) (hb : e'.blk = e.blk)
    (hos : w'.os = w.os) (ht : w'.tape = w.tape) (hp : w'.output = w.output) : Stp σ h w (σ.upd h.nx e') ((h.set id .no).new o) w' where
  le := Sg.le_upd e' r.nx_dead
  os := hos
  tape := ht
  output := hp
  size := by omega
  block := fun b _ hn => hw b fun hq => hn id e he hl hq.symm
  track := fun k e1 h1 hk _ => by
    have hnx : (h.set id .no).nx = h.nx := rfl
    rw [Hp.get_new] at hk
    by_cases hq : k = (h.set id .no).nx
    · rw [hq, hnx, Sg.upd_same] at h1
      cases h1
      exact ⟨id, e, he, hl, hb.symm⟩
    · rw [if_neg hq] at hk
      rw [Sg.upd_ne σ e' (hnx ▸ hq)] at h1
      rw [Hp.get_set] at hk
      by_cases hq2 : k = id
      · rw [if_pos hq2] at hk; exact hk.elim
      · rw [if_neg hq2] at hk; exact ⟨k, e1, h1, hk, rfl⟩

/-- A block that append moved, the elder one being forgotten. -/
theorem Rel.moved {σ : Sg} {h : Hp} {w w' : World} {X : Obj} {id : Ps} {e e' : Ent} {o : AObj} (r : Rel σ h w) (he : σ id = some e) (hl : live (h.get id))
    (hw : w'.heap = w.heap.push X) (hb : e'.blk = w.heap.size) (ho : OR (σ.upd h.nx e') e' w' o) :
    Rel (σ.upd h.nx e') ((h.set id .no).new o) w' :=
  Rel.alloc (h := h.set id .no) (r.forget (w' := w) he hl fun _ _ => rfl) hw hb ho

theorem Stp.moved {σ : Sg} {h : Hp} {w w' : World} {X : Obj} {id : Ps} {e e' : Ent} {o : AObj} (r : Rel σ h w) (he : σ id = some e) (hl : live (h.get id))
    (hw : w'.heap = w.heap.push X) (hb : e'.blk = w.heap.size) (hos : w'.os = w.os) (ht : w'.tape = w.tape) (hp : w'.output = w.output) :
    Stp σ h w (σ.upd h.nx e') ((h.set id .no).new o) w' :=
  (Stp.write (o := .no) (w' := w) he hl (fun _ _ => rfl) rfl rfl rfl rfl).trans
    (Stp.alloc (h := h.set id .no) (r.forget (w' := w) he hl fun _ _ => rfl) hw hb hos ht hp)

end Go.Ev
