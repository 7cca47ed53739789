/- Slices: append, copy, clear. -/
import Derived.Test.YtkoiiafighfibaaGreatDoorEvE
import Derived.Laws.Append
import Derived.Laws.Strings
import Derived.Lib.Strings
set_option autoImplicit false
namespace Go.Ev

section
variable {P : Program} {σ : Sg} {h : Hp} {w : World}

/-- Bytes packed, the first lowest. -/
def pack : List Nat → Nat
  | [] => 0
  | b :: l => Nat.add b (Nat.mul 256 (pack l))

theorem byteAt_pack : ∀ (l : List Nat) (j : Nat), (∀ b ∈ l, b < 256) → byteAt (pack l) j = (l[j]?).getD 0
  | [], j, _ => by simp [byteAt_eq, pack]
  | b :: l, 0, hb => by
    have := hb b (by simp)
    rw [byteAt_eq]
    show (b + 256 * pack l) >>> 0 % 256 = _
    simp; omega
  | b :: l, j + 1, hb => by
    have h1 := hb b (by simp)
    have ih := byteAt_pack l j (fun x hx => hb x (by simp [hx]))
    rw [byteAt_eq] at ih ⊢
    have e : pack (b :: l) >>> (8 * (j + 1)) = pack l >>> (8 * j) := by
      rw [show 8 * (j + 1) = 8 + 8 * j by omega, Nat.shiftRight_add]
      congr 1
      rw [Nat.shiftRight_eq_div_pow]
      show (b + 256 * pack l) / 2 ^ 8 = _
      omega
    rw [e, ih]; simp

theorem strOf_size (l : List Nat) : (strOf l).size = l.length := by
  simp [strOf, ByteArray.size]

theorem byteVal (b : Nat) (hb : b < 256) : VR σ (.int .u8 b) (.int .u8 ((UInt8.ofNat b).toNat : Int)) := by
  simp only [VR, IntKind.bits]
  refine ⟨by simpa using hb, ?_⟩
  rw [back_eq]; simp [IntKind.hf]; omega

/-- A string's bytes as a payload. -/
theorem PR.str {l : List Nat} (hb : ∀ b ∈ l, b < 256) : PR σ (.bs l.length (pack l)) (l.map fun b => .int .u8 ((UInt8.ofNat b).toNat : Int)) := by
  refine ⟨by simp [Pay.len], fun j hj => ?_⟩
  have hj' : j < l.length := by simpa using hj
  rw [Pay.rd_bs, if_pos hj', byteAt_pack l j hb, List.getElem?_eq_getElem hj']
  refine ⟨rfl, ?_⟩
  simp only [Option.getD_some, List.getElem_map]
  exact byteVal _ (hb _ (List.getElem_mem _))

/-- How many elements an operand of append or copy has, and their cells. -/
noncomputable def opPay (h : Tr AObj) (size : Nat) (x : AV) : Option Pay :=
  match x with
  | .slc id off len _ => match h.get .no id with
    | .dat p _ => p.sub off (Nat.mul len size)
    | _ => none
  | .slo id z len el => match h.get .no id with
    | .dat p _ => p.sub (Nat.mul el z) (Nat.mul len size)
    | _ => none
  | .str l => bif Nat.beq size 1 then some (.bs l.length (pack l)) else none
  | _ => none

def opLen (x : AV) : Option Nat :=
  match x with
  | .nils | .sld .. => some 0
  | .slc _ _ len _ | .slo _ _ len _ => some len
  | .str l => some l.length
  | _ => none

/-- What an operand gives. -/
def Src (P : Program) (w : World) (size n : Nat) (x : Value) (xs : List Value) : Prop :=
  ∀ w' : World, w'.heap = w.heap → (Builtin.firstCells size n x).run P w' = .ok xs.toArray w'

theorem opLen_ok {x : AV} {y : Value} {n : Nat} (hx : VR σ x y) (hn : opLen x = some n) : (Builtin.lenOf y).run P w = .ok n w := by
  cases x <;> simp only [opLen, Option.some.injEq] at hn <;> try contradiction
  all_goals subst hn
  · simp only [VR] at hx; obtain ⟨_, rfl⟩ := hx; simp [Builtin.lenOf, strOf_size]
  · simp only [VR] at hx; subst hx; simp [Builtin.lenOf]
  · simp only [VR] at hx; obtain ⟨_, _, _, rfl⟩ := hx; simp [Builtin.lenOf]
  · simp only [VR] at hx; obtain ⟨_, _, _, _, _, rfl⟩ := hx; simp [Builtin.lenOf]
  · simp only [VR] at hx; rcases hx with ⟨_, _, _, _, _, rfl⟩ | ⟨_, rfl⟩ <;> simp [Builtin.lenOf]

theorem Rel.heap_eq (r : Rel σ h w) {w' : World} (hh : w'.heap = w.heap) : Rel σ h w' := r.same hh

theorem firstCells_some (size n : Nat) (b : Addr) (len cap : Nat) (cs : List Value) (hl : cs.length = n * size) (hc : ∀ j v, cs[j]? = some v → w.cell? (b.add j) = some v) :
    Src P w size n (.slice (some b) len cap) cs := by
  intro w' hh
  refine run_firstCells_some w' size n b len cap cs hl fun j v hv => ?_
  have := hc j v hv
  unfold World.cell? at this ⊢
  rw [hh]; exact this

theorem opPay_ok (r : Rel σ h w) {x : AV} {y : Value} {size n : Nat} {q : Pay} (hx : VR σ x y) (hn : opLen x = some n) (hq : opPay h.t size x = some q) :
    ∃ xs, PR σ q xs ∧ xs.length = n * size ∧ Src P w size n y xs := by
  cases x <;> simp only [opLen, Option.some.injEq] at hn <;> simp only [opPay] at hq <;> try contradiction
  · rename_i l
    rw [beq_cond] at hq
    have hz : size = 1 := by
      split at hq
      · assumption
      · cases hq
    subst hz; subst hn
    rw [if_pos rfl] at hq
    simp only [VR] at hx
    obtain ⟨hb, rfl⟩ := hx
    cases hq
    refine ⟨_, PR.str hb, by simp, fun w' _ => ?_⟩
    simp only [Builtin.firstCells]
    rw [← strOf_size l]
    have : (strOf l).extract 0 (strOf l).size = strOf l := by
      rw [Lib.extract_eq, strOf_size]
      simp only [strOf, List.drop_zero, Nat.sub_zero]
      rw [List.take_of_length_le (by simp)]
    rw [this]
    simp [strOf]
  · rename_i id off len cap
    subst hn
    simp only [VR] at hx
    obtain ⟨e, he, _, rfl⟩ := hx
    cases hg : h.get id with
    | dat p z =>
      have hg' : h.t.get .no id = .dat p z := hg
      simp only [hg'] at hq
      obtain ⟨xs, h1, h2, h3⟩ := r.stretch he hg hq
      exact ⟨xs, h1, h2, firstCells_some size len _ _ _ xs h2 h3⟩
    | _ => have hg' : h.t.get .no id = _ := hg
           simp only [hg'] at hq; cases hq
  · rename_i id off len cap
    subst hn
    simp only [VR] at hx
    obtain ⟨e, he, _, _, _, rfl⟩ := hx
    cases hg : h.get id with
    | dat p z =>
      have hg' : h.t.get .no id = .dat p z := hg
      simp only [hg'] at hq
      obtain ⟨xs, h1, h2, h3⟩ := r.stretch he hg hq
      exact ⟨xs, h1, h2, firstCells_some size len _ _ _ xs h2 h3⟩
    | _ => have hg' : h.t.get .no id = _ := hg
           simp only [hg'] at hq; cases hq


/-- append, in place. -/
theorem append_in (sT xT ty e : TypeId) (i : TypeInfo) (d : TypeDesc) (ht : P.underlying sT = some (.slice e)) (hi : P.info? e = some i)
    (hd : P.underlying xT = some d) (hdi : ∀ k, d ≠ .int k) {a : Addr} {sLen sCap n : Nat} {x : Value} {xs : List Value}
    (hl : (Builtin.lenOf x).run P w = .ok n w) (hs : Src P w i.size n x xs) (hle : sLen + n ≤ sCap) :
    (Builtin.append_ #[sT, xT] ty #[.slice (some a) sLen sCap, x]).run P w =
      ((storeCells (a.add (sLen * i.size)) xs).run P w).andThen fun _ w' => .ok (.slice (some a) (sLen + n) sCap) w' := by
  have hf := hs w rfl
  simp [Builtin.append_, run_underlying ht, run_underlying hd, sizeOf, typeInfo, hi, hl, hle, hf]

theorem append_nothing (sT xT ty e : TypeId) (i : TypeInfo) (d : TypeDesc) (ht : P.underlying sT = some (.slice e)) (hi : P.info? e = some i)
    (hd : P.underlying xT = some d) (hdi : ∀ k, d ≠ .int k) {sLen sCap : Nat} {x : Value}
    (hl : (Builtin.lenOf x).run P w = .ok 0 w) (hs : Src P w i.size 0 x []) (hle : sLen ≤ sCap) (base : Option Addr) :
    (Builtin.append_ #[sT, xT] ty #[.slice base sLen sCap, x]).run P w = .ok (.slice base sLen sCap) w := by
  have hf := hs w rfl
  cases base <;> simp [Builtin.append_, run_underlying ht, run_underlying hd, sizeOf, typeInfo, hi, hl, hle, hf, storeCells]

/-- append, moved. -/
theorem append_out (sT xT ty e : TypeId) (i : TypeInfo) (z : Value) (d : TypeDesc) (ht : P.underlying sT = some (.slice e)) (hi : P.info? e = some i) (hz : i.zero = some z)
    (hd : P.underlying xT = some d) (hdi : ∀ k, d ≠ .int k) {base : Option Addr} {sLen sCap n : Nat} {x : Value} {xs os : List Value}
    (hl : (Builtin.lenOf x).run P w = .ok n w) (hs : Src P w i.size n x xs) (ho : Src P w i.size sLen (.slice base sLen sCap) os)
    (hgt : sCap < sLen + n) (hlim : (sLen + n) * i.bytes ≤ 70368744177664) (hb : 0 < i.bytes) :
    (Builtin.append_ #[sT, xT] ty #[.slice base sLen sCap, x]).run P w =
      .ok (.slice (some ⟨w.heap.size, 0, none⟩) (sLen + n) (grownCap w (sLen + n) sCap e))
        (w.drew.alloc (.cells ((os ++ xs).toArray ++ Builtin.zeroCells z.cells (grownCap w (sLen + n) sCap e - (sLen + n))) e)) := by
  have hf := hs w.drew rfl
  have hfo := ho w.drew rfl
  have hn : ¬ (sLen + n ≤ sCap) := by omega
  have hsm : sLen + n ≤ 70368744177664 := Nat.le_trans (Nat.le_mul_of_pos_right _ hb) hlim
  have h63' : ¬ (9223372036854775807 < ((sLen : Int) + (n : Int))) := by omega
  have hg := growslice_fits (bytes := i.bytes) hgt (by omega)
  have h48' : ¬ (281474976710656 < Builtin.nextslicecap (sLen + n) sCap * i.bytes) := by omega
  simp [Builtin.append_, run_underlying ht, run_underlying hd, sizeOf, typeInfo, zeroValue, hi, hz, hl, hn, h63', h48', Question.forced, hf, hfo, newRow, grownCap]
  rw [← Array.append_assoc]; simp

theorem le_grownCap (w : World) (need old : Nat) (e : TypeId) : need ≤ grownCap w need old e := by
  simp only [grownCap, Question.cut]; omega

/-- A block that append made. -/
theorem OR.grown {e : Ent} {w' : World} {r : Pay} {size : Nat} {ws : List Value} {rest : Array Value} {t : TypeId} (hpr : PR σ r ws)
    (hb : w'.heap[e.blk]? = some (.cells (ws.toArray ++ rest) t)) (hsh : e.sh = 0) (ho : e.osz = size) (hcap : (ws.toArray ++ rest).size = e.cap * size)
    : OR σ e w' (.dat r size) := by
  simp only [OR]
  obtain ⟨h1, h2⟩ := hpr
  have hle : ws.length ≤ (ws.toArray ++ rest).size := by simp
  refine ⟨_, t, 0, 0, hb, by omega, by omega, fun j hj => ?_, fun _ => ⟨ho, by omega, by omega⟩⟩
  obtain ⟨s1, s2⟩ := h2 j (by omega)
  refine ⟨s1, ws[j]'(by omega), ?_, s2⟩
  rw [hsh, Nat.zero_add, Array.getElem?_append_left (by simp; omega)]
  simp

theorem PR.mono {τ : Sg} (hle : Sg.le σ τ) {p : Pay} {xs : List Value} (hp : PR σ p xs) : PR τ p xs :=
  ⟨hp.1, fun j hj => ⟨(hp.2 j hj).1, VR.mono hle _ _ (hp.2 j hj).2⟩⟩

theorem PR.cat {p q r : Pay} {xs ys : List Value} (h1 : PR σ p xs) (h2 : PR σ q ys) (hc : p.cat q = some r) : PR σ r (xs ++ ys) := by
  obtain ⟨c1, c2, c3⟩ := Pay.cat_spec hc
  refine ⟨by rw [c1, h1.1, h2.1, List.length_append], fun j hj => ?_⟩
  by_cases hlt : j < xs.length
  · rw [List.getElem_append_left hlt, c2 j (by rw [h1.1]; exact hlt)]
    exact h1.2 j hlt
  · simp only [List.length_append] at hj
    have e : j = p.len + (j - xs.length) := by rw [h1.1]; omega
    rw [List.getElem_append_right (by omega)]
    have := h2.2 (j - xs.length) (by omega)
    rw [← c3] at this
    rw [← e] at this
    exact this

/-- append, the elements read. -/
noncomputable def appWith (size bytes : Nat) (s : AV) (n : Nat) (q : Pay) (h : Hp) : RH :=
  match s with
  | .nils => bif Nat.ble (Nat.mul n bytes) 70368744177664 then .ok (.slo h.nx size n 0) (h.new (.dat q size)) else .no
  | .slc id off len cap => match h.get id with
    | .dat p z =>
      bif Nat.ble (Nat.add len n) cap then
        match p.put (Nat.add off (Nat.mul len size)) q with
        | some p' => .ok (.slc id off (Nat.add len n) cap) (h.set id (.dat p' z))
        | none => .no
      else bif Nat.ble (Nat.mul (Nat.add len n) bytes) 70368744177664 then
        match p.sub off (Nat.mul len size) with
        | some p0 => match p0.cat q with
          | some r => .ok (.slo h.nx size (Nat.add len n) 0) (h.new (.dat r size))
          | none => .no
        | none => .no
      else .no
    | _ => .no
  | .slo id z len el => match h.get id with
    | .dat p z' =>
      bif Nat.beq z' size && Nat.beq z size then
        bif Nat.ble (Nat.add (Nat.mul el z) (Nat.mul (Nat.add len n) size)) p.len then
          match p.put (Nat.add (Nat.mul el z) (Nat.mul len size)) q with
          | some p' => .ok (.slo id z (Nat.add len n) el) (h.set id (.dat p' z'))
          | none => .no
        else bif Nat.ble (Nat.mul (Nat.add len n) bytes) 70368744177664 then
          match p.sub (Nat.mul el z) (Nat.mul len size) with
          | some p0 => match p0.cat q with
            | some r => .ok (.slo h.nx size (Nat.add len n) 0) ((h.set id .no).new (.dat r size))
            | none => .no
          | none => .no
        else .no
      else .no
    | _ => .no
  | _ => .no

/-- append of what another slice, or a string, holds. -/
noncomputable def opApp (size bytes : Nat) (s x : AV) (h : Hp) : RH :=
  match opLen x with
  | some n => bif Nat.beq n 0 then (match s with | .nils | .slc .. | .slo .. | .sld .. => .ok s h | _ => .no)
    else match opPay h.t size x with
      | some q => appWith size bytes s n q h
      | none => .no
  | none => .no


theorem zeroCells_size (z : Array Value) (n : Nat) : (Builtin.zeroCells z n).size = n * z.size := by simp [Builtin.zeroCells]

/-- What is asked of the types at an append. -/
structure AppT (P : Program) (sT xT e : TypeId) (i : TypeInfo) (z : Value) (d : TypeDesc) : Prop where
  ht : P.underlying sT = some (.slice e)
  hi : P.info? e = some i
  hz : i.zero = some z
  hzs : z.cells.size = i.size
  hsz : 0 < i.size
  hb : 0 < i.bytes
  hd : P.underlying xT = some d
  hdi : ∀ k, d ≠ .int k

theorem appWith_ok (r : Rel σ h w) {sT xT ty e : TypeId} {i : TypeInfo} {z : Value} {d : TypeDesc} (T : AppT P sT xT e i z d)
    {s : AV} {sv x : Value} {n : Nat} {q : Pay} {xs : List Value} {v : AV} {h' : Hp}
    (hsv : VR σ s sv) (hl : (Builtin.lenOf x).run P w = .ok n w) (hs : Src P w i.size n x xs) (hq : PR σ q xs) (hxl : xs.length = n * i.size) (hn : 0 < n)
    (ho : appWith i.size i.bytes s n q h = .ok v h') :
    ∃ vv w' σ', (Builtin.append_ #[sT, xT] ty #[sv, x]).run P w = .ok vv w' ∧ Rel σ' h' w' ∧ Stp σ h w σ' h' w' ∧ VR σ' v vv := by
  have hcap : ∀ (need old : Nat) (os : List Value), os.length = need * i.size →
      (os.toArray ++ Builtin.zeroCells z.cells (grownCap w need old e - need)).size = grownCap w need old e * i.size := by
    intro need old os hos
    have := le_grownCap w need old e
    rw [Array.size_append, zeroCells_size, T.hzs, List.size_toArray, hos, ← Nat.add_mul]
    congr 1; omega
  have gh : ∀ (X : Obj), (w.drew.alloc X).heap = w.heap.push X := fun _ => rfl
  have gnew : ∀ (X : Obj), (w.drew.alloc X).heap[w.heap.size]? = some X := fun X => by rw [gh]; simp
  cases s <;> simp only [appWith] at ho <;> try contradiction
  · -- nil
    simp only [VR] at hsv
    subst hsv
    rw [ble_cond] at ho
    split at ho
    · rename_i hlim
      have hlim' : (0 + n) * i.bytes ≤ 70368744177664 := by rw [Nat.zero_add]; exact hlim
      simp only [RH.ok.injEq] at ho
      obtain ⟨rfl, rfl⟩ := ho
      have hrun := append_out (P := P) (w := w) sT xT ty e i z d T.ht T.hi T.hz T.hd T.hdi (base := none) (sLen := 0) (sCap := 0) (os := []) hl hs
        (fun w' _ => by simp [Builtin.firstCells]) (by omega) hlim' T.hb
      refine ⟨_, _, σ.upd h.nx ⟨w.heap.size, 0, grownCap w (0 + n) 0 e, i.size⟩, hrun, ?_, Stp.alloc r (gh _) rfl rfl rfl rfl, ?_⟩
      · refine r.alloc (gh _) rfl (OR.grown (PR.mono (Sg.le_upd _ r.nx_dead) hq) (by rw [List.nil_append]; exact gnew _) rfl rfl ?_)
        have := hcap (0 + n) 0 ([] ++ xs) (by simpa using hxl)
        simpa using this
      · simp only [VR]
        refine ⟨_, Sg.upd_same _ _ _, by simp, T.hsz, ?_, by simp⟩
        have := le_grownCap w (0 + n) 0 e
        omega
    · cases ho
  · -- a capacity that is known
    rename_i id off len cap
    simp only [VR] at hsv
    obtain ⟨en, he, hlc, rfl⟩ := hsv
    cases hg : h.get id with
    | dat p z0 =>
      simp only [hg] at ho
      rw [ble_cond] at ho
      split at ho
      · rename_i hfit
        have hfit' : len + n ≤ cap := hfit
        cases hp : p.put (Nat.add off (Nat.mul len i.size)) q with
        | none => simp only [hp] at ho; cases ho
        | some p' =>
          simp only [hp, RH.ok.injEq] at ho
          obtain ⟨rfl, rfl⟩ := ho
          obtain ⟨w', h1, h2, h3⟩ := r.put (P := P) he hg hp hq
          refine ⟨.slice (some ⟨en.blk, en.sh + off, none⟩) (len + n) cap, w', σ, ?_, h2, h3, ?_⟩
          · rw [append_in sT xT ty e i d T.ht T.hi T.hd T.hdi hl hs hfit', add_eq]
            have : en.sh + off + len * i.size = en.sh + Nat.add off (Nat.mul len i.size) := by
              show _ = en.sh + (off + len * i.size); omega
            rw [this, h1]; rfl
          · simp only [VR]; exact ⟨en, he, hfit', rfl⟩
      · rename_i hfit
        have hgt : cap < len + n := Nat.lt_of_not_le hfit
        rw [ble_cond] at ho
        split at ho
        · rename_i hlim
          cases hsub : p.sub off (Nat.mul len i.size) with
          | none => simp only [hsub] at ho; cases ho
          | some p0 =>
            simp only [hsub] at ho
            cases hcat : p0.cat q with
            | none => simp only [hcat] at ho; cases ho
            | some r0 =>
              simp only [hcat, RH.ok.injEq] at ho
              obtain ⟨rfl, rfl⟩ := ho
              obtain ⟨os, o1, o2, o3⟩ := r.stretch he hg hsub
              have hrun := append_out (P := P) (w := w) sT xT ty e i z d T.ht T.hi T.hz T.hd T.hdi (base := some ⟨en.blk, en.sh + off, none⟩) (sLen := len) (sCap := cap) (os := os) hl hs
                (firstCells_some i.size len _ _ _ os o2 o3) hgt hlim T.hb
              have hpr := PR.cat o1 hq hcat
              refine ⟨_, _, σ.upd h.nx ⟨w.heap.size, 0, grownCap w (len + n) cap e, i.size⟩, hrun, ?_, Stp.alloc r (gh _) rfl rfl rfl rfl, ?_⟩
              · refine r.alloc (gh _) rfl (OR.grown (PR.mono (Sg.le_upd _ r.nx_dead) hpr) (gnew _) rfl rfl ?_)
                refine hcap _ _ _ ?_
                have o2' : os.length = len * i.size := o2
                rw [List.length_append, o2', hxl, Nat.add_mul]
              · simp only [VR]
                refine ⟨_, Sg.upd_same _ _ _, by simp, T.hsz, ?_, by simp⟩
                have := le_grownCap w (len + n) cap e
                show 0 + (len + n) ≤ grownCap w (len + n) cap e
                omega
        · cases ho
    | _ => simp only [hg] at ho; cases ho
  · -- a capacity that is not known
    rename_i id z1 len el
    simp only [VR] at hsv
    obtain ⟨en, he, hosz, hz1, hle, rfl⟩ := hsv
    cases hg : h.get id with
    | dat p z0 =>
      simp only [hg] at ho
      cases hzz : (Nat.beq z0 i.size && Nat.beq z1 i.size) with
      | false => rw [hzz] at ho; simp at ho
      | true =>
        rw [hzz] at ho
        simp only [cond_true] at ho
        simp only [Bool.and_eq_true] at hzz
        have hz0 := Nat.eq_of_beq_eq_true hzz.1
        have hz2 := Nat.eq_of_beq_eq_true hzz.2
        subst hz0
        subst hz2
        have hoff : ∃ off, off = el * i.size := ⟨_, rfl⟩
        obtain ⟨off, hoff⟩ := hoff
        have hoff' : Nat.mul el i.size = off := hoff.symm
        rw [hoff'] at ho
        rw [← hoff]
        have hlive : live (h.get id) := by rw [hg]; trivial
        have hobj := r.obj id en he
        rw [hg] at hobj
        simp only [OR] at hobj
        obtain ⟨c, t, lo, hi, g1, g2, g3, g4, g5⟩ := hobj
        obtain ⟨k1, k2, k3⟩ := g5 T.hsz
        rw [ble_cond] at ho
        split at ho
        · rename_i hfit
          have hfit' : off + (len + n) * i.size ≤ p.len := hfit
          have hroom : el + (len + n) ≤ en.cap := by
            have h1 : el * i.size + (len + n) * i.size ≤ en.cap * i.size := by
              rw [← hoff]; omega
            rw [← Nat.add_mul] at h1
            exact Nat.le_of_mul_le_mul_right h1 T.hsz
          cases hp : p.put (Nat.add off (Nat.mul len i.size)) q with
          | none => simp only [hp] at ho; cases ho
          | some p' =>
            simp only [hp, RH.ok.injEq] at ho
            obtain ⟨rfl, rfl⟩ := ho
            obtain ⟨w', h1, h2, h3⟩ := r.put (P := P) he hg hp hq
            refine ⟨.slice (some ⟨en.blk, en.sh + off, none⟩) (len + n) (en.cap - el), w', σ, ?_, h2, h3, ?_⟩
            · rw [append_in sT xT ty e i d T.ht T.hi T.hd T.hdi hl hs (by omega), add_eq]
              have : en.sh + off + len * i.size = en.sh + Nat.add off (Nat.mul len i.size) := by
                show _ = en.sh + (off + len * i.size); omega
              rw [this, h1]; rfl
            · simp only [VR]; exact ⟨en, he, hosz, hz1, hroom, by rw [← hoff]; rfl⟩
        · rw [ble_cond] at ho
          split at ho
          · rename_i hlim
            cases hsub : p.sub off (Nat.mul len i.size) with
            | none => simp only [hsub] at ho; cases ho
            | some p0 =>
              simp only [hsub] at ho
              cases hcat : p0.cat q with
              | none => simp only [hcat] at ho; cases ho
              | some r0 =>
                simp only [hcat, RH.ok.injEq] at ho
                obtain ⟨rfl, rfl⟩ := ho
                obtain ⟨os, o1, o2, o3⟩ := r.stretch he hg hsub
                have hpr := PR.cat o1 hq hcat
                have o2' : os.length = len * i.size := o2
                by_cases hroom : len + n ≤ en.cap - el
                · -- in place
                  have hroomc : en.sh + off + (len + n) * i.size ≤ c.size := by
                    have h1 : (el + (len + n)) * i.size ≤ en.cap * i.size := Nat.mul_le_mul_right _ (by omega)
                    rw [Nat.add_mul] at h1
                    omega
                  obtain ⟨w', c', s1, s2, s3, s4, s5, s6, s7, s8, s9⟩ := run_storeCells_gen (P := P) xs en.blk (en.sh + off + len * i.size) 0 c t lo hi w g1 g2 hq.oneCell
                    (by rw [hxl]; rw [Nat.add_mul] at hroomc; omega)
                  refine ⟨.slice (some ⟨en.blk, en.sh + off, none⟩) (len + n) (en.cap - el), w', σ.upd h.nx ⟨en.blk, en.sh + off, en.cap - el, i.size⟩, ?_, ?_,
                    Stp.rename r he hlive s5 s6 rfl s7 s8 s9, ?_⟩
                  · rw [append_in sT xT ty e i d T.ht T.hi T.hd T.hdi hl hs hroom, add_eq, s1]; rfl
                  · refine r.rename he hlive s5 rfl ?_
                    have hpr' := PR.mono (Sg.le_upd ⟨en.blk, en.sh + off, en.cap - el, i.size⟩ r.nx_dead) hpr
                    simp only [OR]
                    have hlen : r0.len = (len + n) * i.size := by rw [hpr.1, List.length_append, o2', hxl, Nat.add_mul]
                    refine ⟨c', t, lo, hi, s2, by rw [s3]; exact g2, by rw [s3, hlen]; exact hroomc, fun j hj => ?_, fun _ => ⟨trivial, ?_, ?_⟩⟩
                    · have hj' : j < (os ++ xs).length := by rw [← hpr.1]; exact hj
                      obtain ⟨t1, t2⟩ := hpr'.2 j hj'
                      refine ⟨t1, (os ++ xs)[j], ?_, t2⟩
                      rw [s4]
                      by_cases hin : j < os.length
                      · rw [if_neg (by omega)]
                        have hc := o3 j os[j] (List.getElem?_eq_getElem hin)
                        rw [add_eq, cell_of_heap g1] at hc
                        rw [hc, List.getElem_append_left hin]
                      · simp only [List.length_append] at hj'
                        rw [if_pos (by omega)]
                        have e1 : en.sh + off + j - (en.sh + off + len * i.size + 0) = j - os.length := by omega
                        rw [e1, List.getElem?_eq_getElem (by omega), List.getElem_append_right (by omega)]
                    · have h1 : (el + (en.cap - el)) * i.size = en.cap * i.size := by congr 1; omega
                      rw [Nat.add_mul] at h1
                      rw [s3]; show en.sh + off + (en.cap - el) * i.size ≤ c.size
                      omega
                    · rw [hlen]; exact Nat.mul_le_mul_right _ hroom
                  · simp only [VR]
                    refine ⟨_, Sg.upd_same _ _ _, by simp, T.hsz, ?_, by simp⟩
                    show 0 + (len + n) ≤ en.cap - el
                    omega
                · -- moved
                  have hrun := append_out (P := P) (w := w) sT xT ty e i z d T.ht T.hi T.hz T.hd T.hdi (base := some ⟨en.blk, en.sh + off, none⟩) (sLen := len) (sCap := en.cap - el) (os := os) hl hs
                    (firstCells_some i.size len _ _ _ os o2 o3) (by omega) hlim T.hb
                  refine ⟨_, _, σ.upd h.nx ⟨w.heap.size, 0, grownCap w (len + n) (en.cap - el) e, i.size⟩, hrun, ?_, Stp.moved r he hlive (gh _) rfl rfl rfl rfl, ?_⟩
                  · refine r.moved he hlive (gh _) rfl (OR.grown (PR.mono (Sg.le_upd _ r.nx_dead) hpr) (gnew _) rfl rfl ?_)
                    refine hcap _ _ _ ?_
                    rw [List.length_append, o2', hxl, Nat.add_mul]
                  · simp only [VR]
                    refine ⟨_, Sg.upd_same _ _ _, by simp, T.hsz, ?_, by simp⟩
                    have := le_grownCap w (len + n) (en.cap - el) e
                    show 0 + (len + n) ≤ grownCap w (len + n) (en.cap - el) e
                    omega
          · cases ho
    | _ => simp only [hg] at ho; cases ho

end
end Go.Ev
