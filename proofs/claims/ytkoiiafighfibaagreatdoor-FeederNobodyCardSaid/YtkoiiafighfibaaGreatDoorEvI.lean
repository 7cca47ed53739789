/- Constants, new blocks, literals, fields, and what else only looks. -/
import Derived.Test.YtkoiiafighfibaaGreatDoorEvH
import Derived.Laws.Tables
set_option autoImplicit false
namespace Go.Ev

section
variable {P : Program} {σ : Sg} {h : Hp} {w : World}

/-- A constant as an abstract value. -/
def toA1 : Value → AV
  | .bool b => .bool b
  | .int k n => if IntKind.back k (n % IntKind.md k).toNat = n then .int k (n % IntKind.md k).toNat else .bad
  | .string s => .str (s.data.toList.map UInt8.toNat)
  | .pointer none => .nilp
  | .slice none n c => if n = 0 ∧ c = 0 then .nils else .bad
  | .map none => .nilm
  | .nilFunc => .nilf
  | .nilIface => .nili
  | _ => .bad
def toA : Value → AV
  | .agg cs => if allScal (cs.toList.map toA1) = true then .agg (cs.toList.map toA1) else .bad
  | .tuple cs => if cs.size = 0 then .tup [] else .bad
  | v => toA1 v

theorem strOf_map (s : ByteArray) : strOf (s.data.toList.map UInt8.toNat) = s := by
  apply ByteArray.ext
  have : UInt8.ofNat ∘ UInt8.toNat = id := by funext x; simp
  simp [strOf, this]

theorem toA1_ok {v : Value} (hb : toA1 v ≠ .bad) : VR σ (toA1 v) v := by
  cases v <;> simp only [toA1] at hb ⊢ <;> (try contradiction)
  · simp only [VR]
  · rename_i k n
    split at hb
    · rename_i he
      rw [if_pos he]
      simp only [VR, md_eq]
      have := md_pos k
      refine ⟨?_, by rw [he]⟩
      have h1 := Int.emod_lt_of_pos n (show (0 : Int) < IntKind.md k by omega)
      have h2 := Int.emod_nonneg n (show (IntKind.md k : Int) ≠ 0 by omega)
      omega
    · exact absurd rfl hb
  · simp only [VR, strOf_map]
    refine ⟨fun b hb => ?_, trivial⟩
    obtain ⟨x, _, rfl⟩ := List.mem_map.1 hb
    exact x.toNat_lt
  · rename_i a
    cases a
    · simp only [VR]
    · simp at hb
  · rename_i a n c
    cases a
    · simp only at hb ⊢
      split at hb
      · rename_i he
        rw [if_pos he]
        simp only [VR, he.1, he.2]
      · exact absurd rfl hb
    · simp at hb
  · rename_i a
    cases a
    · simp only [VR]
    · simp at hb
  · simp only [VR]
  · simp only [VR]

theorem toA1s_ok : ∀ (l : List Value), allScal (l.map toA1) = true → VRs σ (l.map toA1) l
  | [], _ => VRs.nil
  | v :: l, hs => by
    simp only [List.map_cons, allScal, Bool.and_eq_true] at hs
    exact VRs.cons (toA1_ok fun e => by rw [e] at hs; cases hs.1) (toA1s_ok l hs.2)

theorem toA_ok {v : Value} (hb : toA v ≠ .bad) : VR σ (toA v) v := by
  cases v with
  | agg cs =>
    simp only [toA] at hb ⊢
    split at hb
    · rename_i hs
      rw [if_pos hs]
      simp only [VR]
      exact ⟨hs, cs.toList, toA1s_ok _ hs, by simp⟩
    · exact absurd rfl hb
  | tuple cs =>
    simp only [toA] at hb ⊢
    split at hb
    · rename_i hs
      rw [if_pos hs]
      simp only [VR, VRs]
      refine ⟨[], rfl, ?_⟩
      rw [Array.size_eq_zero_iff.1 hs]
    · exact absurd rfl hb
  | _ =>
    simp only [toA] at hb ⊢
    exact toA1_ok hb

/-- A new variable. -/
noncomputable def opBox (v : AV) (h : Hp) : RH := bif stor v then .ok (.ptr h.nx 0) (h.new (.dat (.cs v.cells) 0)) else .no

theorem opBox_ok (r : Rel σ h w) {e : TypeId} {v : AV} {y : Value} {u : AV} {h' : Hp} (hv : VR σ v y) (ho : opBox v h = .ok u h') :
    ∃ vv w' σ', (Instr.box e y).run P w = .ok vv w' ∧ Rel σ' h' w' ∧ Stp σ h w σ' h' w' ∧ VR σ' u vv := by
  unfold opBox at ho
  cases hs : stor v with
  | false => rw [hs] at ho; cases ho
  | true =>
    rw [hs] at ho
    simp only [cond_true, RH.ok.injEq] at ho
    obtain ⟨rfl, rfl⟩ := ho
    obtain ⟨xs, hc, hxs, hsc⟩ := hv.cellsOf (stor_cells hs)
    obtain ⟨w', en, h1, h2, h3, h4⟩ := r.newRow (P := P) e hxs hsc
    refine ⟨.pointer (some ⟨en.blk, 0, none⟩), w', _, ?_, h3, h4, ?_⟩
    · simp only [Instr.box, newVar, hc, Sem.run_bind, h1, Result.andThen_ok, Sem.run_pure]
    · simp only [VR]; exact ⟨en, Sg.upd_same _ _ _, by rw [h2]⟩

theorem alloc_as_box {e : TypeId} {z : Value} (hz : (zeroValue e).run P w = .ok z w) : (Instr.alloc e true (.tuple #[])).run P w = (Instr.box e z).run P w := by
  simp only [Instr.alloc, Instr.box, Sem.run_bind, hz, Result.andThen_ok]

/-- Cells laid over cells. -/
def spliceA (l : List AV) (off : Nat) (v : List AV) : List AV := l.take off ++ (v ++ l.drop (Nat.add off v.length))

def fillA (cells : List AV) : List (Nat × Nat × AV) → Option (List AV)
  | [] => some cells
  | (off, size, v) :: rest =>
    bif stor v && Nat.beq v.cells.length size && Nat.ble (Nat.add off size) cells.length then fillA (spliceA cells off v.cells) rest else none

def overlay (cs : Array Value) (off : Nat) (vs : List Value) (k : Nat) : Array Value :=
  (vs.zipIdx k).foldl (fun cs (p : Value × Nat) => cs.setIfInBounds (off + p.2) p.1) cs

theorem overlay_get : ∀ (vs : List Value) (cs : Array Value) (off k : Nat), off + k + vs.length ≤ cs.size →
    (overlay cs off vs k).size = cs.size ∧ ∀ i, (overlay cs off vs k)[i]? = if off + k ≤ i ∧ i < off + k + vs.length then vs[i - (off + k)]? else cs[i]?
  | [], cs, off, k, _ => by
    refine ⟨by simp [overlay], fun i => ?_⟩
    have : ¬ (off + k ≤ i ∧ i < off + k + ([] : List Value).length) := by simp
    rw [if_neg this]; simp [overlay]
  | v :: vs, cs, off, k, hle => by
    simp only [List.length_cons] at hle
    obtain ⟨h1, h2⟩ := overlay_get vs (cs.setIfInBounds (off + k) v) off (k + 1) (by simp; omega)
    have e : overlay cs off (v :: vs) k = overlay (cs.setIfInBounds (off + k) v) off vs (k + 1) := by
      simp [overlay, List.zipIdx_cons]
    rw [e]
    refine ⟨by rw [h1]; simp, fun i => ?_⟩
    rw [h2]
    simp only [List.length_cons]
    by_cases hi : i = off + k
    · subst hi
      rw [if_neg (by omega), if_pos (by omega)]
      have : off + k < cs.size := by omega
      simp [this]
    · by_cases hin : off + (k + 1) ≤ i ∧ i < off + (k + 1) + vs.length
      · rw [if_pos hin, if_pos (by omega)]
        have : i - (off + k) = (i - (off + (k + 1))) + 1 := by omega
        rw [this]; simp
      · rw [if_neg hin, if_neg (by omega), Array.getElem?_setIfInBounds_ne (by omega)]

theorem overlay_eq (xs vs : List Value) (off : Nat) (hle : off + vs.length ≤ xs.length) :
    overlay xs.toArray off vs 0 = (xs.take off ++ (vs ++ xs.drop (off + vs.length))).toArray := by
  obtain ⟨h1, h2⟩ := overlay_get vs xs.toArray off 0 (by simpa using hle)
  apply Array.ext_getElem?
  intro i
  rw [h2]
  simp only [Nat.add_zero, List.getElem?_toArray]
  rw [List.getElem?_append]
  simp only [List.length_take]
  have hm : min off xs.length = off := by omega
  rw [hm]
  split
  · rename_i h
    rw [if_neg (by omega), List.getElem?_append]
    rw [if_pos (by omega)]
  · rename_i h
    split
    · rename_i h3
      rw [List.getElem?_take, if_pos h3]
    · rename_i h3
      rw [List.getElem?_append, if_neg (by omega), List.getElem?_drop]
      congr 1; omega

theorem fold_overlay (cs : Array Value) (off : Nat) (vs : List Value) :
    vs.toArray.zipIdx.foldl (fun cs (c, j) => cs.setIfInBounds (off + j) c) cs = overlay cs off vs 0 := by
  rw [← Array.foldl_toList]
  simp [overlay]

/-- Parts of a literal and their values. -/
def PartsR (σ : Sg) (place : Nat → Option (Nat × Nat)) : List (Nat × Nat × AV) → List (Nat × Value) → Prop
  | [], l => l = []
  | (off, size, v) :: rest, l => ∃ i y l', place i = some (off, size) ∧ VR σ v y ∧ PartsR σ place rest l' ∧ l = (i, y) :: l'

theorem fillA_ok (place : Nat → Option (Nat × Nat)) : ∀ (parts : List (Nat × Nat × AV)) (vparts : List (Nat × Value)) (cells out : List AV) (xs : List Value),
    PartsR σ place parts vparts → VRs σ cells xs → allScal cells = true → fillA cells parts = some out →
    ∃ ys, Instr.fill place xs.toArray vparts = some ys.toArray ∧ VRs σ out ys ∧ allScal out = true
  | [], _, cells, out, xs, hp, hv, hs, hf => by
    simp only [PartsR] at hp
    simp only [fillA, Option.some.injEq] at hf
    subst hp hf
    exact ⟨xs, rfl, hv, hs⟩
  | (off, size, v) :: rest, _, cells, out, xs, hp, hv, hs, hf => by
    simp only [PartsR] at hp
    obtain ⟨i, y, l', h1, h2, h3, rfl⟩ := hp
    simp only [fillA] at hf
    cases hc : (stor v && Nat.beq v.cells.length size && Nat.ble (Nat.add off size) cells.length) with
    | false => rw [hc] at hf; cases hf
    | true =>
      rw [hc] at hf
      simp only [cond_true] at hf
      simp only [Bool.and_eq_true] at hc
      obtain ⟨⟨c1, c2⟩, c3⟩ := hc
      have c2 := Nat.eq_of_beq_eq_true c2
      have c3 : off + size ≤ cells.length := Nat.le_of_ble_eq_true c3
      obtain ⟨zs, hz1, hz2, hz3⟩ := h2.cellsOf (stor_cells c1)
      have hzl := hz2.length
      have hxl := hv.length
      have hsp : VRs σ (spliceA cells off v.cells) (xs.take off ++ (zs ++ xs.drop (off + zs.length))) := by
        unfold spliceA
        refine VRs.append (VRs.take off hv) (VRs.append hz2 ?_)
        have : Nat.add off v.cells.length = off + zs.length := by show off + v.cells.length = _; omega
        rw [this]
        exact VRs.drop _ hv
      have hss : allScal (spliceA cells off v.cells) = true := by
        rw [allScal_iff]
        intro a ha
        unfold spliceA at ha
        rcases List.mem_append.1 ha with ha | ha
        · exact (allScal_iff _).1 hs a (List.mem_of_mem_take ha)
        · rcases List.mem_append.1 ha with ha | ha
          · exact (allScal_iff _).1 hz3 a ha
          · exact (allScal_iff _).1 hs a (List.mem_of_mem_drop ha)
      obtain ⟨ys, k1, k2, k3⟩ := fillA_ok place rest l' _ out _ h3 hsp hss hf
      refine ⟨ys, ?_, k2, k3⟩
      simp only [Instr.fill, h1, hz1]
      have hsz : zs.toArray.size = size := by simp; omega
      have hn : ¬ (zs.toArray.size ≠ size || off + zs.toArray.size > xs.toArray.size) = true := by
        simp; omega
      rw [if_neg (by simpa using hn), fold_overlay, overlay_eq xs zs off (by omega)]
      exact k1

/-- A literal of a struct or an array. -/
def opBld (zero : List AV) (parts : List (Nat × Nat × AV)) : AV :=
  match fillA zero parts with
  | some l => .agg l
  | none => .bad

/-- A literal of a slice. -/
noncomputable def opBs (len : Nat) (bts : Bool) (zero : List AV) (parts : List (Nat × Nat × AV)) (h : Hp) : RH :=
  match fillA zero parts with
  | some l => match bts with
    | false => .ok (.slc h.nx 0 len len) (h.new (.dat (.cs l) 0))
    | true => match packA l with
      | some N => .ok (.slc h.nx 0 len len) (h.new (.dat (.bs l.length N) 0))
      | none => .no
  | none => .no
where
  packA : List AV → Option Nat
    | [] => some 0
    | .int .u8 b :: l => match packA l with
      | some N => bif Nat.blt b 256 then some (Nat.add b (Nat.mul 256 N)) else none
      | none => none
    | _ :: _ => none

/-- Where a literal's parts lie, and what it holds at first. -/
def placeOf (P : Program) (t : TypeId) : Option ((Nat → Option (Nat × Nat)) × Value) :=
  match P.info? t, P.underlying t with
  | some it, some (.array _ e) =>
    match it.zero, P.info? e with
    | some z, some ie => some (fun i => some (i * ie.size, ie.size), z)
    | _, _ => none
  | some it, some (.struct fields) =>
    match it.zero, fields.toList.mapM (fun f => (P.info? f.type).map fun i => (f.offset, i.size)) with
    | some z, some places => some ((places.toArray[·]?), z)
    | _, _ => none
  | _, _ => none

theorem built_eq {t : TypeId} {place : Nat → Option (Nat × Nat)} {z : Value} (hp : placeOf P t = some (place, z)) (parts : List (Nat × Value)) :
    P.built t parts = Instr.fill place z.cells parts := by
  unfold placeOf at hp
  unfold Program.built
  cases h1 : P.info? t with
  | none => rw [h1] at hp; simp at hp
  | some it =>
    cases h2 : P.underlying t with
    | none => rw [h1, h2] at hp; simp at hp
    | some d =>
      rw [h1, h2] at hp
      cases d <;> simp only at hp ⊢ <;> (try contradiction)
      · cases h3 : it.zero with
        | none => rw [h3] at hp; simp at hp
        | some z' =>
          rename_i n e
          cases h4 : P.info? e with
          | none => rw [h3, h4] at hp; simp at hp
          | some ie =>
            rw [h3, h4] at hp
            simp only [Option.some.injEq, Prod.mk.injEq] at hp
            obtain ⟨rfl, rfl⟩ := hp
            rfl
      · rename_i fields
        cases h3 : it.zero with
        | none => rw [h3] at hp; simp at hp
        | some z' =>
          cases h4 : fields.toList.mapM (fun f => (P.info? f.type).map fun i => (f.offset, i.size)) with
          | none => rw [h3, h4] at hp; simp at hp
          | some places =>
            rw [h3, h4] at hp
            simp only [Option.some.injEq, Prod.mk.injEq] at hp
            obtain ⟨rfl, rfl⟩ := hp
            rfl

theorem opBld_ok {t : TypeId} {place : Nat → Option (Nat × Nat)} {z : Value} (hp : placeOf P t = some (place, z)) {zero : List AV} {zs : List Value} (hz : z.cells = zs.toArray)
    (hzv : VRs σ zero zs) (hzs : allScal zero = true) {parts : List (Nat × Nat × AV)} {vparts : Array (Nat × Value)} (hpr : PartsR σ place parts vparts.toList) (hb : opBld zero parts ≠ .bad) :
    ∃ v, (Instr.build t vparts).run P w = .ok v w ∧ VR σ (opBld zero parts) v := by
  unfold opBld at hb ⊢
  cases hf : fillA zero parts with
  | none => rw [hf] at hb; exact absurd rfl hb
  | some out =>
    obtain ⟨ys, h1, h2, h3⟩ := fillA_ok place parts vparts.toList zero out zs hpr hzv hzs hf
    refine ⟨.agg ys.toArray, run_build w t vparts _ (by rw [built_eq hp, hz]; exact h1), ?_⟩
    simp only [VR]
    exact ⟨h3, ys, h2, rfl⟩

theorem PR.pack : ∀ {l : List AV} {xs : List Value} {N : Nat}, VRs σ l xs → allScal l = true → opBs.packA l = some N → PR σ (.bs l.length N) xs := by
  intro l xs N hv hs hp
  have key : ∀ (l : List AV) (N : Nat), opBs.packA l = some N → ∃ bs : List Nat, l = bs.map (fun b => .int .u8 b) ∧ N = Ev.pack bs ∧ ∀ b ∈ bs, b < 256 := by
    intro l
    induction l with
    | nil => intro N hN; simp only [opBs.packA, Option.some.injEq] at hN; exact ⟨[], rfl, hN.symm, by simp⟩
    | cons a l ih =>
      intro N hN
      unfold opBs.packA at hN
      split at hN
      · rename_i heq
        cases heq
      · rename_i b l' heq
        simp only [List.cons.injEq] at heq
        obtain ⟨rfl, rfl⟩ := heq
        cases hM : opBs.packA l with
        | none => rw [hM] at hN; simp at hN
        | some M =>
          rw [hM] at hN
          simp only [blt_cond] at hN
          split at hN
          · rename_i hb
            simp only [Option.some.injEq] at hN
            obtain ⟨bs, h1, h2, h3⟩ := ih M hM
            refine ⟨b :: bs, by rw [h1]; rfl, by rw [← hN, h2]; rfl, ?_⟩
            intro x hx
            rcases List.mem_cons.1 hx with rfl | hx
            · exact hb
            · exact h3 x hx
          · cases hN
      · cases hN
  obtain ⟨bs, rfl, rfl, hb⟩ := key l N hp
  have hl := hv.length
  simp only [List.length_map] at hl
  refine ⟨by simp [Pay.len, hl], fun j hj => ?_⟩
  have hj' : j < bs.length := by omega
  have e : (Pay.bs (bs.map (fun b => AV.int .u8 b)).length (Ev.pack bs)).rd j = .int .u8 bs[j] := by
    rw [Pay.rd_bs, if_pos (by simpa using hj'), byteAt_pack bs j hb, List.getElem?_eq_getElem hj']; rfl
  rw [e]
  refine ⟨rfl, ?_⟩
  have := hv.get j (by simpa using hj') hj
  simpa using this

/-- A new row with a payload. -/
theorem Rel.newPay (r : Rel σ h w) {q : Pay} {xs : List Value} (t : TypeId) (hq : PR σ q xs) :
    ∃ w' e, (Go.newRow t xs.toArray).run P w = .ok ⟨e.blk, 0, none⟩ w' ∧ e.sh = 0 ∧ Rel (σ.upd h.nx e) (h.new (.dat q 0)) w' ∧ Stp σ h w (σ.upd h.nx e) (h.new (.dat q 0)) w' := by
  refine ⟨w.alloc (.cells xs.toArray t), ⟨w.heap.size, 0, 0, 0⟩, by simp [Go.newRow], rfl, ?_, Stp.alloc r rfl rfl rfl rfl rfl⟩
  refine r.alloc (X := .cells xs.toArray t) rfl rfl ?_
  have hq' := PR.mono (Sg.le_upd ⟨w.heap.size, 0, 0, 0⟩ r.nx_dead) hq
  simp only [OR]
  refine ⟨xs.toArray, t, 0, 0, by show (w.heap.push _)[w.heap.size]? = _; simp, by omega, by simp [hq.1], fun j hj => ?_, by omega⟩
  rw [hq.1] at hj
  obtain ⟨s1, s2⟩ := hq'.2 j hj
  exact ⟨s1, xs[j], by simp [hj], s2⟩

theorem modFill {zs : List Value} {n : Nat} (hzs : 0 < zs.length) : ((Array.range (n * zs.length)).map (zs.toArray[· % zs.toArray.size]!)) = (List.replicate n zs).flatten.toArray := by
  apply Array.ext_getElem?
  intro i
  have hlen : ∀ n, ((List.replicate n zs).flatten).length = n * zs.length := by
    intro n; induction n with
    | zero => simp
    | succ n ih => simp [List.replicate_succ, ih, Nat.add_mul]; omega
  by_cases hi : i < n * zs.length
  · have hm : i % zs.length < zs.length := Nat.mod_lt _ hzs
    have h1 : ((Array.range (n * zs.length)).map (zs.toArray[· % zs.toArray.size]!))[i]? = some (zs[i % zs.length]) := by
      simp [hi, hm]
    rw [h1]
    clear h1
    have : ∀ n i, i < n * zs.length → ((List.replicate n zs).flatten)[i]? = some (zs[i % zs.length]'(Nat.mod_lt _ hzs)) := by
      intro n
      induction n with
      | zero => intro i hi; simp at hi
      | succ n ih =>
        intro i hi
        rw [List.replicate_succ, List.flatten_cons]
        by_cases hlt : i < zs.length
        · rw [List.getElem?_append_left hlt, List.getElem?_eq_getElem hlt]
          congr 2; exact (Nat.mod_eq_of_lt hlt).symm
        · rw [List.getElem?_append_right (by omega), ih (i - zs.length) (by rw [Nat.add_mul] at hi; omega)]
          congr 2
          rw [← Nat.mod_eq_sub_mod (by omega)]
    simp only [List.getElem?_toArray]
    exact (this n i hi).symm
  · rw [Array.getElem?_eq_none (by simp; omega)]
    symm
    simp only [List.getElem?_toArray]
    exact List.getElem?_eq_none (by rw [hlen]; omega)

theorem VRs.rep {l : List AV} {xs : List Value} (hv : VRs σ l xs) : ∀ n, VRs σ (List.replicate n l).flatten (List.replicate n xs).flatten
  | 0 => by simp; exact VRs.nil
  | n + 1 => by simp only [List.replicate_succ, List.flatten_cons]; exact VRs.append hv (VRs.rep hv n)

theorem allScal_rep {l : List AV} (hs : allScal l = true) : ∀ n, allScal (List.replicate n l).flatten = true
  | 0 => rfl
  | n + 1 => by
    rw [List.replicate_succ, List.flatten_cons, allScal_iff]
    intro a ha
    rcases List.mem_append.1 ha with ha | ha
    · exact (allScal_iff l).1 hs a ha
    · exact (allScal_iff _).1 (allScal_rep hs n) a ha

theorem opBs_ok (r : Rel σ h w) {t e : TypeId} {ie : TypeInfo} {z : Value} {len : Nat} {bts : Bool} (ht : P.underlying t = some (.slice e)) (hi : P.info? e = some ie) (hz : ie.zero = some z)
    {zero : List AV} {zs : List Value} (hzc : z.cells = zs.toArray) (hsz : zs.length = ie.size) (hpos : 0 < ie.size) (hmax : len * ie.size ≤ 16777216)
    (hzv : VRs σ zero zs) (hzs : allScal zero = true) {parts : List (Nat × Nat × AV)} {vparts : Array (Nat × Value)}
    (hpr : PartsR σ (fun i => some (i * ie.size, ie.size)) parts vparts.toList) {u : AV} {h' : Hp}
    (ho : opBs len bts (List.replicate len zero).flatten parts h = .ok u h') :
    ∃ vv w' σ', (Instr.buildSlice t len vparts).run P w = .ok vv w' ∧ Rel σ' h' w' ∧ Stp σ h w σ' h' w' ∧ VR σ' u vv := by
  unfold opBs at ho
  cases hf : fillA (List.replicate len zero).flatten parts with
  | none => rw [hf] at ho; cases ho
  | some l =>
    rw [hf] at ho
    simp only at ho
    obtain ⟨ys, h1, h2, h3⟩ := fillA_ok _ parts vparts.toList _ l _ hpr (VRs.rep hzv len) (allScal_rep hzs len) hf
    have hrun : (Instr.buildSlice t len vparts).run P w = ((newRow e ys.toArray).run P w).andThen fun a w' => .ok (.slice (some a) len len) w' := by
      have hm : ¬ 2 ^ 24 < len * ie.size := by omega
      have hcells : (Array.range (len * ie.size)).map (fun i => (if len * ie.size = 0 then (#[] : Array Value) else z.cells)[i % (if len * ie.size = 0 then (#[] : Array Value) else z.cells).size]!) = (List.replicate len zs).flatten.toArray := by
        by_cases h0 : len * ie.size = 0
        · have : len = 0 := by
            rcases Nat.mul_eq_zero.1 h0 with h | h
            · exact h
            · omega
          subst this; simp
        · simp only [h0, if_false, hzc]
          rw [← hsz]
          exact modFill (by omega)
      by_cases h0 : len * ie.size = 0
      · simp only [h0, if_true] at hcells
        simp only [Instr.buildSlice, Sem.run_bind, run_underlying ht, Result.andThen_ok, run_sizeOf' hi, Sem.run_ite, h0, if_true, Sem.run_pure]
        rw [hcells]
        simp [h1]
      · simp only [h0, if_false] at hcells
        simp only [Instr.buildSlice, Sem.run_bind, run_underlying ht, Result.andThen_ok, run_sizeOf' hi, hm, Sem.run_ite, if_false, h0, Sem.run_pure, zeroValue, typeInfo, run_program, hi, hz]
        rw [hcells]
        simp [h1]
    cases bts with
    | false =>
      simp only [RH.ok.injEq] at ho
      obtain ⟨rfl, rfl⟩ := ho
      obtain ⟨w', en, k1, k2, k3, k4⟩ := r.newRow (P := P) e h2 h3
      refine ⟨_, w', _, by rw [hrun, k1]; rfl, k3, k4, ?_⟩
      simp only [VR]
      exact ⟨en, Sg.upd_same _ _ _, Nat.le_refl _, by rw [k2]⟩
    | true =>
      simp only at ho
      cases hpk : opBs.packA l with
      | none => rw [hpk] at ho; cases ho
      | some N =>
        rw [hpk] at ho
        simp only [RH.ok.injEq] at ho
        obtain ⟨rfl, rfl⟩ := ho
        obtain ⟨w', en, k1, k2, k3, k4⟩ := r.newPay (P := P) e (PR.pack h2 h3 hpk)
        refine ⟨_, w', _, by rw [hrun, k1]; rfl, k3, k4, ?_⟩
        simp only [VR]
        exact ⟨en, Sg.upd_same _ _ _, Nat.le_refl _, by rw [k2]⟩

end
end Go.Ev
