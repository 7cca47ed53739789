/- Regions that draw their order: the check of the text, the evaluation, and its trace. -/
import Derived.Test.YtkoiiafighfibaaGreatDoorEvQ
set_option autoImplicit false
namespace Go.Ev

/-- One operation comes before another in every order. -/
inductive Anc (ops : Array Oper) : Nat → Nat → Prop
  | one {i : Nat} {o : Oper} {e : Edge} (ho : ops[i]? = some o) (he : e ∈ o.after) (hb : Region.binds .any e = true) : Anc ops e.on i
  | step {k i : Nat} {o : Oper} {e : Edge} (h : Anc ops k e.on) (ho : ops[i]? = some o) (he : e ∈ o.after) (hb : Region.binds .any e = true) : Anc ops k i

abbrev Masks := List (Nat × Nat)
def maskOf : Masks → Nat → Nat
  | [], _ => 0
  | (i, b) :: l, k => bif Nat.beq i k then b else maskOf l k
def Masks.has (tbl : Masks) (k i : Nat) : Bool := Nat.testBit (maskOf tbl i) k

def maskE (tbl : Masks) : List Edge → Nat
  | [] => 0
  | e :: l => bif Region.binds .any e then Nat.lor (2 ^ e.on) (Nat.lor (maskOf tbl e.on) (maskE tbl l)) else maskE tbl l
def masks (ops : Array Oper) : List Nat → Masks → Masks
  | [], tbl => tbl
  | i :: l, tbl => match ops[i]? with
    | some o => masks ops l ((i, maskE tbl o.after.toList) :: tbl)
    | none => masks ops l tbl

section
variable {P : Program} {ops : Array Oper}

theorem maskE_ok {tbl : Masks} (ht : ∀ k i, tbl.has k i = true → Anc ops k i) {i : Nat} {o : Oper} (ho : ops[i]? = some o) : ∀ (l : List Edge), (∀ e ∈ l, e ∈ o.after) → ∀ k, Nat.testBit (maskE tbl l) k = true → Anc ops k i
  | [], _, k, h => by simp [maskE] at h
  | e :: l, hl, k, h => by
    simp only [maskE] at h
    cases hb : Region.binds .any e with
    | false => rw [hb] at h; exact maskE_ok ht ho l (fun e he => hl e (by simp [he])) k h
    | true =>
      rw [hb] at h
      simp only [cond_true] at h
      rw [show ∀ a b, Nat.lor a b = a ||| b from fun _ _ => rfl, show ∀ a b, Nat.lor a b = a ||| b from fun _ _ => rfl, Nat.testBit_or, Nat.testBit_or, Bool.or_eq_true, Bool.or_eq_true, Nat.testBit_two_pow, decide_eq_true_eq] at h
      rcases h with rfl | h | h
      · exact .one ho (hl e (by simp)) hb
      · exact .step (ht k e.on h) ho (hl e (by simp)) hb
      · exact maskE_ok ht ho l (fun e he => hl e (by simp [he])) k h

theorem masks_ok : ∀ (l : List Nat) (tbl : Masks), (∀ k i, tbl.has k i = true → Anc ops k i) → ∀ k i, (masks ops l tbl).has k i = true → Anc ops k i
  | [], _, ht => ht
  | j :: l, tbl, ht => by
    simp only [masks]
    cases ho : ops[j]? with
    | none => exact masks_ok l tbl ht
    | some o =>
      refine masks_ok l _ fun k i h => ?_
      simp only [Masks.has, maskOf, beq_cond] at h
      split at h
      · rename_i e; subst e
        exact maskE_ok ht ho _ (fun e he => by simpa using he) k h
      · exact ht k i h
end

/-! The check of the text -/
section
variable (P : Program) (ops : Array Oper)

def spOf (i : Nat) : Option SOp := (ops[i]?).bind (spec P)
def isE (i : Nat) : Bool := match spOf P ops i with
  | some (.p _) => false
  | _ => true
def isH (i : Nat) : Bool := match spOf P ops i with
  | some (.p x) => x.heapy
  | _ => false
def tmpsOf : List Operand → List Nat
  | [] => []
  | .tmp t :: l => t :: tmpsOf l
  | _ :: l => tmpsOf l
def looksOf (i : Nat) : List Nat := match ops[i]? with
  | some o => (match spec P o with | some s => tmpsOf s.looks | none => []) ++ (match o.guard with | some (j, _) => (dstOf ops j).toList | none => [])
  | none => []
def memN : Nat → List Nat → Bool
  | _, [] => false
  | a, b :: l => bif Nat.beq a b then true else memN a l
def apartI (k i : Nat) : Bool := match dstOf ops k with
  | some t => !memN t (looksOf P ops i)
  | none => true
def dneI (k i : Nat) : Bool := match dstOf ops k, dstOf ops i with
  | some t, some u => !Nat.beq t u
  | _, _ => true
/-- Two operations, the first of which the evaluation takes first, that may come in either order. -/
def compat (k i : Nat) : Bool := apartI P ops k i && (apartI P ops i k && (dneI ops k i && !(isE P ops k && (isE P ops i || isH P ops i))))
def allN (f : Nat → Bool) : List Nat → Bool
  | [] => true
  | a :: l => f a && allN f l
def edgesIn (pre : List Nat) : List Edge → Bool
  | [] => true
  | e :: l => (!Region.binds .any e || memN e.on pre) && edgesIn pre l
def chkL (N : Nat) (tbl : Masks) : List Nat → List Nat → Bool
  | [], _ => true
  | i :: l, pre => (match ops[i]? with
      | some o => edgesIn pre o.after.toList && (match o.dst with | some t => Nat.blt t N | none => true)
      | none => false) && (!memN i pre && (allN (fun k => tbl.has k i || compat P ops k i) pre && chkL N tbl l (i :: pre)))
def chk (N : Nat) (L : List Nat) : Bool := chkL P ops N (masks ops L []) L [] && (Nat.ble L.length ops.size && allN (fun i => memN i L) (List.range ops.size))
end

theorem memN_iff {a : Nat} {l : List Nat} : memN a l = true ↔ a ∈ l := by
  induction l with
  | nil => simp [memN]
  | cons b l ih =>
    simp only [memN, beq_cond, List.mem_cons]
    split
    · simp_all
    · rename_i h; simp [ih, h]
theorem allN_iff {f : Nat → Bool} {l : List Nat} : allN f l = true ↔ ∀ a ∈ l, f a = true := by
  induction l with
  | nil => simp [allN]
  | cons a l ih => simp [allN, ih]
theorem mem_tmpsOf {t : Nat} {l : List Operand} : t ∈ tmpsOf l ↔ Operand.tmp t ∈ l := by
  induction l with
  | nil => simp [tmpsOf]
  | cons x l ih => cases x <;> simp [tmpsOf, ih]

section
variable {P : Program} {ops : Array Oper}

theorem edgesIn_ok {pre : List Nat} : ∀ {l : List Edge}, edgesIn pre l = true → ∀ e ∈ l, Region.binds .any e = true → e.on ∈ pre
  | [], _, e, he, _ => by simp at he
  | x :: l, h, e, he, hb => by
    simp only [edgesIn, Bool.and_eq_true, Bool.or_eq_true, Bool.not_eq_true'] at h
    rcases List.mem_cons.1 he with rfl | he
    · rcases h.1 with h1 | h1
      · rw [hb] at h1; cases h1
      · exact memN_iff.1 h1
    · exact edgesIn_ok h.2 e he hb

theorem chkL_ok {N : Nat} {tbl : Masks} : ∀ {l pre : List Nat}, chkL P ops N tbl l pre = true → ∀ p2 i post, l = p2 ++ i :: post →
    (∃ o, ops[i]? = some o ∧ (∀ e ∈ o.after, Region.binds .any e = true → e.on ∈ p2.reverse ++ pre) ∧ ∀ t, o.dst = some t → t < N) ∧ i ∉ p2.reverse ++ pre ∧
      ∀ k ∈ p2.reverse ++ pre, tbl.has k i = true ∨ compat P ops k i = true
  | [], _, _, p2, i, post, e => by simp at e
  | j :: l, pre, h, p2, i, post, e => by
    simp only [chkL, Bool.and_eq_true, Bool.not_eq_true'] at h
    obtain ⟨h1, h2, h3, h4⟩ := h
    cases p2 with
    | nil =>
      simp only [List.nil_append, List.cons.injEq] at e
      obtain ⟨rfl, rfl⟩ := e
      simp only [List.reverse_nil, List.nil_append]
      refine ⟨?_, fun hm => (by rw [memN_iff.2 hm] at h2; cases h2), fun k hk => by simpa using allN_iff.1 h3 k hk⟩
      cases ho : ops[j]? with
      | none => rw [ho] at h1; cases h1
      | some o =>
        rw [ho] at h1
        simp only [Bool.and_eq_true] at h1
        refine ⟨o, rfl, fun e he hb => edgesIn_ok h1.1 e (by simpa using he) hb, fun t ht => ?_⟩
        have := h1.2
        rw [ht] at this
        simpa using this
    | cons x p2 =>
      simp only [List.cons_append, List.cons.injEq] at e
      obtain ⟨rfl, rfl⟩ := e
      have := chkL_ok h4 p2 i post rfl
      simpa only [List.reverse_cons, List.append_assoc, List.cons_append, List.nil_append] using this

/-- WHAT THE CHECK SAYS. -/
structure Chk (P : Program) (ops : Array Oper) (N : Nat) (L : List Nat) : Prop where
  at_ : ∀ pre i post, L = pre ++ i :: post → ∃ o, ops[i]? = some o ∧ (∀ e ∈ o.after, Region.binds .any e = true → e.on ∈ pre) ∧ ∀ t, o.dst = some t → t < N
  fresh : ∀ pre i post, L = pre ++ i :: post → i ∉ pre
  pair : ∀ pre i post, L = pre ++ i :: post → ∀ k ∈ pre, Anc ops k i ∨ compat P ops k i = true
  all : ∀ i, i < ops.size → i ∈ L
  len : L.length ≤ ops.size

theorem chk_ok {N : Nat} {L : List Nat} (h : chk P ops N L = true) : Chk P ops N L := by
  simp only [chk, Bool.and_eq_true] at h
  have hm := masks_ok (ops := ops) L [] (fun k i h => by simp [Masks.has, maskOf] at h)
  have key := fun pre i post e => chkL_ok h.1 pre i post e
  refine ⟨fun pre i post e => ?_, fun pre i post e hi => ?_, fun pre i post e k hk => ?_, fun i hi => ?_, Nat.le_of_ble_eq_true h.2.1⟩
  · obtain ⟨o, h1, h2, h3⟩ := (key pre i post e).1
    exact ⟨o, h1, fun e he hb => by simpa using h2 e he hb, h3⟩
  · exact (key pre i post e).2.1 (by simpa using hi)
  · exact ((key pre i post e).2.2 k (by simpa using hk)).imp (hm k i) id
  · exact memN_iff.1 (allN_iff.1 h.2.2 i (by simpa using hi))

end

/-! The evaluation -/

noncomputable def gdO (g : Option (Nat × Bool)) (ops : Array Oper) (ρ : Operand → AV) (e : AV) : AV :=
  match g with
  | none => e
  | some (j, want) => gdE (guardV ops ρ j) want e
noncomputable def gdRO (g : Option (Nat × Bool)) (ops : Array Oper) (ρ : Operand → AV) (e : RH) (h : Hp) : RH :=
  match g with
  | none => e
  | some (j, want) => gdR (guardV ops ρ j) want e h

abbrev Rks := List (Nat × (Hp → AV) × AV)
/-- What was read, and could be read behind the operation i as well, reads the same behind it. -/
noncomputable def rkK (tbl : Masks) (i : Nat) : Rks → Hp → R → R
  | [], _, r => r
  | (k, f, u) :: rk, h, r => bif tbl.has k i then rkK tbl i rk h r else bif AV.vbeq (f h) u then rkK tbl i rk h r else .fl

noncomputable def fin (m : Mat) (T : Tr AV) : Env → Tr AV
  | [] => T
  | (t, v) :: env => match mfind m t with
    | some p => (fin m T env).set .bad p v
    | none => fin m T env

noncomputable def dev (P : Program) (ops : Array Oper) (m : Mat) (F : Fs) (tbl : Masks) (T : Tr AV) : List Nat → Env → Rks → Hp → R
  | [], env, _, h => .nm (fin m T env) h
  | i :: rest, env, rk, h =>
    match ops[i]? with
    | none => .fl
    | some o => match spec P o with
      | none => .fl
      | some (.p x) => bnd1 (gdO o.guard ops (opnd m env T) (x.ev (opnd m env T) h.t)) fun v =>
          dev P ops m F tbl T rest (dstE ops i v ++ env) (bif x.heapy then (i, fun h => gdO o.guard ops (opnd m env T) (x.ev (opnd m env T) h.t), v) :: rk else rk) h
      | some s => bnd2 (gdRO o.guard ops (opnd m env T) (effR F (opnd m env T) h s) h) fun v h' =>
          rkK tbl i rk h' (dev P ops m F tbl T rest (dstE ops i v ++ env) rk h')

section
variable {P : Program} {ops : Array Oper} {m : Mat} {F : Fs} {tbl : Masks} {T : Tr AV}

theorem rkK_ok {i : Nat} {h : Hp} {r x : R} : ∀ {rk : Rks}, rkK tbl i rk h r = x → x ≠ .fl → r = x ∧ ∀ e ∈ rk, tbl.has e.1 i = true ∨ e.2.1 h = e.2.2
  | [], hk, _ => ⟨hk, by simp⟩
  | (k, f, u) :: rk, hk, hx => by
    simp only [rkK] at hk
    cases hh : tbl.has k i with
    | true =>
      rw [hh] at hk
      obtain ⟨e1, e2⟩ := rkK_ok (rk := rk) hk hx
      refine ⟨e1, fun e he => ?_⟩
      rcases List.mem_cons.1 he with rfl | he
      · exact .inl hh
      · exact e2 e he
    | false =>
      rw [hh] at hk
      simp only [cond_false] at hk
      cases hb : AV.vbeq (f h) u with
      | false => rw [hb] at hk; exact absurd hk.symm hx
      | true =>
        rw [hb] at hk
        obtain ⟨e1, e2⟩ := rkK_ok (rk := rk) hk hx
        refine ⟨e1, fun e he => ?_⟩
        rcases List.mem_cons.1 he with rfl | he
        · exact .inr (AV.vbeq_eq hb)
        · exact e2 e he

def nE (P : Program) (ops : Array Oper) (l : List Nat) : Nat := (l.filter (isE P ops)).length

/-- What the evaluation says of one operation, where it stands behind 'pre'. -/
def Cond (P : Program) (ops : Array Oper) (m : Mat) (F : Fs) (T : Tr AV) (v : Nat → AV) (hp : Nat → Hp) (pre : List Nat) (i : Nat) : Prop :=
  ∃ o s, ops[i]? = some o ∧ spec P o = some s ∧
    ((∃ x, s = .p x ∧ v i ≠ .bad ∧ v i = gdO o.guard ops (opnd m (dls ops v pre) T) (x.ev (opnd m (dls ops v pre) T) (hp (nE P ops pre)).t)) ∨
     ((∀ x, s ≠ .p x) ∧ gdRO o.guard ops (opnd m (dls ops v pre) T) (effR F (opnd m (dls ops v pre) T) (hp (nE P ops pre)) s) (hp (nE P ops pre)) = .ok (v i) (hp (nE P ops pre + 1))))


theorem nE_append (l r : List Nat) : nE P ops (l ++ r) = nE P ops l + nE P ops r := by simp [nE]
theorem nE_one_true {i : Nat} (h : isE P ops i = true) : nE P ops [i] = 1 := by simp [nE, h]
theorem nE_one_false {i : Nat} (h : isE P ops i = false) : nE P ops [i] = 0 := by simp [nE, h]

/-- What a read comes to behind so many writing operations. -/
noncomputable def reads (ops : Array Oper) (m : Mat) (T : Tr AV) (v : Nat → AV) (pre : List Nat) (o : Oper) (x : PO) (h : Hp) : AV :=
  gdO o.guard ops (opnd m (dls ops v pre) T) (x.ev (opnd m (dls ops v pre) T) h.t)

/-- THE TRACE OF THE EVALUATION. -/
theorem dev_ok : ∀ (rest pre : List Nat) (v0 : Nat → AV) (hp0 : Nat → Hp) (rk : Rks) (T' : Tr AV) (h' : Hp), (pre ++ rest).Nodup →
    dev P ops m F tbl T rest (dls ops v0 pre) rk (hp0 (nE P ops pre)) = .nm T' h' →
    ∃ v hp, (∀ k ∈ pre, v k = v0 k) ∧ (∀ j, j ≤ nE P ops pre → hp j = hp0 j) ∧ h' = hp (nE P ops (pre ++ rest)) ∧ T' = fin m T (dls ops v (pre ++ rest)) ∧
      ∀ p2 i post, rest = p2 ++ i :: post → Cond P ops m F T v hp (pre ++ p2) i ∧
        (isE P ops i = true → ∀ e ∈ rk, tbl.has e.1 i = true ∨ e.2.1 (hp (nE P ops (pre ++ p2) + 1)) = e.2.2) ∧
        (∀ o x, ops[i]? = some o → spec P o = some (.p x) → x.heapy = true → ∀ p3 c p4, post = p3 ++ c :: p4 → isE P ops c = true →
          tbl.has i c = true ∨ reads ops m T v (pre ++ p2) o x (hp (nE P ops (pre ++ (p2 ++ i :: p3)) + 1)) = v i) := by
  intro rest
  induction rest with
  | nil =>
    intro pre v0 hp0 rk T' h' _ hd
    simp only [dev, R.nm.injEq] at hd
    refine ⟨v0, hp0, fun _ _ => rfl, fun _ _ => rfl, by rw [List.append_nil]; exact hd.2.symm, by rw [List.append_nil]; exact hd.1.symm, fun p2 i post e => by simp at e⟩
  | cons i rest ih =>
    intro pre v0 hp0 rk T' h' hnd hd
    have hne : R.nm T' h' ≠ .fl := fun e => (by cases e)
    have hi : i ∉ pre := fun hm => by
      rw [List.nodup_append] at hnd
      exact hnd.2.2 i hm i (by simp) rfl
    have hnd' : (pre ++ [i] ++ rest).Nodup := by simpa using hnd
    simp only [dev] at hd
    cases ho : ops[i]? with
    | none => rw [ho] at hd; cases hd
    | some o =>
      rw [ho] at hd
      simp only at hd
      cases hs : spec P o with
      | none => rw [hs] at hd; cases hd
      | some s =>
        rw [hs] at hd
        -- what comes behind, once the value and the heap are known
        have go : ∀ (u : AV) (h1 : Hp) (rk' : Rks) (dE : Nat), isE P ops i = decide (dE = 1) → dE ≤ 1 → (dE = 0 → h1 = hp0 (nE P ops pre)) →
            dev P ops m F tbl T rest (dstE ops i u ++ dls ops v0 pre) rk' h1 = .nm T' h' →
            ∃ v hp, (∀ k ∈ pre, v k = v0 k) ∧ v i = u ∧ (∀ j, j ≤ nE P ops pre → hp j = hp0 j) ∧ hp (nE P ops pre + dE) = h1 ∧
              h' = hp (nE P ops (pre ++ i :: rest)) ∧ T' = fin m T (dls ops v (pre ++ i :: rest)) ∧
              ∀ p2 k post, rest = p2 ++ k :: post → Cond P ops m F T v hp (pre ++ (i :: p2)) k ∧
                (isE P ops k = true → ∀ e ∈ rk', tbl.has e.1 k = true ∨ e.2.1 (hp (nE P ops (pre ++ (i :: p2)) + 1)) = e.2.2) ∧
                (∀ o x, ops[k]? = some o → spec P o = some (.p x) → x.heapy = true → ∀ p3 c p4, post = p3 ++ c :: p4 → isE P ops c = true →
                  tbl.has k c = true ∨ reads ops m T v (pre ++ (i :: p2)) o x (hp (nE P ops (pre ++ ((i :: p2) ++ k :: p3)) + 1)) = v k) := by
          intro u h1 rk' dE hE hle h0 hk
          have hn : nE P ops (pre ++ [i]) = nE P ops pre + dE := by
            rw [nE_append]
            cases he : isE P ops i with
            | true => rw [he] at hE; rw [nE_one_true he, of_decide_eq_true hE.symm]
            | false =>
              rw [he] at hE
              have := of_decide_eq_false hE.symm
              rw [nE_one_false he]; omega
          have e1 : dstE ops i u ++ dls ops v0 pre = dls ops (fun k => if k = i then u else v0 k) (pre ++ [i]) := by
            rw [dls_append]
            simp only [dls, List.nil_append, if_true]
            rw [dls_congr (v := fun k => if k = i then u else v0 k) (v' := v0) (l := pre) (fun k hk => if_neg (fun (e : k = i) => hi (e ▸ hk)))]
          have e2 : h1 = (fun j => if j = nE P ops pre + dE then h1 else hp0 j) (nE P ops (pre ++ [i])) := by rw [hn]; simp
          rw [e1, e2] at hk
          obtain ⟨v, hp, k1, k2, k3, k4, k5⟩ := ih (pre ++ [i]) (fun k => if k = i then u else v0 k) (fun j => if j = nE P ops pre + dE then h1 else hp0 j) rk' T' h' hnd' hk
          refine ⟨v, hp, fun k hk => ?_, ?_, fun j hj => ?_, ?_, by simpa using k3, by simpa using k4, fun p2 k post e => by simpa using k5 p2 k post e⟩
          · rw [k1 k (by simp [hk])]; exact if_neg (fun (e : k = i) => hi (e ▸ hk))
          · rw [k1 i (by simp), if_pos rfl]
          · rw [k2 j (by omega)]
            split
            · rename_i he
              have : dE = 0 := by omega
              rw [h0 this, he, this, Nat.add_zero]
            · rfl
          · rw [k2 _ (by omega)]; simp
        have dcong : ∀ {v : Nat → AV}, (∀ k ∈ pre, v k = v0 k) → dls ops v pre = dls ops v0 pre := fun h => dls_congr h
        cases s with
        | p x =>
          simp only at hd
          obtain ⟨b1, b2⟩ := bnd1_R hd hne
          have hE : isE P ops i = false := by simp [isE, spOf, ho, hs]
          obtain ⟨v, hp, g1, g2, g3, g4, g5, g6, g7⟩ := go _ _ _ 0 (by simp [hE]) (by omega) (fun _ => rfl) b2
          refine ⟨v, hp, g1, g3, g5, g6, fun p2 k post e => ?_⟩
          cases p2 with
          | nil =>
            simp only [List.nil_append, List.cons.injEq] at e
            obtain ⟨rfl, rfl⟩ := e
            rw [List.append_nil]
            refine ⟨⟨o, _, ho, hs, .inl ⟨x, rfl, by rw [g2]; exact b1, ?_⟩⟩, fun h => (by rw [hE] at h; cases h), fun o' x' ho' hs' hx p3 c p4 e hc => ?_⟩
            · rw [g2, dcong g1, g3 _ (Nat.le_refl _)]
            · rw [ho] at ho'
              cases ho'
              rw [hs] at hs'
              cases hs'
              have := (g7 p3 c p4 e).2.1 hc (i, fun h => gdO o.guard ops (opnd m (dls ops v0 pre) T) (x.ev (opnd m (dls ops v0 pre) T) h.t), _) (by rw [hx]; simp only [cond_true]; exact List.mem_cons_self)
              rcases this with h | h
              · exact .inl h
              · refine .inr ?_
                unfold reads
                rw [dcong g1, g2]
                exact h
          | cons y p2 =>
            simp only [List.cons_append, List.cons.injEq] at e
            obtain ⟨rfl, rfl⟩ := e
            obtain ⟨c1, c2, c3⟩ := g7 p2 k post rfl
            refine ⟨c1, fun hk e he => c2 hk e ?_, c3⟩
            cases x.heapy
            · exact he
            · exact List.mem_cons_of_mem _ he
        | _ =>
          simp only at hd
          obtain ⟨u, h1, b1, b2⟩ := bnd2_R hd hne
          obtain ⟨b3, b4⟩ := rkK_ok b2 hne
          have hE : isE P ops i = true := by simp [isE, spOf, ho, hs]
          obtain ⟨v, hp, g1, g2, g3, g4, g5, g6, g7⟩ := go _ _ _ 1 (by simp [hE]) (by omega) (fun h => (by cases h)) b3
          refine ⟨v, hp, g1, g3, g5, g6, fun p2 k post e => ?_⟩
          cases p2 with
          | nil =>
            simp only [List.nil_append, List.cons.injEq] at e
            obtain ⟨rfl, rfl⟩ := e
            rw [List.append_nil]
            refine ⟨⟨o, _, ho, hs, .inr ⟨fun x e => (by cases e), ?_⟩⟩, fun _ e he => ?_, fun o' x' ho' hs' hx p3 c p4 e hc => ?_⟩
            · rw [g2, dcong g1, g3 _ (Nat.le_refl _), g4]; exact b1
            · rw [g4]; exact b4 e he
            · rw [ho] at ho'
              cases ho'
              rw [hs] at hs'
              cases hs'
          | cons y p2 =>
            simp only [List.cons_append, List.cons.injEq] at e
            obtain ⟨rfl, rfl⟩ := e
            obtain ⟨c1, c2, c3⟩ := g7 p2 k post rfl
            exact ⟨c1, fun hk e he => c2 hk e he, c3⟩

end
end Go.Ev
