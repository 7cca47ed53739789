/- Regions that draw their order: every order comes to what the evaluation says. -/
import Derived.Test.YtkoiiafighfibaaGreatDoorEvR
set_option autoImplicit false
namespace Go.Ev

/-- The temporaries stand for the frame's, inside such a region. -/
structure DSt (σ : Sg) (N : Nat) (ρ : Operand → AV) (a : Act) : Prop where
  tmp : ∀ t, ρ (.tmp t) ≠ .bad → VR σ (ρ (.tmp t)) (a.tmps.getD t undef)
  defers : a.defers = []
  size : a.tmps.size = N

section
variable {P : Program} {ops : Array Oper} {m : Mat} {N : Nat} {F : Fs} {T : Tr AV} {L : List Nat} {v : Nat → AV} {hp : Nat → Hp}

theorem DSt.hρ {σ : Sg} {env : Env} {a : Act} (s : DSt σ N (opnd m env T) a) : Hρ σ a (opnd m env T) := by
  intro y hb
  cases y with
  | tmp t => exact s.tmp t hb
  | const v => exact toA_ok hb
  | global g => exact absurd rfl hb
  | func f =>
    simp only [opnd, Act.eval, VR]
    exact ⟨[], [], VRs.nil, VRs.nil, rfl⟩

theorem opnd_congr {e e' : Env} {t : Nat} (h : efind e t = efind e' t) : opnd m e T (.tmp t) = opnd m e' T (.tmp t) := by simp only [opnd, h]

theorem opnd_tmps {e e' : Env} {l : List Operand} (h : ∀ t ∈ tmpsOf l, efind e t = efind e' t) : ∀ y ∈ l, opnd m e T y = opnd m e' T y := by
  intro y hy
  cases y with
  | tmp t => exact opnd_congr (h t (mem_tmpsOf.2 hy))
  | _ => rfl

/-- A set of operations, one of whom is about to be taken. -/
structure At (P : Program) (ops : Array Oper) (N : Nat) (pre : List Nat) (i : Nat) (post : List Nat) (S : Nat → Bool) : Prop where
  chk : Chk P ops N (pre ++ i :: post)
  closed : ∀ k j, Anc ops k j → S j = true → S k = true
  ready : ∀ k, Anc ops k i → S k = true
  out : S i = false

section
variable {pre post : List Nat} {i : Nat} {S : Nat → Bool}

theorem At.before (A : At P ops N pre i post S) {k : Nat} (hk : k ∈ pre) (hS : S k = false) : compat P ops k i = true := by
  rcases A.chk.pair pre i post rfl k hk with h | h
  · have := A.ready k h; rw [hS] at this; cases this
  · exact h

theorem At.behind (A : At P ops N pre i post S) {k : Nat} (hk : k ∈ post) (hS : S k = true) : compat P ops i k = true := by
  obtain ⟨p, q, rfl⟩ := List.append_of_mem hk
  have := A.chk.pair (pre ++ i :: p) k q (by simp) i (by simp)
  rcases this with h | h
  · have := A.closed _ _ h hS; rw [A.out] at this; cases this
  · exact h

theorem compat_apart {k i t : Nat} (h : compat P ops k i = true) (hd : dstOf ops k = some t) : t ∉ looksOf P ops i := by
  simp only [compat, Bool.and_eq_true] at h
  have := h.1
  simp only [apartI, hd, Bool.not_eq_true'] at this
  intro hm; rw [memN_iff.2 hm] at this; cases this
theorem compat_apart' {k i t : Nat} (h : compat P ops k i = true) (hd : dstOf ops i = some t) : t ∉ looksOf P ops k := by
  simp only [compat, Bool.and_eq_true] at h
  have := h.2.1
  simp only [apartI, hd, Bool.not_eq_true'] at this
  intro hm; rw [memN_iff.2 hm] at this; cases this
theorem compat_dne {k i t : Nat} (h : compat P ops k i = true) (hd : dstOf ops i = some t) : dstOf ops k ≠ some t := by
  intro hk
  simp only [compat, Bool.and_eq_true] at h
  have := h.2.2.1
  simp [dneI, hd, hk] at this
theorem compat_E {k i : Nat} (h : compat P ops k i = true) (hk : isE P ops k = true) : isE P ops i = false ∧ isH P ops i = false := by
  simp only [compat, Bool.and_eq_true, Bool.not_eq_true', hk, Bool.true_and, Bool.or_eq_false_iff] at h
  exact h.2.2.2

theorem At.notin (A : At P ops N pre i post S) : i ∉ pre ∧ i ∉ post := by
  refine ⟨A.chk.fresh pre i post rfl, fun hm => ?_⟩
  obtain ⟨p, q, rfl⟩ := List.append_of_mem hm
  exact A.chk.fresh (pre ++ i :: p) i q (by simp) (by simp)

theorem At.filter (A : At P ops N pre i post S) : (pre ++ i :: post).filter S = pre.filter S ++ post.filter S := by
  rw [List.filter_append, List.filter_cons_of_neg (by simp [A.out])]

/-- What the operation looks at, it finds as the evaluation found it. -/
theorem At.looks (A : At P ops N pre i post S) {t : Nat} (ht : t ∈ looksOf P ops i) : efind (dls ops v ((pre ++ i :: post).filter S)) t = efind (dls ops v pre) t := by
  rw [A.filter, dls_append, efind_append]
  rw [efind_dls_none (l := post.filter S) (fun k hk hd => ?_)]
  · exact efind_dls_filter fun k hk hS hd => compat_apart (A.before hk hS) hd ht
  · rw [List.mem_filter] at hk
    exact compat_apart' (A.behind hk.1 hk.2) hd ht

/-- The operation added. -/
def add (S : Nat → Bool) (i : Nat) : Nat → Bool := fun k => S k || decide (k = i)

theorem At.filter' (A : At P ops N pre i post S) : (pre ++ i :: post).filter (add S i) = pre.filter S ++ i :: post.filter S := by
  have h : ∀ l : List Nat, i ∉ l → l.filter (add S i) = l.filter S := by
    intro l hl
    refine List.filter_congr fun k hk => ?_
    have : k ≠ i := fun e => hl (e ▸ hk)
    simp [add, this]
  rw [List.filter_append, List.filter_cons_of_pos (by simp [add]), h _ A.notin.1, h _ A.notin.2]

theorem At.puts (A : At P ops N pre i post S) (t : Nat) :
    efind (dls ops v ((pre ++ i :: post).filter (add S i))) t = if dstOf ops i = some t then some (v i) else efind (dls ops v ((pre ++ i :: post).filter S)) t := by
  rw [A.filter', A.filter, dls_append, dls_append]
  simp only [dls, efind_append]
  by_cases hd : dstOf ops i = some t
  · rw [if_pos hd, efind_dls_none (l := post.filter S) (fun k hk hk' => ?_), efind_dstE_eq hd]
    rw [List.mem_filter] at hk
    exact compat_dne (A.behind hk.1 hk.2) hk' hd
  · rw [if_neg hd, efind_dstE_ne hd]
    cases efind (dls ops v (post.filter S)) t <;> rfl

/-- How many writing operations have been taken: an operation that writes finds what it found. -/
theorem At.countE (A : At P ops N pre i post S) (hi : isE P ops i = true) : nE P ops ((pre ++ i :: post).filter S) = nE P ops pre := by
  rw [A.filter, nE_append]
  have h1 : nE P ops (post.filter S) = 0 := by
    unfold nE
    rw [List.length_eq_zero_iff, List.filter_eq_nil_iff]
    intro k hk hE
    rw [List.mem_filter] at hk
    have := (compat_E (A.behind hk.1 hk.2) hi).1
    rw [this] at hE; cases hE
  have h2 : nE P ops (pre.filter S) = nE P ops pre := by
    unfold nE
    rw [List.filter_filter]
    congr 1
    refine List.filter_congr fun k hk => ?_
    cases hE : isE P ops k with
    | false => simp
    | true =>
      cases hS : S k with
      | true => simp
      | false =>
        have := (compat_E (A.before hk hS) hE).1
        rw [this] at hi; cases hi
  rw [h1, h2, Nat.add_zero]

theorem last_of (p : Nat → Bool) (l : List Nat) : l.filter p = [] ∨ ∃ a c b, l = a ++ c :: b ∧ p c = true ∧ b.filter p = [] := by
  induction l with
  | nil => exact .inl rfl
  | cons x l ih =>
    rcases ih with h | ⟨a, c, b, rfl, h1, h2⟩
    · cases hx : p x with
      | true => exact .inr ⟨[], x, l, rfl, hx, h⟩
      | false => exact .inl (by rw [List.filter_cons_of_neg (by simp [hx]), h])
    · exact .inr ⟨x :: a, c, b, rfl, h1, h2⟩

/-- An operation that reads finds the heap as it was where it was evaluated, or as it was behind a later writing operation that may come before it. -/
theorem At.countH (A : At P ops N pre i post S) (hE : isE P ops i = false) (hi : isH P ops i = true) :
    nE P ops ((pre ++ i :: post).filter S) = nE P ops pre ∨
    ∃ p3 c p4, post = p3 ++ c :: p4 ∧ isE P ops c = true ∧ S c = true ∧ nE P ops ((pre ++ i :: post).filter S) = nE P ops (pre ++ i :: p3) + 1 := by
  have h2 : nE P ops (pre.filter S) = nE P ops pre := by
    unfold nE
    rw [List.filter_filter]
    congr 1
    refine List.filter_congr fun k hk => ?_
    cases hE : isE P ops k with
    | false => simp
    | true =>
      cases hS : S k with
      | true => simp
      | false =>
        have := (compat_E (A.before hk hS) hE).2
        rw [this] at hi; cases hi
  rw [A.filter, nE_append, h2]
  rcases last_of (fun k => isE P ops k && S k) post with h | ⟨p3, c, p4, rfl, h3, h4⟩
  · left
    have : nE P ops (post.filter S) = 0 := by
      unfold nE
      rw [List.filter_filter, h]; rfl
    omega
  · right
    simp only [Bool.and_eq_true] at h3
    refine ⟨p3, c, p4, rfl, h3.1, h3.2, ?_⟩
    have e1 : nE P ops ((p3 ++ c :: p4).filter S) = nE P ops p3 + 1 := by
      unfold nE
      rw [List.filter_filter, List.filter_append, List.filter_cons_of_pos (by simp [h3]), h4, List.length_append]
      congr 2
      refine List.filter_congr fun k hk => ?_
      cases hEk : isE P ops k with
      | false => simp
      | true =>
        obtain ⟨q, r, rfl⟩ := List.append_of_mem hk
        have := A.chk.pair (pre ++ i :: (q ++ k :: r)) c p4 (by simp) k (by simp)
        rcases this with h | h
        · simp [A.closed _ _ h h3.2]
        · have := (compat_E h hEk).1
          rw [this] at h3; cases h3.1
    have e2 : nE P ops (i :: p3) = nE P ops p3 := by
      unfold nE
      rw [List.filter_cons_of_neg (by simp [hE])]
    rw [e1, nE_append, e2]
    omega

theorem At.add_P (A : At P ops N pre i post S) (hi : isE P ops i = false) : nE P ops ((pre ++ i :: post).filter (add S i)) = nE P ops ((pre ++ i :: post).filter S) := by
  rw [A.filter, A.filter', nE_append, nE_append]
  simp only [nE, List.filter_cons_of_neg (show ¬ isE P ops i = true by simp [hi])]
theorem At.add_E (A : At P ops N pre i post S) (hi : isE P ops i = true) : nE P ops ((pre ++ i :: post).filter (add S i)) = nE P ops ((pre ++ i :: post).filter S) + 1 := by
  rw [A.filter, A.filter', nE_append, nE_append]
  simp only [nE, List.filter_cons_of_pos hi, List.length_cons]
  omega

/-- Behind the operation, its value lies where it says. -/
theorem At.put (A : At P ops N pre i post S) {σ τ : Sg} {a : Act} {cv : Value} {o : Oper} (ho : ops[i]? = some o) (s : DSt σ N (opnd m (dls ops v ((pre ++ i :: post).filter S)) T) a)
    (hl : Sg.le σ τ) (hv : VR τ (v i) cv) : DSt τ N (opnd m (dls ops v ((pre ++ i :: post).filter (add S i))) T) (a.put o.dst cv) := by
  have hd : dstOf ops i = o.dst := by simp [dstOf, ho]
  obtain ⟨o', ho', _, hN⟩ := A.chk.at_ pre i post rfl
  rw [ho] at ho'
  cases ho'
  refine ⟨fun t hb => ?_, ?_, ?_⟩
  · have e := A.puts (v := v) t
    rw [hd] at e
    by_cases ht : o.dst = some t
    · rw [if_pos ht] at e
      have hlt := hN t ht
      rw [ht]
      simp only [opnd, e, Act.put]
      rw [Array.getD_eq_getD_getElem?]
      have hs : t < a.tmps.size := by rw [s.size]; exact hlt
      simp [hs, hv]
    · rw [if_neg ht] at e
      rw [opnd_congr e] at hb ⊢
      have := VR.mono hl _ _ (s.tmp t hb)
      have hg : (a.put o.dst cv).tmps.getD t undef = a.tmps.getD t undef := by
        cases hd' : o.dst with
        | none => rfl
        | some d =>
          have hne : d ≠ t := fun e => ht (by rw [hd', e])
          simp only [Act.put, Array.getD_eq_getD_getElem?]
          rw [Array.getElem?_setIfInBounds_ne hne]
      rw [hg]; exact this
  · cases o.dst <;> exact s.defers
  · cases o.dst with
    | none => exact s.size
    | some d => simp [Act.put, s.size]

theorem guardV_congr {ρ ρ' : Operand → AV} {j : Nat} (h : ∀ d, dstOf ops j = some d → ρ (.tmp d) = ρ' (.tmp d)) : guardV ops ρ j = guardV ops ρ' j := by
  unfold guardV
  cases hd : (ops[j]?).bind (·.dst) with
  | none => rfl
  | some d => exact h d hd
theorem gdO_congr {g : Option (Nat × Bool)} {ρ ρ' : Operand → AV} {e e' : AV} (hg : ∀ j want d, g = some (j, want) → dstOf ops j = some d → ρ (.tmp d) = ρ' (.tmp d)) (he : e = e') :
    gdO g ops ρ e = gdO g ops ρ' e' := by
  subst he
  cases g with
  | none => rfl
  | some jw => simp only [gdO]; rw [guardV_congr fun d hd => hg jw.1 jw.2 d rfl hd]
theorem gdRO_congr {g : Option (Nat × Bool)} {ρ ρ' : Operand → AV} {e e' : RH} {h : Hp} (hg : ∀ j want d, g = some (j, want) → dstOf ops j = some d → ρ (.tmp d) = ρ' (.tmp d)) (he : e = e') :
    gdRO g ops ρ e h = gdRO g ops ρ' e' h := by
  subst he
  cases g with
  | none => rfl
  | some jw => simp only [gdRO]; rw [guardV_congr fun d hd => hg jw.1 jw.2 d rfl hd]

def guardTmp (ops : Array Oper) (o : Oper) : List Nat := match o.guard with | some (j, _) => (dstOf ops j).toList | none => []

/-- What is asked of one step. -/
theorem At.step (A : At P ops N pre i post S) (hF : Sound P F) {σ0 : Sg} {h0 : Hp} {w0 : World} {Q : Exit → Act → World → Prop} {K : Act → World → Prop}
    (hc : Cond P ops m F T v hp pre i)
    (hr : ∀ o x, ops[i]? = some o → spec P o = some (.p x) → x.heapy = true → ∀ p3 c p4, post = p3 ++ c :: p4 → isE P ops c = true →
          Anc ops i c ∨ reads ops m T v pre o x (hp (nE P ops (pre ++ i :: p3) + 1)) = v i)
    {σ : Sg} {a : Act} {w : World} (r : Rel σ (hp (nE P ops ((pre ++ i :: post).filter S))) w) (st : Stp σ0 h0 w0 σ (hp (nE P ops ((pre ++ i :: post).filter S))) w)
    (s : DSt σ N (opnd m (dls ops v ((pre ++ i :: post).filter S)) T) a)
    (hK : ∀ a' w' σ', Rel σ' (hp (nE P ops ((pre ++ i :: post).filter (add S i)))) w' → Stp σ0 h0 w0 σ' (hp (nE P ops ((pre ++ i :: post).filter (add S i)))) w' →
      DSt σ' N (opnd m (dls ops v ((pre ++ i :: post).filter (add S i))) T) a' → K a' w') : wpOp P ops Q i K a w := by
  obtain ⟨o, sp, ho, hs, hcase⟩ := hc
  unfold wpOp
  rw [ho]
  simp only
  have hlook : looksOf P ops i = tmpsOf sp.looks ++ guardTmp ops o := by simp only [looksOf, ho, hs]; rfl
  have hρ : ∀ y ∈ sp.looks, opnd m (dls ops v ((pre ++ i :: post).filter S)) T y = opnd m (dls ops v pre) T y :=
    opnd_tmps fun t ht => A.looks (by rw [hlook]; exact List.mem_append_left _ ht)
  have hg : ∀ j want d, o.guard = some (j, want) → dstOf ops j = some d → opnd m (dls ops v ((pre ++ i :: post).filter S)) T (.tmp d) = opnd m (dls ops v pre) T (.tmp d) := by
    intro j want d h1 h2
    refine opnd_congr (A.looks ?_)
    rw [hlook]
    simp [guardTmp, h1, h2]
  have undefV : ∀ σ, VR σ (.tup []) undef := fun σ => by simp only [VR, VRs]; exact ⟨[], rfl, rfl⟩
  rcases hcase with ⟨x, rfl, hb, hv⟩ | ⟨hnp, hv⟩
  · -- an operation that looks
    have hE : isE P ops i = false := by simp [isE, spOf, ho, hs]
    have hval : v i = gdO o.guard ops (opnd m (dls ops v ((pre ++ i :: post).filter S)) T) (x.ev (opnd m (dls ops v ((pre ++ i :: post).filter S)) T) (hp (nE P ops ((pre ++ i :: post).filter S))).t) := by
      rw [gdO_congr (ρ' := opnd m (dls ops v pre) T) hg (x.ev_congr hρ)]
      cases hx : x.heapy with
      | false => rw [hv]; exact gdO_congr (fun _ _ _ _ _ => rfl) (x.ev_still hx)
      | true =>
        have hH : isH P ops i = true := by simp [isH, spOf, ho, hs, hx]
        rcases A.countH hE hH with e | ⟨p3, c, p4, e1, e2, e3, e4⟩
        · rw [e]; exact hv
        · rw [e4]
          rcases hr o x ho hs hx p3 c p4 e1 e2 with h | h
          · have := A.closed _ _ h e3; rw [A.out] at this; cases this
          · exact h.symm
    have fin : ∀ {cv : Value}, VR σ (v i) cv → K (a.put o.dst cv) w := fun hcv => by
      have e := A.add_P hE
      exact hK _ _ σ (by rw [e]; exact r) (by rw [e]; exact st) (A.put ho s (Sg.le_refl σ) hcv)
    have run : v i = x.ev (opnd m (dls ops v ((pre ++ i :: post).filter S)) T) (hp (nE P ops ((pre ++ i :: post).filter S))).t → o.wp P a w K Q := by
      intro hv'
      obtain ⟨cv, e1, e2⟩ := opP_ok (P := P) r s.hρ hs (by rw [← hv']; exact hb)
      unfold Oper.wp
      rw [e1]
      exact fin (by rw [hv']; exact e2)
    cases hgd : o.guard with
    | none =>
      have hw : Region.wanted o (yielded ops a.tmps) = true := by simp [Region.wanted, hgd]
      rw [if_pos hw]
      rw [hgd] at hval
      exact .inl (run hval)
    | some jw =>
      obtain ⟨j, want⟩ := jw
      obtain ⟨g1, g2⟩ := wanted_tmp (ops := ops) s.tmp hgd
      rw [hgd] at hval
      simp only [gdO] at hval
      cases hgv : guardV ops (opnd m (dls ops v ((pre ++ i :: post).filter S)) T) j <;> rw [hgv] at hval <;> simp only [gdE] at hval <;> (try exact absurd hval hb)
      · rename_i b
        rw [g1 b hgv]
        cases hq : beqB b want with
        | true => rw [hq] at hval; exact .inl (run hval)
        | false => rw [hq] at hval; exact fin (by rw [hval]; exact undefV σ)
      · rw [g2 _ hgv]
        exact fin (by rw [hval]; exact undefV σ)
  · -- an operation that writes, or a call
    have hE : isE P ops i = true := by
      simp only [isE, spOf, ho, Option.bind_some, hs]
      cases sp <;> first | rfl | exact absurd rfl (hnp _)
    have hn := A.countE hE
    have hn' := A.add_E hE
    rw [hn] at r st hn'
    rw [hn'] at hK
    rw [gdRO_congr (ρ' := opnd m (dls ops v ((pre ++ i :: post).filter S)) T) (fun j want d h1 h2 => (hg j want d h1 h2).symm) (effR_congr sp fun y hy => (hρ y hy).symm)] at hv
    have fin : ∀ {cv : Value} {w' : World} {σ' : Sg}, Rel σ' (hp (nE P ops pre + 1)) w' → Stp σ (hp (nE P ops pre)) w σ' (hp (nE P ops pre + 1)) w' → VR σ' (v i) cv → K (a.put o.dst cv) w' :=
      fun k1 k2 k3 => hK _ _ _ k1 (st.trans k2) (A.put ho s k2.le k3)
    have run : effR F (opnd m (dls ops v ((pre ++ i :: post).filter S)) T) (hp (nE P ops pre)) sp = .ok (v i) (hp (nE P ops pre + 1)) → o.wp P a w K Q := by
      intro hv'
      unfold Oper.wp
      cases sp with
      | p x => exact absurd rfl (hnp x)
      | e x =>
        obtain ⟨n, w', σ', e1, e2, e3, e4⟩ := opE_ok (P := P) r s.hρ hs hv'
        rw [e1]
        rcases e4 with ⟨cv, rfl, e4⟩ | ⟨rfl, e4⟩
        · exact fin e2 e3 e4
        · exact fin e2 e3 (by rw [e4]; exact undefV σ')
      | c f args =>
        obtain ⟨g, cargs, e1, e2⟩ := call_ok hF r s.hρ hs (.inl ⟨_, _, rfl⟩) hv'
        rw [e1]
        refine Calls.mono e2 ?_
        rintro e w' ⟨σ', cv, rfl, k1, k2, k3⟩
        exact fin k1 k2 k3
      | cv f args =>
        obtain ⟨g, cargs, e1, e2⟩ := call_ok hF r s.hρ hs (.inr ⟨_, _, rfl⟩) hv'
        rw [e1]
        refine Calls.mono e2 ?_
        rintro e w' ⟨σ', cv, rfl, k1, k2, k3⟩
        exact fin k1 k2 k3
    have skip : RH.ok (.tup []) (hp (nE P ops pre)) = .ok (v i) (hp (nE P ops pre + 1)) → K (a.put o.dst undef) w := by
      intro he
      simp only [RH.ok.injEq] at he
      obtain ⟨h1, h2⟩ := he
      exact hK _ _ σ (by rw [← h2]; exact r) (by rw [← h2]; exact st) (A.put ho s (Sg.le_refl σ) (by rw [← h1]; exact undefV σ))
    cases hgd : o.guard with
    | none =>
      have hw : Region.wanted o (yielded ops a.tmps) = true := by simp [Region.wanted, hgd]
      rw [if_pos hw]
      rw [hgd] at hv
      exact .inl (run hv)
    | some jw =>
      obtain ⟨j, want⟩ := jw
      obtain ⟨g1, g2⟩ := wanted_tmp (ops := ops) s.tmp hgd
      rw [hgd] at hv
      simp only [gdRO] at hv
      cases hgv : guardV ops (opnd m (dls ops v ((pre ++ i :: post).filter S)) T) j <;> rw [hgv] at hv <;> simp only [gdR] at hv <;> (try contradiction)
      · rename_i b
        rw [g1 b hgv]
        cases hq : beqB b want with
        | true => rw [hq] at hv; exact .inl (run hv)
        | false => rw [hq] at hv; exact skip hv
      · rw [g2 _ hgv]
        exact skip hv

end
end
end Go.Ev
