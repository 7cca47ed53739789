/- Regions that draw their order, whole. -/
import Derived.Test.YtkoiiafighfibaaGreatDoorEvS
set_option autoImplicit false
namespace Go.Ev

section
variable {P : Program} {ops : Array Oper} {m : Mat} {N : Nat} {F : Fs} {T : Tr AV} {L : List Nat} {v : Nat → AV} {hp : Nat → Hp}

/-- Which operations have been taken. -/
def took (listed : Array Bool) (k : Nat) : Bool := listed.getD k false

theorem took_set {listed : Array Bool} {i : Nat} (hi : i < listed.size) : took (listed.setIfInBounds i true) = add (took listed) i := by
  funext k
  simp only [took, add]
  by_cases h : k = i
  · subst h; simp [hi]
  · rw [getD_set_ne false (Ne.symm h)]; simp [h]

theorem filter_len_add {S : Nat → Bool} {i : Nat} : ∀ {l : List Nat}, i ∈ l → S i = false → ((l.filter fun k => !add S i k).length < (l.filter fun k => !S k).length) := by
  have mono : ∀ l : List Nat, (l.filter fun k => !add S i k).length ≤ (l.filter fun k => !S k).length := by
    intro l
    induction l with
    | nil => simp
    | cons x l ih =>
      by_cases hx : x = i
      · subst hx
        rw [List.filter_cons_of_neg (by simp [add])]
        by_cases hs : S x = true
        · rw [List.filter_cons_of_neg (by simp [hs])]; exact ih
        · rw [List.filter_cons_of_pos (by simp [hs]), List.length_cons]; omega
      · by_cases hs : S x = true
        · rw [List.filter_cons_of_neg (by simp [add, hs]), List.filter_cons_of_neg (by simp [hs])]; exact ih
        · rw [List.filter_cons_of_pos (by simp [add, hs, hx]), List.filter_cons_of_pos (by simp [hs])]; simpa using ih
  intro l
  induction l with
  | nil => intro h; cases h
  | cons x l ih =>
    intro hm hs
    by_cases hx : x = i
    · subst hx
      rw [List.filter_cons_of_neg (by simp [add]), List.filter_cons_of_pos (by simp [hs]), List.length_cons]
      exact Nat.lt_succ_of_le (mono l)
    · have hm' : i ∈ l := by
        rcases List.mem_cons.1 hm with h | h
        · exact absurd h.symm hx
        · exact h
      by_cases hx' : S x = true
      · rw [List.filter_cons_of_neg (by simp [add, hx']), List.filter_cons_of_neg (by simp [hx'])]; exact ih hm' hs
      · rw [List.filter_cons_of_pos (by simp [add, hx', hx]), List.filter_cons_of_pos (by simp [hx']), List.length_cons, List.length_cons]
        exact Nat.succ_lt_succ (ih hm' hs)

/-- Where none is ready, all have been taken. -/
theorem all_of_ready (C : Chk P ops N L) {listed : Array Bool} (hr : Region.ready .any ops listed = []) (hz : listed.size = ops.size) : ∀ i ∈ L, took listed i = true := by
  have key : ∀ (n : Nat) (pre : List Nat) (i : Nat) (post : List Nat), pre.length = n → L = pre ++ i :: post → took listed i = true := by
    intro n
    induction n using Nat.strongRecOn with
    | _ n ih =>
      intro pre i post hn e
      cases hq : took listed i with
      | true => rfl
      | false =>
        exfalso
        obtain ⟨o, ho, he, _⟩ := C.at_ pre i post e
        have : i ∈ Region.ready .any ops listed := by
          rw [mem_ready]
          refine ⟨?_, o, ho, fun x hx hb => ?_⟩
          · have hlt : i < listed.size := by rw [hz]; exact (Array.getElem?_eq_some_iff.1 ho).1
            simp only [took, Array.getD_eq_getD_getElem?] at hq ⊢
            rw [Array.getElem?_eq_getElem hlt] at hq ⊢
            exact hq
          · obtain ⟨p, q, rfl⟩ := List.append_of_mem (he x hx hb)
            exact ih p.length (by simp only [List.length_append, List.length_cons] at hn; omega) p x.on (q ++ i :: post) rfl (by rw [e]; simp)
        rw [hr] at this
        cases this
  intro i hi
  obtain ⟨p, q, rfl⟩ := List.append_of_mem hi
  exact key _ p i q rfl rfl

/-- EVERY ORDER. -/
theorem wpAny_dev (C : Chk P ops N L) (hF : Sound P F) {σ0 : Sg} {h0 : Hp} {w0 : World} {Q : Exit → Act → World → Prop}
    (hc : ∀ pre i post, L = pre ++ i :: post → Cond P ops m F T v hp pre i ∧ ∀ o x, ops[i]? = some o → spec P o = some (.p x) → x.heapy = true → ∀ p3 c p4, post = p3 ++ c :: p4 → isE P ops c = true →
          Anc ops i c ∨ reads ops m T v pre o x (hp (nE P ops (pre ++ i :: p3) + 1)) = v i)
    (hQ : ∀ σ a w, Rel σ (hp (nE P ops L)) w → Stp σ0 h0 w0 σ (hp (nE P ops L)) w → DSt σ N (opnd m (dls ops v L) T) a → Q .normal a w) :
    ∀ (fuel : Nat) (listed : Array Bool) (a : Act) (w : World) (σ : Sg), (L.filter fun k => !took listed k).length ≤ fuel → listed.size = ops.size →
      (∀ k j, Anc ops k j → took listed j = true → took listed k = true) →
      Rel σ (hp (nE P ops (L.filter (took listed)))) w → Stp σ0 h0 w0 σ (hp (nE P ops (L.filter (took listed)))) w → DSt σ N (opnd m (dls ops v (L.filter (took listed))) T) a →
      wpAny P .any ops Q fuel listed a w := by
  intro fuel
  have done : ∀ (listed : Array Bool) (a : Act) (w : World) (σ : Sg), listed.size = ops.size →
      Rel σ (hp (nE P ops (L.filter (took listed)))) w → Stp σ0 h0 w0 σ (hp (nE P ops (L.filter (took listed)))) w → DSt σ N (opnd m (dls ops v (L.filter (took listed))) T) a →
      Region.ready .any ops listed = [] → Q .normal a w := by
    intro listed a w σ hz r st s hr
    have hall : L.filter (took listed) = L := List.filter_eq_self.2 (all_of_ready C hr hz)
    rw [hall] at r st s
    exact hQ σ a w r st s
  induction fuel with
  | zero =>
    intro listed a w σ hf hz hcl r st s
    have hnone : Region.ready .any ops listed = [] := by
      rw [List.eq_nil_iff_forall_not_mem]
      intro i hi
      obtain ⟨h1, o, ho, _⟩ := mem_ready.1 hi
      have hlt : i < ops.size := (Array.getElem?_eq_some_iff.1 ho).1
      have h2 : took listed i = false := by
        have hlt' : i < listed.size := by rw [hz]; exact hlt
        simp only [took, Array.getD_eq_getD_getElem?] at h1 ⊢
        rw [Array.getElem?_eq_getElem hlt'] at h1 ⊢
        exact h1
      have : i ∈ L.filter fun k => !took listed k := List.mem_filter.2 ⟨C.all i hlt, by simp [h2]⟩
      rw [List.length_eq_zero_iff.1 (Nat.le_zero.1 hf)] at this
      cases this
    exact ⟨hnone, done listed a w σ hz r st s hnone⟩
  | succ fuel ih =>
    intro listed a w σ hf hz hcl r st s
    refine ⟨done listed a w σ hz r st s, fun i hi => ?_⟩
    obtain ⟨h1, o, ho, hready⟩ := mem_ready.1 hi
    have hlt : i < ops.size := (Array.getElem?_eq_some_iff.1 ho).1
    have h2 : took listed i = false := by
      have hlt' : i < listed.size := by rw [hz]; exact hlt
      simp only [took, Array.getD_eq_getD_getElem?] at h1 ⊢
      rw [Array.getElem?_eq_getElem hlt'] at h1 ⊢
      exact h1
    have hanc : ∀ k, Anc ops k i → took listed k = true := by
      intro k h
      cases h with
      | one ho' he hb => rw [ho] at ho'; cases ho'; exact hready _ he hb
      | step h ho' he hb => rw [ho] at ho'; cases ho'; exact hcl _ _ h (hready _ he hb)
    obtain ⟨pre, post, e⟩ := List.append_of_mem (C.all i hlt)
    have A : At P ops N pre i post (took listed) := ⟨e ▸ C, hcl, hanc, h2⟩
    obtain ⟨c1, c2⟩ := hc pre i post e
    have hset : took (listed.setIfInBounds i true) = add (took listed) i := took_set (by rw [hz]; exact hlt)
    rw [e] at r st s
    refine A.step hF c1 c2 r st s fun a' w' σ' r' st' s' => ?_
    refine ih _ a' w' σ' ?_ (by simp [hz]) (fun k j h hj => ?_) ?_ ?_ ?_
    · rw [hset]
      have := filter_len_add (S := took listed) (C.all i hlt) h2
      omega
    · rw [hset] at hj ⊢
      simp only [add, Bool.or_eq_true, decide_eq_true_eq] at hj ⊢
      rcases hj with hj | rfl
      · exact .inl (hcl k j h hj)
      · exact .inl (hanc k h)
    · rw [hset, e]; exact r'
    · rw [hset, e]; exact st'
    · rw [hset, e]; exact s'

theorem fin_get (hm : mok m = true) {t : Nat} {p : Ps} (hp : mfind m t = some p) : ∀ env : Env, (fin m T env).get .bad p = match efind env t with | some v => v | none => T.get .bad p
  | [] => rfl
  | (u, x) :: env => by
    simp only [fin, efind, beq_cond]
    cases hu : mfind m u with
    | none =>
      simp only
      rw [fin_get hm hp env, if_neg (fun e => by subst e; rw [hu] at hp; cases hp)]
    | some q =>
      simp only
      by_cases e : u = t
      · subst e
        rw [hu] at hp
        cases hp
        rw [Tr.get_set_same, if_pos rfl]
      · rw [if_neg e, Tr.get_set_ne _ _ _ _ _ (fun hq => e (mfind_inj hm u t q hu (by subst hq; exact hp))), fin_get hm hp env]

/-- A region that draws its order: the check, and the evaluation in one order. -/
noncomputable def denDraw (P : Program) (m : Mat) (N : Nat) (lin : Array Oper → List Nat) (F : Fs) (ops : Array Oper) : M := fun T h =>
  bif chk P ops N (lin ops) then dev P ops m F (masks ops (lin ops) []) T (lin ops) [] [] h else .fl

theorem dev_nm {tbl : Masks} : ∀ (rest : List Nat) (env : Env) (rk : Rks) (h : Hp) (r : R), dev P ops m F tbl T rest env rk h = r → r ≠ .fl → ∃ T' h', r = .nm T' h' := by
  intro rest
  induction rest with
  | nil => intro env rk h r hr _; exact ⟨_, _, hr.symm⟩
  | cons i rest ih =>
    intro env rk h r hr hne
    simp only [dev] at hr
    cases ho : ops[i]? with
    | none => rw [ho] at hr; exact absurd hr.symm hne
    | some o =>
      rw [ho] at hr
      simp only at hr
      cases hs : spec P o with
      | none => rw [hs] at hr; exact absurd hr.symm hne
      | some s =>
        rw [hs] at hr
        cases s with
        | p x => exact ih _ _ _ _ (bnd1_R hr hne).2 hne
        | _ =>
          obtain ⟨u, h1, b1, b2⟩ := bnd2_R hr hne
          exact ih _ _ _ _ (rkK_ok b2 hne).1 hne

/-- WHAT IS ASKED OF SUCH REGIONS, IS SO. -/
theorem denDraw_ok (hm : mok m = true) (hmix : P.follows .mixedOrders = true) (lin : Array Oper → List Nat) (hF : Sound P F) : DrawOk P m N (denDraw P m N lin F) := by
  intro ops T h r hr hne id σ0 h0 w0 σ a w rel st s
  unfold denDraw at hr
  cases hk : chk P ops N (lin ops) with
  | false => rw [hk] at hr; exact absurd hr.symm hne
  | true =>
    rw [hk] at hr
    simp only [cond_true] at hr
    obtain ⟨T', h', rfl⟩ := dev_nm _ _ _ _ _ hr hne
    have C := chk_ok hk
    have hnd : (lin ops).Nodup := by
      have : ∀ l : List Nat, (∀ pre i post, l = pre ++ i :: post → i ∉ pre) → l.Nodup := by
        intro l
        induction l with
        | nil => intro _; exact List.nodup_nil
        | cons x l ih =>
          intro hx
          refine List.nodup_cons.2 ⟨fun hm => ?_, ih fun pre i post e hi => hx (x :: pre) i post (by rw [e]; rfl) (List.mem_cons_of_mem _ hi)⟩
          obtain ⟨p, q, rfl⟩ := List.append_of_mem hm
          exact hx (x :: p) x q rfl List.mem_cons_self
      exact this _ C.fresh
    obtain ⟨v, hp, k1, k2, k3, k4, k5⟩ := dev_ok (lin ops) [] (fun _ => .bad) (fun _ => h) [] T' h' (by simpa using hnd) hr
    simp only [List.nil_append] at k3 k4 k5
    have hh0 : hp 0 = h := k2 0 (Nat.zero_le _)
    refine wp_region_any hmix ?_
    have hz0 : took (Array.replicate ops.size false) = fun _ => false := by
      funext k
      simp only [took, Array.getD_eq_getD_getElem?, Array.getElem?_replicate]
      split <;> rfl
    have hf0 : (lin ops).filter (took (Array.replicate ops.size false)) = [] := by rw [hz0]; simp
    have hm' := masks_ok (ops := ops) (lin ops) [] (fun k i h => by simp [Masks.has, maskOf] at h)
    refine wpAny_dev (L := lin ops) (v := v) (hp := hp) (m := m) (T := T) C hF (σ0 := σ0) (h0 := h0) (w0 := w0) (fun pre i post e => ?_) ?_ ops.size _ a _ σ ?_ (by simp) ?_ ?_ ?_ ?_
    · obtain ⟨c1, _, c3⟩ := k5 pre i post e
      exact ⟨c1, fun o x ho hs hx p3 c p4 e' hc => (c3 o x ho hs hx p3 c p4 e' hc).imp (hm' _ _) (fun h => h)⟩
    · intro σ1 a1 w1 r1 st1 s1
      refine ⟨rfl, σ1, by rw [k3]; exact r1, by rw [k3]; exact st1, fun t hb => ?_, s1.defers, s1.size, fun t u he => by simp [efind] at he⟩
      have e : opnd m [] T' (.tmp t) ≠ .bad → opnd m [] T' (.tmp t) = opnd m (dls ops v (lin ops)) T (.tmp t) := by
        intro hb
        simp only [opnd, efind] at hb ⊢
        cases hf : mfind m t with
        | none => rw [hf] at hb; exact absurd rfl hb
        | some p =>
          simp only
          rw [k4, fin_get hm hf]
          cases efind (dls ops v (lin ops)) t <;> rfl
      have := e hb
      rw [this] at hb ⊢
      exact s1.tmp t hb
    · rw [hz0]
      exact Nat.le_trans (List.length_filter_le _ _) C.len
    · intro k j _ hj
      rw [hz0] at hj; cases hj
    · rw [hf0]
      simp only [nE, List.filter_nil, List.length_nil, hh0]
      exact rel.same rfl
    · rw [hf0]
      simp only [nE, List.filter_nil, List.length_nil, hh0]
      exact st.trans (Stp.same σ h rfl rfl rfl rfl)
    · rw [hf0]
      exact ⟨s.tmp, s.defers, s.size⟩

end
end Go.Ev
