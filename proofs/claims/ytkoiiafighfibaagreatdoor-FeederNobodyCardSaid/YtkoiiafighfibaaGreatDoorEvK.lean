/- What the operations come to, in every world that the heap stands for. -/
import Derived.Test.YtkoiiafighfibaaGreatDoorEvJ
set_option autoImplicit false
namespace Go.Ev

section
variable {P : Program} {σ : Sg} {h : Hp} {w : World} {a : Act} {ρ : Operand → AV}

theorem v_run {s : Sem Value} {v : Value} {w' : World} (hs : s.run P w = .ok v w') : (do pure (Next.value (← s)) : Sem Next).run P w = .ok (.value v) w' := by
  rw [Sem.run_bind, hs]; rfl

theorem run_isAgg_false {t : TypeId} (hg : aggOf P t = some none) : (isAgg t).run P w = .ok false w := by
  unfold aggOf at hg
  cases hu : P.underlying t with
  | none => rw [hu] at hg; simp at hg
  | some d =>
    rw [hu] at hg
    cases d <;> simp only at hg <;> first
      | (cases hi : P.info? t <;> rw [hi] at hg <;> simp at hg; done)
      | (unfold isAgg; rw [Sem.run_bind, run_underlying hu]; rfl)

theorem run_isAgg_true {t : TypeId} {n : Nat} (hg : aggOf P t = some (some n)) : (isAgg t).run P w = .ok true w ∧ (sizeOf t).run P w = .ok n w := by
  unfold aggOf at hg
  cases hu : P.underlying t with
  | none => rw [hu] at hg; simp at hg
  | some d =>
    rw [hu] at hg
    cases d <;> simp only at hg <;> first
      | (cases hg; done)
      | (cases hi : P.info? t with
         | none => rw [hi] at hg; simp at hg
         | some i =>
           rw [hi] at hg
           simp only [Option.map_some, Option.some.injEq] at hg
           subst hg
           exact ⟨by unfold isAgg; rw [Sem.run_bind, run_underlying hu]; rfl, run_sizeOf' hi⟩)

theorem specParts_ok (hρ : Hρ σ a ρ) {place : Nat → Option (Nat × Nat)} : ∀ {parts : List (Nat × Operand)} {ps : List (Nat × Nat × Operand)}, specParts place parts = some ps →
    (∀ p ∈ ps, ρ p.2.2 ≠ .bad) → PartsR σ place (pmap ρ ps) (parts.map fun (i, x) => (i, a.eval x))
  | [], ps, hs, _ => by simp only [specParts, Option.some.injEq] at hs; subst hs; simp [pmap, PartsR]
  | (i, x) :: l, ps, hs, hb => by
    simp only [specParts] at hs
    cases hp : place i with
    | none => rw [hp] at hs; simp at hs
    | some q =>
      cases hr : specParts place l with
      | none => rw [hp, hr] at hs; simp at hs
      | some r =>
        rw [hp, hr] at hs
        simp only [Option.some.injEq] at hs
        subst hs
        simp only [pmap, PartsR, List.map_cons]
        exact ⟨i, a.eval x, _, hp, hρ x (hb (q.1, q.2, x) (by simp)), specParts_ok hρ hr (fun p hp => hb p (by simp [hp])), rfl⟩

theorem fillA_ne_bad : ∀ {cells out : List AV} {ps : List (Nat × Nat × Operand)}, fillA cells (pmap ρ ps) = some out → ∀ p ∈ ps, ρ p.2.2 ≠ .bad
  | _, _, [], _, p, hp => by simp at hp
  | cells, out, (off, size, x) :: ps, hf, p, hp => by
    simp only [pmap, fillA] at hf
    cases hc : (stor (ρ x) && Nat.beq (ρ x).cells.length size && Nat.ble (Nat.add off size) cells.length) with
    | false => rw [hc] at hf; cases hf
    | true =>
      rw [hc] at hf
      simp only [cond_true] at hf
      rcases List.mem_cons.1 hp with rfl | hp
      · intro e
        simp only at e
        rw [e] at hc
        simp [stor] at hc
      · exact fillA_ne_bad hf p hp

theorem toA_agg {z : Value} {l : List AV} (hz : toA z = .agg l) : ∃ zs, z.cells = zs.toArray ∧ VRs σ l zs ∧ allScal l = true := by
  have hv : VR σ (toA z) z := toA_ok (by rw [hz]; intro e; cases e)
  rw [hz] at hv
  have := hv.cellsOf (.inr ⟨l, rfl⟩)
  obtain ⟨xs, h1, h2, h3⟩ := this
  exact ⟨xs, h1, h2, h3⟩

theorem opSlS_ne {x : AV} {lo hi : Option AV} (hb : opSlS x lo hi ≠ .bad) : ∃ s l h, x = .str s ∧ bnd 0 lo = some l ∧ bnd s.length hi = some h := by
  cases x <;> simp only [opSlS] at hb <;> (try contradiction)
  rename_i s
  cases e1 : bnd 0 lo with
  | none => rw [e1] at hb; exact absurd rfl hb
  | some l =>
    cases e2 : bnd s.length hi with
    | none => rw [e1, e2] at hb; exact absurd rfl hb
    | some h => exact ⟨s, l, h, rfl, rfl, e2⟩

theorem opSl_ne {size : Nat} {x : AV} {lo hi mx : Option AV} (hb : opSl size x lo hi mx ≠ .bad) :
    (∃ l, bnd 0 lo = some l) ∧ (∃ d h, bnd d hi = some h) ∧ ∀ v, mx = some v → v ≠ .bad := by
  unfold opSl at hb
  cases e1 : bnd 0 lo with
  | none => rw [e1] at hb; exact absurd rfl hb
  | some l =>
    rw [e1] at hb
    refine ⟨⟨l, rfl⟩, ?_⟩
    have hm : ∀ d m, bnd d mx = some m → ∀ v, mx = some v → v ≠ .bad := by
      intro d m hm v hv e
      subst hv e
      simp [bnd, asIx] at hm
    cases x <;> simp only at hb <;> (try contradiction)
    · cases e2 : bnd 0 hi with
      | none => rw [e2] at hb; exact absurd rfl hb
      | some h =>
        cases e3 : bnd 0 mx with
        | none => rw [e2, e3] at hb; exact absurd rfl hb
        | some m => exact ⟨⟨0, h, e2⟩, hm 0 m e3⟩
    · rename_i id off len cap
      cases e2 : bnd len hi with
      | none => rw [e2] at hb; exact absurd rfl hb
      | some h =>
        cases e3 : bnd cap mx with
        | none => rw [e2, e3] at hb; exact absurd rfl hb
        | some m => exact ⟨⟨len, h, e2⟩, hm cap m e3⟩
    · rename_i id z len el
      cases e2 : bnd len hi with
      | none => rw [e2] at hb; exact absurd rfl hb
      | some h =>
        refine ⟨⟨len, h, e2⟩, ?_⟩
        rw [e2] at hb
        intro v hv e
        subst hv e
        exact hb rfl
    · cases e2 : bnd 0 hi with
      | none => rw [e2] at hb; exact absurd rfl hb
      | some h =>
        refine ⟨⟨0, h, e2⟩, ?_⟩
        rw [e2] at hb
        intro v hv _
        subst hv
        simp at hb

/-- WHAT AN OPERATION THAT ONLY LOOKS COMES TO. -/
theorem opP_ok (r : Rel σ h w) (hρ : Hρ σ a ρ) {o : Oper} {x : PO} (hs : spec P o = some (.p x)) (hb : x.ev ρ h.t ≠ .bad) :
    ∃ v, (execOp a.eval o).run P w = .ok (.value v) w ∧ VR σ (x.ev ρ h.t) v := by
  unfold spec at hs
  unfold execOp
  cases hop : o.op <;> rw [hop] at hs <;> simp only at hs ⊢ <;> (try contradiction)
  case move y =>
    simp only [Option.some.injEq, SOp.p.injEq] at hs; subst hs
    exact ⟨_, rfl, hρ y hb⟩
  case assign y =>
    simp only [Option.some.injEq, SOp.p.injEq] at hs; subst hs
    exact ⟨_, rfl, hρ y hb⟩
  case pick c y z =>
    simp only [Option.some.injEq, SOp.p.injEq] at hs; subst hs
    simp only [PO.ev, opPick] at hb ⊢
    cases hc : ρ c <;> rw [hc] at hb <;> simp only at hb ⊢ <;> (try contradiction)
    rename_i b
    have hcv := hρ c (by rw [hc]; intro e; cases e)
    rw [hc] at hcv
    obtain hcv := VR.bool' hcv
    cases b
    · exact ⟨a.eval z, by simp [hcv, asBool], hρ z hb⟩
    · exact ⟨a.eval y, by simp [hcv, asBool], hρ y hb⟩
  case build t parts =>
    cases hp : placeOf P t with
    | none => rw [hp] at hs; simp at hs
    | some pz =>
      obtain ⟨place, z⟩ := pz
      rw [hp] at hs
      simp only at hs
      cases hz : toA z <;> rw [hz] at hs <;> simp only at hs <;> (try contradiction)
      rename_i l
      cases hsp : specParts place parts.toList with
      | none => rw [hsp] at hs; simp at hs
      | some ps =>
        rw [hsp] at hs
        simp only [Option.some.injEq, SOp.p.injEq] at hs
        subst hs
        simp only [PO.ev] at hb ⊢
        obtain ⟨zs, h1, h2, h3⟩ := toA_agg (σ := σ) hz
        have hnb : ∀ p ∈ ps, ρ p.2.2 ≠ .bad := by
          unfold opBld at hb
          cases hf : fillA l (pmap ρ ps) with
          | none => rw [hf] at hb; exact absurd rfl hb
          | some out => exact fillA_ne_bad hf
        have hpr := specParts_ok hρ hsp hnb
        obtain ⟨v, k1, k2⟩ := opBld_ok (P := P) (w := w) (vparts := parts.map fun (i, x) => (i, a.eval x)) hp h1 h2 h3 (by simpa using hpr) hb
        exact ⟨v, v_run k1, k2⟩
  case buildSlice t len parts =>
    exfalso
    revert hs
    repeat' split
    all_goals (intro hs; first | (cases hs; done) | skip)
  case alloc t =>
    exfalso
    revert hs
    repeat' split
    all_goals (intro hs; first | (cases hs; done) | skip)
  case load t y =>
    cases hg : aggOf P t with
    | none => rw [hg] at hs; simp at hs
    | some g =>
      rw [hg] at hs
      cases g with
      | none =>
        simp only [Option.some.injEq, SOp.p.injEq] at hs; subst hs
        simp only [PO.ev] at hb ⊢
        obtain ⟨ad, v, e1, e2, e3⟩ := opLd_ok (P := P) r (hρ y (fun e => hb (by rw [e]; rfl))) hb
        refine ⟨v, v_run ?_, e3⟩
        simp only [Instr.loadAt, e1, Instr.sureAddr, Sem.run_bind, Sem.run_pure, Result.andThen_ok, loadVar, run_isAgg_false hg]
        exact e2
      | some n =>
        simp only [Option.some.injEq, SOp.p.injEq] at hs; subst hs
        simp only [PO.ev] at hb ⊢
        obtain ⟨ad, xs, e1, e2, e3⟩ := opLdn_ok (P := P) r (hρ y (fun e => hb (by rw [e]; rfl))) hb
        refine ⟨.agg xs, v_run ?_, e3⟩
        obtain ⟨g1, g2⟩ := run_isAgg_true (w := w) hg
        simp only [Instr.loadAt, e1, Instr.sureAddr, Sem.run_bind, Sem.run_pure, Result.andThen_ok, loadVar, g1, g2, if_true, e2]
  case nilCheck y =>
    simp only [Option.some.injEq, SOp.p.injEq] at hs; subst hs
    simp only [PO.ev] at hb ⊢
    have hv := hρ y (fun e => hb (by rw [e]; rfl))
    cases hy : ρ y <;> rw [hy] at hb hv <;> simp only [opNck] at hb ⊢ <;> (try contradiction)
    · have hv' := hv
      simp only [VR] at hv
      obtain ⟨e, he, hq⟩ := hv
      rw [hq] at hv' ⊢
      exact ⟨_, rfl, hv'⟩
    · have hv' := hv
      simp only [VR] at hv
      obtain ⟨_, _, _, _, hq⟩ := hv
      rw [hq] at hv' ⊢
      exact ⟨_, rfl, hv'⟩
    · have hv' := hv
      simp only [VR] at hv
      obtain ⟨_, _, hq⟩ := hv
      rw [hq] at hv' ⊢
      exact ⟨_, rfl, hv'⟩
  case binOp op t y z _ =>
    simp only [Option.some.injEq, SOp.p.injEq] at hs; subst hs
    simp only [PO.ev] at hb ⊢
    have h1 : ρ y ≠ .bad := by
      intro e; rw [e] at hb
      cases op <;> simp [opBin, opNil] at hb
    have h2 : ρ z ≠ .bad := by
      intro e; rw [e] at hb
      cases hy : ρ y <;> rw [hy] at hb <;> cases op <;> simp only [opBin] at hb <;> (try contradiction) <;> (cases hk : ekOf (P.underlying t) <;> rw [hk] at hb <;> simp [opNil] at hb)
    obtain ⟨v, k1, k2⟩ := opBin_ok (P := P) (w := w) op y z (hρ y h1) (hρ z h2) hb
    exact ⟨v, v_run k1, k2⟩
  case unOp op t y =>
    simp only [Option.some.injEq, SOp.p.injEq] at hs; subst hs
    simp only [PO.ev] at hb ⊢
    obtain ⟨v, k1, k2⟩ := opUn_ok (P := P) (w := w) op (hρ y (fun e => hb (by rw [e]; rfl))) hb
    exact ⟨v, v_run k1, k2⟩
  case convert s d y =>
    cases h1 : P.underlying s with
    | none => rw [h1] at hs; simp at hs
    | some d1 =>
      cases h2 : P.underlying d with
      | none => rw [h1, h2] at hs; cases d1 <;> simp at hs
      | some d2 =>
        rw [h1, h2] at hs
        cases d1 <;> (try simp only at hs) <;> (try contradiction)
        cases d2 <;> (try simp only at hs) <;> (try contradiction)
        rename_i k1 k2
        simp only [Option.some.injEq, SOp.p.injEq] at hs; subst hs
        simp only [PO.ev] at hb ⊢
        obtain ⟨v, e1, e2⟩ := opCvI_ok (P := P) (w := w) k2 h2 ⟨_, h1⟩ (hρ y (fun e => hb (by rw [e]; rfl))) hb
        exact ⟨v, v_run e1, e2⟩
  case makeFunc fn first caps =>
    cases fn <;> simp only at hs <;> (try contradiction)
    rename_i f
    simp only [Option.some.injEq, SOp.p.injEq] at hs; subst hs
    simp only [PO.ev, opMf] at hb ⊢
    cases hc : (okAll (first.toList.map ρ) && okAll (caps.toList.map ρ)) with
    | false => rw [hc] at hb; exact absurd rfl hb
    | true =>
      simp only [Bool.and_eq_true] at hc
      refine ⟨_, v_run rfl, ?_⟩
      simp only [cond_true, VR]
      exact ⟨_, _, okAll_map hρ _ hc.1, okAll_map hρ _ hc.2, by congr 1 <;> (apply Array.ext'; simp)⟩
  case slice t y lo hi mx =>
    cases h1 : P.underlying t with
    | none => rw [h1] at hs; simp at hs
    | some d =>
      rw [h1] at hs
      cases d <;> (try simp only at hs) <;> (try contradiction)
      · cases mx with
        | some m => simp at hs
        | none =>
          simp only [Option.some.injEq, SOp.p.injEq] at hs; subst hs
          simp only [PO.ev] at hb ⊢
          have hy : ρ y ≠ .bad := fun e => hb (by rw [e]; rfl)
          obtain ⟨s, l, h', _, g1, g2⟩ := opSlS_ne hb
          have hlo := bnd_ne_bad g1
          have hhi := bnd_ne_bad g2
          obtain ⟨v, e1, e2⟩ := opSlS_ok (P := P) (w := w) h1 (hρ y hy) (ovr_map hρ hlo) (ovr_map hρ hhi) hb
          exact ⟨v, v_run e1, e2⟩
      · rename_i e
        cases h2 : P.info? e with
        | none => rw [h2] at hs; simp at hs
        | some i =>
          rw [h2] at hs
          simp only [Option.some.injEq, SOp.p.injEq] at hs; subst hs
          simp only [PO.ev] at hb ⊢
          have hy : ρ y ≠ .bad := by
            intro e; rw [e] at hb
            unfold opSl at hb
            cases h : bnd 0 (lo.map ρ) <;> rw [h] at hb <;> exact hb rfl
          obtain ⟨⟨l, g1⟩, ⟨d, h', g2⟩, g3⟩ := opSl_ne hb
          have hmx : ∀ z, mx = some z → ρ z ≠ .bad := by
            intro z hz e
            subst hz
            exact g3 (ρ z) rfl e
          obtain ⟨v, e1, e2⟩ := opSl_ok (P := P) (w := w) h1 h2 (hρ y hy) (ovr_map hρ (bnd_ne_bad g1)) (ovr_map hρ (bnd_ne_bad g2)) (ovr_map hρ hmx) hb
          exact ⟨v, v_run e1, e2⟩
  case fieldAddr t y k =>
    cases h1 : P.underlying t with
    | none => rw [h1] at hs; simp at hs
    | some d =>
      rw [h1] at hs
      cases d <;> (try simp only at hs) <;> (try contradiction)
      rename_i fs
      cases h2 : fs[k]? with
      | none => rw [h2] at hs; simp at hs
      | some f =>
        rw [h2] at hs
        simp only at hs
        cases h3 : P.info? f.type with
        | none => rw [h3] at hs; simp at hs
        | some i =>
          rw [h3] at hs
          simp only at hs
          split at hs
          · cases hs
          · rename_i hz
            simp only [Option.some.injEq, SOp.p.injEq] at hs; subst hs
            simp only [PO.ev] at hb ⊢
            obtain ⟨v, e1, e2⟩ := opFa_ok (P := P) (w := w) h1 h2 h3 hz (hρ y (fun e => hb (by rw [e]; rfl))) hb
            exact ⟨v, v_run e1, e2⟩
  case indexAddr t y i =>
    cases h1 : P.underlying t with
    | none => rw [h1] at hs; simp at hs
    | some d =>
      rw [h1] at hs
      cases d <;> (try simp only at hs) <;> (try contradiction)
      · rename_i e
        cases h2 : P.info? e with
        | none => rw [h2] at hs; simp at hs
        | some inf =>
          rw [h2] at hs
          simp only [Option.map_some, Option.some.injEq, SOp.p.injEq] at hs; subst hs
          simp only [PO.ev] at hb ⊢
          have hi : ρ i ≠ .bad := fun e => hb (by rw [e]; rfl)
          have hy : ρ y ≠ .bad := by
            intro e; rw [e] at hb
            unfold opIa at hb
            cases h : asIx (ρ i) <;> rw [h] at hb <;> exact hb rfl
          obtain ⟨v, e1, e2⟩ := opIa_ok (P := P) (w := w) h1 h2 (hρ y hy) (hρ i hi) hb
          exact ⟨v, v_run e1, e2⟩
      · rename_i n e
        cases h2 : P.info? e with
        | none => rw [h2] at hs; simp at hs
        | some inf =>
          rw [h2] at hs
          simp only [Option.map_some, Option.some.injEq, SOp.p.injEq] at hs; subst hs
          simp only [PO.ev] at hb ⊢
          have hi : ρ i ≠ .bad := fun e => hb (by rw [e]; rfl)
          have hy : ρ y ≠ .bad := by
            intro e; rw [e] at hb
            unfold opIaA at hb
            cases h : asIx (ρ i) <;> rw [h] at hb <;> exact hb rfl
          obtain ⟨v, e1, e2⟩ := opIaA_ok (P := P) (w := w) h1 h2 (hρ y hy) (hρ i hi) hb
          exact ⟨v, v_run e1, e2⟩
  case index t y i =>
    cases h1 : P.underlying t with
    | none => rw [h1] at hs; simp at hs
    | some d =>
      rw [h1] at hs
      cases d <;> (try simp only at hs) <;> (try contradiction)
      simp only [Option.some.injEq, SOp.p.injEq] at hs; subst hs
      simp only [PO.ev] at hb ⊢
      have hi : ρ i ≠ .bad := fun e => hb (by rw [e]; rfl)
      have hy : ρ y ≠ .bad := by
        intro e; rw [e] at hb
        unfold opIxS at hb
        cases h : asIx (ρ i) <;> rw [h] at hb <;> exact hb rfl
      obtain ⟨v, e1, e2⟩ := opIxS_ok (P := P) (w := w) h1 (hρ y hy) (hρ i hi) hb
      exact ⟨v, v_run e1, e2⟩
  case extract y i =>
    simp only [Option.some.injEq, SOp.p.injEq] at hs; subst hs
    simp only [PO.ev] at hb ⊢
    have hy : ρ y ≠ .bad := fun e => hb (by rw [e]; rfl)
    have hv := hρ y hy
    cases hx : ρ y <;> rw [hx] at hb hv <;> simp only [opExt] at hb ⊢ <;> (try contradiction)
    rename_i l
    simp only [VR] at hv
    obtain ⟨xs, hxs, hq⟩ := hv
    rw [nth_eq] at hb ⊢
    have hlt : i < l.length := by
      rcases Nat.lt_or_ge i l.length with h | h
      · exact h
      · rw [List.getElem?_eq_none h] at hb; exact absurd rfl hb
    have hlt' : i < xs.length := by rw [← hxs.length]; exact hlt
    refine ⟨xs[i], v_run ?_, ?_⟩
    · simp [Instr.extract, hq, hlt']
    · rw [List.getElem?_eq_getElem hlt]; exact hxs.get i hlt hlt'
  case call c =>
    obtain ⟨callee, args, argTypes⟩ := c
    cases callee with
    | invoke _ _ => simp at hs
    | value f => cases f <;> simp at hs
    | builtin b =>
      cases b <;> simp only at hs <;> (try contradiction)
      · -- append
        exfalso
        revert hs
        repeat' split
        all_goals (intro hs; cases hs)
      · -- len
        revert hs
        repeat' split
        all_goals (intro hs; (try (cases hs; done)))
        · rename_i _ _ t y ht hy _ e hu
          simp only [Option.some.injEq, SOp.p.injEq] at hs; subst hs
          simp only [PO.ev] at hb ⊢
          have hb' : ρ y ≠ .bad := fun e => hb (by rw [e]; rfl)
          have hns : ∀ l, ρ y ≠ .str l := fun l e => hb (by rw [e]; rfl)
          have he : opLenL (ρ y) = opLenV (ρ y) := by
            cases hx : ρ y <;> first | rfl | exact absurd hx (hns _)
          rw [he] at hb ⊢
          obtain ⟨v, e1, e2⟩ := opLenV_ok (P := P) (w := w) (t := t) (ty := o.type) (.inl ⟨_, hu⟩) (hρ y hb') hb
            ⟨fun ⟨l, hl⟩ => absurd hl (hns l), fun hh => by rw [hu] at hh; cases hh⟩
          refine ⟨v, ?_, e2⟩
          have ha1 : argTypes = #[t] := by apply Array.ext'; simpa using ht
          have ha2 : args = #[y] := by apply Array.ext'; simpa using hy
          subst ha1 ha2
          simp only [resolve, invoke, builtin, Sem.run_bind, Sem.run_pure, Result.andThen_ok]
          simp [e1]
        · rename_i _ _ t y ht hy _ hu
          simp only [Option.some.injEq, SOp.p.injEq] at hs; subst hs
          simp only [PO.ev] at hb ⊢
          have hb' : ρ y ≠ .bad := fun e => hb (by rw [e]; rfl)
          obtain ⟨l, hl⟩ : ∃ l, ρ y = .str l := by
            cases hx : ρ y <;> rw [hx] at hb <;> first | exact ⟨_, rfl⟩ | exact absurd rfl hb
          have he : opLenS (ρ y) = opLenV (ρ y) := by rw [hl]; rfl
          rw [he] at hb ⊢
          obtain ⟨v, e1, e2⟩ := opLenV_ok (P := P) (w := w) (t := t) (ty := o.type) (.inr hu) (hρ y hb') hb ⟨fun _ => hu, fun _ => ⟨l, hl⟩⟩
          refine ⟨v, ?_, e2⟩
          have ha1 : argTypes = #[t] := by apply Array.ext'; simpa using ht
          have ha2 : args = #[y] := by apply Array.ext'; simpa using hy
          subst ha1 ha2
          simp only [resolve, invoke, builtin, Sem.run_bind, Sem.run_pure, Result.andThen_ok]
          simp [e1]
  all_goals
    exfalso
    revert hs
    repeat' split
    all_goals (intro hs; cases hs)

end
end Go.Ev
