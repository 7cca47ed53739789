/- What the operations that make or write memory come to. -/
import Derived.Test.YtkoiiafighfibaaGreatDoorEvK
set_option autoImplicit false
namespace Go.Ev

section
variable {P : Program} {σ : Sg} {h : Hp} {w : World} {a : Act} {ρ : Operand → AV}

theorem opApp_ok (r : Rel σ h w) {sT xT ty e : TypeId} {i : TypeInfo} {z : Value} {d : TypeDesc} (T : AppT P sT xT e i z d)
    {s x : AV} {sv y : Value} {v : AV} {h' : Hp} (hsv : VR σ s sv) (hx : VR σ x y)
    (ho : opApp i.size i.bytes s x h = .ok v h') :
    ∃ vv w' σ', (Builtin.append_ #[sT, xT] ty #[sv, y]).run P w = .ok vv w' ∧ Rel σ' h' w' ∧ Stp σ h w σ' h' w' ∧ VR σ' v vv := by
  unfold opApp at ho
  cases hn : opLen x with
  | none => rw [hn] at ho; cases ho
  | some n =>
    rw [hn] at ho
    simp only [beq_cond] at ho
    have hl := opLen_ok (P := P) (w := w) hx hn
    split at ho
    · rename_i h0
      subst h0
      have hsrc : Src P w i.size 0 y [] := by
        intro w' _
        cases x <;> simp only [opLen] at hn <;> (try contradiction)
        · simp only [VR] at hx; obtain ⟨_, rfl⟩ := hx; simp [Builtin.firstCells]
        · obtain rfl := VR.nils' hx; simp [Builtin.firstCells]
        · obtain ⟨_, _, _, rfl⟩ := VR.slc' hx; simp [Builtin.firstCells, loadCells, loadCellsFrom]
        · obtain ⟨_, _, _, rfl⟩ := VR.slo' hx; simp [Builtin.firstCells, loadCells, loadCellsFrom]
        · obtain ⟨_, _, _, rfl⟩ := VR.sld' hx; simp [Builtin.firstCells, loadCells, loadCellsFrom]
      have fin : ∀ {base : Option Addr} {n c : Nat}, sv = .slice base n c → n ≤ c → v = s → h' = h →
          ∃ vv w' σ', (Builtin.append_ #[sT, xT] ty #[sv, y]).run P w = .ok vv w' ∧ Rel σ' h' w' ∧ Stp σ h w σ' h' w' ∧ VR σ' v vv := by
        intro base n c hs hle hv hh
        subst hs hv hh
        exact ⟨_, w, σ, append_nothing sT xT ty e i d T.ht T.hi T.hd T.hdi hl hsrc hle base, r, Stp.refl _ _ _, hsv⟩
      have hsv' := hsv
      cases s <;> simp only at ho <;> (try contradiction)
      · simp only [RH.ok.injEq] at ho
        exact fin (VR.nils' hsv) (Nat.le_refl _) ho.1.symm ho.2.symm
      · simp only [RH.ok.injEq] at ho
        simp only [VR] at hsv'
        obtain ⟨_, _, hle, hq⟩ := hsv'
        exact fin hq hle ho.1.symm ho.2.symm
      · simp only [RH.ok.injEq] at ho
        simp only [VR] at hsv'
        obtain ⟨_, _, _, _, hle, hq⟩ := hsv'
        exact fin hq (by omega) ho.1.symm ho.2.symm
      · simp only [RH.ok.injEq] at ho
        simp only [VR] at hsv'
        rcases hsv' with ⟨_, _, _, _, hle, hq⟩ | ⟨_, hq⟩
        · exact fin hq (by omega) ho.1.symm ho.2.symm
        · exact fin hq (by omega) ho.1.symm ho.2.symm
    · rename_i h0
      cases hq : opPay h.t i.size x with
      | none => rw [hq] at ho; cases ho
      | some q =>
        rw [hq] at ho
        obtain ⟨xs, k1, k2, k3⟩ := opPay_ok (P := P) r hx hn hq
        exact appWith_ok r T hsv hl k3 k1 k2 (by omega) ho

theorem opStN_ok (r : Rel σ h w) {t : TypeId} {inf : TypeInfo} (hi : P.info? t = some inf) {x y : AV} {u v : Value} {b : AV} {h' : Hp} (hx : VR σ x u) (hy : VR σ y v)
    (ho : opStN inf.size h x y = .ok b h') :
    ∃ w', (Instr.storeAt t u v).run P w = .ok () w' ∧ Rel σ h' w' ∧ Stp σ h w σ h' w' ∧ b = .tup [] := by
  unfold opStN at ho
  rw [beq_cond] at ho
  split at ho
  · rename_i hsz
    obtain ⟨ad, w', e1, e2, e3, e4, e5, e6⟩ := opSt_ok (P := P) r hx hy ho
    refine ⟨w', ?_, e3, e4, e5⟩
    have hne : ¬ (v.cells.size ≠ inf.size) := by rw [e6, hsz]; simp
    simp only [Instr.storeAt, e1, Instr.sureAddr, Sem.run_bind, Sem.run_pure, Result.andThen_ok, storeVar, run_sizeOf' hi, Sem.run_ite, hne, if_false, e2]
  · cases ho

/-- WHAT AN OPERATION THAT MAKES OR WRITES MEMORY COMES TO. -/
theorem opE_ok (r : Rel σ h w) (hρ : Hρ σ a ρ) {o : Oper} {x : EO} (hs : spec P o = some (.e x)) {b : AV} {h' : Hp} (hb : x.ev ρ h = .ok b h') :
    ∃ n w' σ', (execOp a.eval o).run P w = .ok n w' ∧ Rel σ' h' w' ∧ Stp σ h w σ' h' w' ∧
      ((∃ v, n = .value v ∧ VR σ' b v) ∨ (n = .skip ∧ b = .tup [])) := by
  unfold spec at hs
  unfold execOp
  cases hop : o.op <;> rw [hop] at hs <;> simp only at hs ⊢ <;> (try contradiction)
  case box t y =>
    simp only [Option.some.injEq, SOp.e.injEq] at hs; subst hs
    simp only [EO.ev] at hb
    have hy : ρ y ≠ .bad := fun e => by rw [e] at hb; cases hb
    obtain ⟨v, w', σ', e1, e2, e3, e4⟩ := opBox_ok (P := P) r (e := t) (hρ y hy) hb
    exact ⟨_, w', σ', v_run e1, e2, e3, .inl ⟨v, rfl, e4⟩⟩
  case alloc t =>
    cases h1 : P.info? t with
    | none => rw [h1] at hs; simp at hs
    | some i =>
      rw [h1] at hs
      simp only at hs
      cases h2 : i.zero with
      | none => rw [h2] at hs; simp at hs
      | some z =>
        rw [h2] at hs
        simp only at hs
        have hne : toA z ≠ .bad := fun e => by rw [e] at hs; simp at hs
        have hx : x = .al (toA z) := by
          cases hz : toA z <;> rw [hz] at hs <;> simp only [Option.some.injEq, SOp.e.injEq] at hs <;> first | exact hs.symm | (cases hs; done) | exact absurd hz hne
        subst hx
        simp only [EO.ev] at hb
        obtain ⟨v, w', σ', e1, e2, e3, e4⟩ := opBox_ok (P := P) r (e := t) (toA_ok (σ := σ) hne) hb
        refine ⟨_, w', σ', v_run ?_, e2, e3, .inl ⟨v, rfl, e4⟩⟩
        rw [alloc_as_box (z := z) (by simp [zeroValue, typeInfo, h1, h2])]
        exact e1
  case buildSlice t len parts =>
    cases h1 : P.underlying t with
    | none => rw [h1] at hs; simp at hs
    | some d =>
      rw [h1] at hs
      cases d <;> (try simp only at hs) <;> (try contradiction)
      rename_i e
      cases h2 : P.info? e with
      | none => rw [h2] at hs; simp at hs
      | some ie =>
        rw [h2] at hs
        simp only at hs
        cases h3 : ie.zero with
        | none => rw [h3] at hs; simp at hs
        | some z =>
          rw [h3] at hs
          simp only at hs
          cases h4 : specParts (fun i => some (i * ie.size, ie.size)) parts.toList with
          | none => rw [h4] at hs; cases hz : toA z <;> rw [hz] at hs <;> simp at hs
          | some ps =>
            rw [h4] at hs
            have hne : toA z ≠ .bad := fun e => by rw [e] at hs; simp at hs
            have hx : ((toA z).cells.length = ie.size ∧ 0 < ie.size ∧ len * ie.size ≤ 16777216 ∧ stor (toA z) = true) ∧ x = .bs len (isU8 P e) (toA z).cells ps := by
              cases hz : toA z <;> rw [hz] at hs <;> simp only at hs <;> first
                | exact absurd hz hne
                | (split at hs
                   · rename_i hc
                     simp only [Option.some.injEq, SOp.e.injEq] at hs
                     exact ⟨hc, hs.symm⟩
                   · cases hs)
            obtain ⟨⟨c1, c2, c3, c4⟩, rfl⟩ := hx
            simp only [EO.ev] at hb
            obtain ⟨zs, z1, z2, z3⟩ := (toA_ok (σ := σ) hne).cellsOf (stor_cells c4)
            have hnb : ∀ p ∈ ps, ρ p.2.2 ≠ .bad := by
              unfold opBs at hb
              cases hf : fillA (List.replicate len (toA z).cells).flatten (pmap ρ ps) with
              | none => rw [hf] at hb; cases hb
              | some out => exact fillA_ne_bad hf
            have hpr := specParts_ok hρ h4 hnb
            obtain ⟨v, w', σ', e1, e2, e3, e4⟩ := opBs_ok (P := P) (len := len) r h1 h2 h3 z1 (by rw [← z2.length]; exact c1) c2 c3 z2 z3
              (vparts := parts.map fun (i, x) => (i, a.eval x)) (by simpa using hpr) hb
            exact ⟨_, w', σ', v_run e1, e2, e3, .inl ⟨v, rfl, e4⟩⟩
  case store t y z =>
    cases h1 : P.info? t with
    | none => rw [h1] at hs; simp at hs
    | some i =>
      rw [h1] at hs
      simp only [Option.some.injEq, SOp.e.injEq] at hs; subst hs
      simp only [EO.ev] at hb
      have hy : ρ y ≠ .bad := by
        intro e; rw [e] at hb
        unfold opStN at hb
        cases hc : Nat.beq (ρ z).cells.length i.size <;> rw [hc] at hb <;> simp [opSt] at hb
      have hz : ρ z ≠ .bad := by
        intro e; rw [e] at hb
        unfold opStN at hb
        cases hc : Nat.beq AV.bad.cells.length i.size with
        | false => rw [hc] at hb; simp at hb
        | true =>
          rw [hc] at hb
          simp only [cond_true] at hb
          cases hyy : ρ y <;> rw [hyy] at hb <;> simp only [opSt] at hb <;> (try contradiction)
          rename_i id off
          cases hg : h.get id <;> rw [hg] at hb <;> simp [stor] at hb
      obtain ⟨w', e1, e2, e3, e4⟩ := opStN_ok (P := P) r h1 (hρ y hy) (hρ z hz) hb
      refine ⟨.skip, w', σ, ?_, e2, e3, .inr ⟨rfl, e4⟩⟩
      rw [Sem.run_bind, e1]; rfl
  case call c =>
    obtain ⟨callee, args, argTypes⟩ := c
    cases callee with
    | invoke _ _ => simp at hs
    | value f => cases f <;> simp at hs
    | builtin b =>
      cases b <;> simp only at hs <;> (try contradiction)
      · -- append
        revert hs
        repeat' split
        all_goals (intro hs; (try (cases hs; done)))
        rename_i _ _ t u s y ht hy _ _ e d hu hu2 hni _ i hi _ z hz hc
        simp only [Option.some.injEq, SOp.e.injEq] at hs; subst hs
        simp only [EO.ev] at hb
        have hT : AppT P t u e i z d := ⟨hu, hi, hz, hc.1, hc.2.1, hc.2.2, hu2, fun k hk => hni (by rw [hk]; rfl)⟩
        have h2 : ρ y ≠ .bad := fun e => by rw [e] at hb; simp [opApp, opLen] at hb
        have h1 : ρ s ≠ .bad := by
          intro e; rw [e] at hb
          unfold opApp at hb
          cases hn : opLen (ρ y) with
          | none => rw [hn] at hb; cases hb
          | some n =>
            rw [hn] at hb
            simp only [beq_cond] at hb
            split at hb
            · cases hb
            · cases hq : opPay h.t i.size (ρ y) <;> rw [hq] at hb <;> simp [appWith] at hb
        obtain ⟨v, w', σ', e1, e2, e3, e4⟩ := opApp_ok (P := P) (ty := o.type) r hT (hρ s h1) (hρ y h2) hb
        refine ⟨.value v, w', σ', ?_, e2, e3, .inl ⟨v, rfl, e4⟩⟩
        have ha1 : argTypes = #[t, u] := by apply Array.ext'; simpa using ht
        have ha2 : args = #[s, y] := by apply Array.ext'; simpa using hy
        subst ha1 ha2
        simp only [resolve, invoke, builtin, Sem.run_bind, Sem.run_pure, Result.andThen_ok]
        simp [e1]
      · exfalso
        revert hs
        repeat' split
        all_goals (intro hs; cases hs)
  case makeFunc fn _ _ => cases fn <;> simp at hs
  case makeMap t res =>
    cases res with
    | some _ => simp at hs
    | none =>
      simp only [Option.some.injEq, SOp.e.injEq] at hs; subst hs
      simp only [EO.ev, RH.ok.injEq] at hb
      obtain ⟨rfl, rfl⟩ := hb
      have hw : (w.alloc (.map #[] 0)).heap = w.heap.push (.map #[] 0) := rfl
      have ho : OR (σ.upd h.nx ⟨w.heap.size, 0, 0, 0⟩) ⟨w.heap.size, 0, 0, 0⟩ (w.alloc (.map #[] 0)) (.map [] 0) := by
        refine ⟨#[], ?_, by simp only [ERs]⟩
        rw [hw]; simp
      refine ⟨.value (.map (some w.heap.size)), w.alloc (.map #[] 0), _, v_run (by rfl), r.alloc hw rfl ho, Stp.alloc r hw rfl rfl rfl rfl, .inl ⟨_, rfl, ?_⟩⟩
      simp only [VR]
      exact ⟨_, Sg.upd_same _ _ _, rfl⟩
  all_goals
    exfalso
    revert hs
    repeat' split
    all_goals (intro hs; first | (cases hs; done) | (simp at hs; done))

end
end Go.Ev
