/- Strings, truth values, nil, conversions, and the like. -/
import Derived.Test.YtkoiiafighfibaaGreatDoorEvG
set_option autoImplicit false
namespace Go.Ev

section
variable {P : Program} {σ : Sg} {h : Hp} {w : World}

def leq : List Nat → List Nat → Bool
  | [], [] => true
  | a :: x, b :: y => bif Nat.beq a b then leq x y else false
  | _, _ => false

theorem leq_iff : ∀ (x y : List Nat), leq x y = true ↔ x = y
  | [], [] => by simp [leq]
  | [], _ :: _ => by simp [leq]
  | _ :: _, [] => by simp [leq]
  | a :: x, b :: y => by
    simp only [leq, beq_cond]
    by_cases h : a = b
    · simp [h, leq_iff x y]
    · simp [h]

def llt : List Nat → List Nat → Bool
  | _, [] => false
  | [], _ :: _ => true
  | a :: x, b :: y => bif Nat.beq a b then llt x y else Nat.blt a b

theorem ofNat_inj {a b : Nat} (ha : a < 256) (hb : b < 256) : UInt8.ofNat a = UInt8.ofNat b ↔ a = b := by
  constructor
  · intro h
    have := congrArg UInt8.toNat h
    simp at this
    omega
  · intro h; rw [h]

theorem ofNat_lt {a b : Nat} (ha : a < 256) (hb : b < 256) : UInt8.ofNat a < UInt8.ofNat b ↔ a < b := by
  rw [UInt8.lt_iff_toNat_lt]
  simp
  omega

theorem map_inj : ∀ (x y : List Nat), (∀ b ∈ x, b < 256) → (∀ b ∈ y, b < 256) → (x.map UInt8.ofNat = y.map UInt8.ofNat ↔ x = y)
  | [], [], _, _ => by simp
  | [], _ :: _, _, _ => by simp
  | _ :: _, [], _, _ => by simp
  | a :: x, b :: y, hx, hy => by
    have ih := map_inj x y (fun c hc => hx c (by simp [hc])) (fun c hc => hy c (by simp [hc]))
    simp only [List.map_cons, List.cons.injEq]
    rw [ih, ofNat_inj (hx a (by simp)) (hy b (by simp))]

theorem bytesLess_map : ∀ (x y : List Nat), (∀ b ∈ x, b < 256) → (∀ b ∈ y, b < 256) → Op.bytesLess (x.map UInt8.ofNat) (y.map UInt8.ofNat) = llt x y
  | [], [], _, _ => by simp [Op.bytesLess, llt]
  | [], _ :: _, _, _ => by simp [Op.bytesLess, llt]
  | _ :: _, [], _, _ => by simp [Op.bytesLess, llt]
  | a :: x, b :: y, hx, hy => by
    have ih := bytesLess_map x y (fun c hc => hx c (by simp [hc])) (fun c hc => hy c (by simp [hc]))
    have h1 := ofNat_inj (hx a (by simp)) (hy b (by simp))
    have h2 := ofNat_lt (hx a (by simp)) (hy b (by simp))
    simp only [List.map_cons, Op.bytesLess, llt, beq_cond, ih]
    by_cases h : a = b
    · subst h; simp
    · have h3 : ¬ UInt8.ofNat a = UInt8.ofNat b := fun e => h (h1.1 e)
      have h4 : (UInt8.ofNat a == UInt8.ofNat b) = false := by simpa using h3
      rw [h4, if_neg h]
      simp only [Bool.false_and, Bool.or_false]
      cases hb : Nat.blt a b with
      | true => simpa using h2.2 (blt_iff.1 hb)
      | false =>
        have : ¬ UInt8.ofNat a < UInt8.ofNat b := fun e => by have := blt_iff.2 (h2.1 e); rw [hb] at this; cases this
        simpa using this

/-- Operators on strings. -/
def opStr (op : BinOp) (x y : List Nat) : AV :=
  match op with
  | .add => bif Nat.blt (Nat.add x.length y.length) 4611686018427387904 then .str (x ++ y) else .bad
  | .eql => .bool (leq x y)
  | .neq => .bool (!(leq x y))
  | .lss => .bool (llt x y)
  | .leq => .bool (llt x y || leq x y)
  | .gtr => .bool (!(llt x y || leq x y))
  | .geq => .bool (!(llt x y))
  | _ => .bad

theorem strOf_toList (l : List Nat) : (strOf l).toList = l.map UInt8.ofNat := by simp [strOf]

theorem opStr_ok (op : BinOp) (T : TypeId) {x y : List Nat} (hx : ∀ b ∈ x, b < 256) (hy : ∀ b ∈ y, b < 256) (hb : opStr op x y ≠ .bad) :
    ∃ v, (binOp op T (.string (strOf x)) (.string (strOf y))).run P w = .ok v w ∧ VR σ (opStr op x y) v := by
  have he : ((strOf x).toList == (strOf y).toList) = leq x y := by
    rw [strOf_toList, strOf_toList]
    have h1 := map_inj x y hx hy
    have h2 := leq_iff x y
    cases hl : leq x y with
    | true => rw [h2.1 hl]; simp
    | false =>
      cases hh : (x.map UInt8.ofNat == y.map UInt8.ofNat) with
      | false => rfl
      | true =>
        have := h2.2 (h1.1 (by simpa using hh))
        rw [hl] at this; cases this
  have hl : Op.bytesLess (strOf x).toList (strOf y).toList = llt x y := by
    rw [strOf_toList, strOf_toList]; exact bytesLess_map x y hx hy
  cases op <;> simp only [opStr] at hb ⊢ <;> try contradiction
  · rw [blt_cond] at hb ⊢
    split at hb
    · rename_i hlt
      have hlt' : x.length + y.length < 4611686018427387904 := hlt
      rw [if_pos hlt]
      refine ⟨.string (strOf x ++ strOf y), ?_, ?_⟩
      · have h1 : ¬ ((((strOf x).size + (strOf y).size : Nat) : Int) > IntKind.i64.max) := by
          rw [strOf_size, strOf_size]
          show ¬ (9223372036854775807 < _)
          omega
        simp only [binOp, Op.stringOp]
        rw [if_neg h1]; rfl
      · simp only [VR]
        refine ⟨fun b hbm => ?_, ?_⟩
        · rcases List.mem_append.1 hbm with h | h
          · exact hx b h
          · exact hy b h
        · congr 1
          apply ByteArray.ext
          simp [strOf, ByteArray.data_append]
    · exact absurd rfl hb
  all_goals
    refine ⟨_, by simp only [binOp, Op.stringOp, he, hl]; rfl, ?_⟩
    simp only [VR]

/-- Kinds of types, for '=='. -/
inductive EK where
  | bool | ptr | slice | map | func | iface | other

def ekOf : Option TypeDesc → EK
  | some .bool => .bool
  | some (.pointer _) => .ptr
  | some (.slice _) => .slice
  | some (.map _ _) => .map
  | some (.func _ _ _) => .func
  | some (.interface _) => .iface
  | _ => .other

/-- '==' where one is nil, of truth values, and of one pointer with itself. -/
def opNil (ek : EK) (x y : AV) : Option Bool :=
  match ek, x, y with
  | .bool, .bool a, .bool b => some (bif a then b else !b)
  | .ptr, .nilp, .nilp => some true
  | .ptr, .nilp, .ptr _ _ => some false
  | .ptr, .ptr _ _, .nilp => some false
  | .slice, .nils, .nils => some true
  | .slice, .nils, .slc .. => some false
  | .slice, .nils, .slo .. => some false
  | .slice, .nils, .sld .. => some false
  | .slice, .slc .., .nils => some false
  | .slice, .slo .., .nils => some false
  | .slice, .sld .., .nils => some false
  | .map, .nilm, .nilm => some true
  | .map, .nilm, .mp _ => some false
  | .map, .mp _, .nilm => some false
  | .func, .nilf, .nilf => some true
  | .func, .nilf, .fn .. => some false
  | .func, .fn .., .nilf => some false
  | .iface, .nili, .ifc .. => some false
  | .iface, .ifc .., .nili => some false
  | _, _, _ => none

theorem VR.nilp' {u : Value} (h : VR σ .nilp u) : u = .pointer none := by simpa only [VR] using h
theorem VR.nils' {u : Value} (h : VR σ .nils u) : u = .slice none 0 0 := by simpa only [VR] using h
theorem VR.nilm' {u : Value} (h : VR σ .nilm u) : u = .map none := by simpa only [VR] using h
theorem VR.nilf' {u : Value} (h : VR σ .nilf u) : u = .nilFunc := by simpa only [VR] using h
theorem VR.nili' {u : Value} (h : VR σ .nili u) : u = .nilIface := by simpa only [VR] using h
theorem VR.bool' {u : Value} {b : Bool} (h : VR σ (.bool b) u) : u = .bool b := by simpa only [VR] using h
theorem VR.ptr' {u : Value} {id : Ps} {off : Nat} (h : VR σ (.ptr id off) u) : ∃ a, u = .pointer (some a) := by
  simp only [VR] at h; obtain ⟨_, _, r⟩ := h; exact ⟨_, r⟩
theorem VR.slc' {u : Value} {id : Ps} {a b c : Nat} (h : VR σ (.slc id a b c) u) : ∃ a n c, u = .slice (some a) n c := by
  simp only [VR] at h; obtain ⟨_, _, _, r⟩ := h; exact ⟨_, _, _, r⟩
theorem VR.slo' {u : Value} {id : Ps} {a b c : Nat} (h : VR σ (.slo id a b c) u) : ∃ a n c, u = .slice (some a) n c := by
  simp only [VR] at h; obtain ⟨_, _, _, _, _, r⟩ := h; exact ⟨_, _, _, r⟩
theorem VR.sld' {u : Value} {id : Ps} {a b : Nat} (h : VR σ (.sld id a b) u) : ∃ a n c, u = .slice (some a) n c := by
  simp only [VR] at h
  rcases h with ⟨_, _, _, _, _, r⟩ | ⟨_, r⟩
  · exact ⟨_, _, _, r⟩
  · exact ⟨_, _, _, r⟩
theorem VR.mp' {u : Value} {id : Ps} (h : VR σ (.mp id) u) : ∃ a, u = .map (some a) := by
  simp only [VR] at h; obtain ⟨_, _, r⟩ := h; exact ⟨_, r⟩
theorem VR.fn' {u : Value} {f : Nat} {as bs : List AV} (h : VR σ (.fn f as bs) u) : ∃ g a b, u = .func g a b := by
  simp only [VR] at h; obtain ⟨_, _, _, _, r⟩ := h; exact ⟨_, _, _, r⟩
theorem VR.ifc' {u : Value} {t : Nat} {a : AV} (h : VR σ (.ifc t a) u) : ∃ t a, u = .iface t a := by
  simp only [VR] at h; obtain ⟨_, _, r⟩ := h; exact ⟨_, _, r⟩

theorem eqs_of {t : TypeId} {u v : Value} {b : Bool} (h1 : binOp .eql t u v = (do pure (.bool (← Op.equal t u v)))) (h2 : binOp .neq t u v = (do pure (.bool (!(← Op.equal t u v)))))
    (he' : ∀ d, (Op.equalIn (d + 1) t u v).run P w = .ok b w) (hg : ∀ op ox oy, (eqGuard op t ox oy u v).run P w = .ok () w) :
    (binOp .eql t u v).run P w = .ok (.bool b) w ∧ (binOp .neq t u v).run P w = .ok (.bool (!b)) w ∧ (∀ op ox oy, (eqGuard op t ox oy u v).run P w = .ok () w) := by
  have he : (Op.equal t u v).run P w = .ok b w := he' 9999
  refine ⟨?_, ?_, hg⟩
  · rw [h1, Sem.run_bind, he]; rfl
  · rw [h2, Sem.run_bind, he]; rfl

theorem equal_of {t : TypeId} {x y : AV} {u v : Value} {b : Bool} (hx : VR σ x u) (hy : VR σ y v) (h : opNil (ekOf (P.underlying t)) x y = some b) :
    (binOp .eql t u v).run P w = .ok (.bool b) w ∧ (binOp .neq t u v).run P w = .ok (.bool (!b)) w ∧ (∀ op ox oy, (eqGuard op t ox oy u v).run P w = .ok () w) := by
  cases hd : P.underlying t with
  | none => rw [hd] at h; simp [ekOf, opNil] at h
  | some d =>
    rw [hd] at h
    cases d <;> simp only [ekOf] at h <;> cases x <;> simp only [opNil] at h <;> (try contradiction) <;> cases y <;> simp only at h <;> (try contradiction) <;>
      simp only [Option.some.injEq] at h <;> subst h
    all_goals
      first
        | (obtain rfl := VR.nilp' hx)
        | (obtain rfl := VR.nils' hx)
        | (obtain rfl := VR.nilm' hx)
        | (obtain rfl := VR.nilf' hx)
        | (obtain rfl := VR.nili' hx)
        | (obtain rfl := VR.bool' hx)
        | (obtain ⟨_, rfl⟩ := VR.ptr' hx)
        | (obtain ⟨_, _, _, rfl⟩ := VR.slc' hx)
        | (obtain ⟨_, _, _, rfl⟩ := VR.slo' hx)
        | (obtain ⟨_, _, _, rfl⟩ := VR.sld' hx)
        | (obtain ⟨_, rfl⟩ := VR.mp' hx)
        | (obtain ⟨_, _, _, rfl⟩ := VR.fn' hx)
        | (obtain ⟨_, _, rfl⟩ := VR.ifc' hx)
      first
        | (obtain rfl := VR.nilp' hy)
        | (obtain rfl := VR.nils' hy)
        | (obtain rfl := VR.nilm' hy)
        | (obtain rfl := VR.nilf' hy)
        | (obtain rfl := VR.nili' hy)
        | (obtain rfl := VR.bool' hy)
        | (obtain ⟨_, rfl⟩ := VR.ptr' hy)
        | (obtain ⟨_, _, _, rfl⟩ := VR.slc' hy)
        | (obtain ⟨_, _, _, rfl⟩ := VR.slo' hy)
        | (obtain ⟨_, _, _, rfl⟩ := VR.sld' hy)
        | (obtain ⟨_, rfl⟩ := VR.mp' hy)
        | (obtain ⟨_, _, _, rfl⟩ := VR.fn' hy)
        | (obtain ⟨_, _, rfl⟩ := VR.ifc' hy)
      refine eqs_of rfl rfl ?_ (fun op ox oy => by cases op <;> rfl)
      intro d
      unfold Op.equalIn
      rw [Sem.run_bind, run_underlying hd]
      first | rfl | (rename_i b1 b2; cases b1 <;> cases b2 <;> rfl)

/-- A binary operator. -/
def opBin (op : BinOp) (ek : EK) (x y : AV) : AV :=
  match x with
  | .int k a => match y with
    | .int k' b => match op with
      | .shl => opShift .shl k a k' b
      | .shr => opShift .shr k a k' b
      | op => bif kbeq k k' then opInt op k a b else .bad
    | _ => .bad
  | .str a => match y with
    | .str b => opStr op a b
    | _ => .bad
  | x => match op with
    | .eql => match opNil ek x y with
      | some b => .bool b
      | none => .bad
    | .neq => match opNil ek x y with
      | some b => .bool (!b)
      | none => .bad
    | _ => .bad

theorem opBin_ok (op : BinOp) {t : TypeId} {x y : AV} {u v : Value} (ox oy : Operand) (hx : VR σ x u) (hy : VR σ y v) (hb : opBin op (ekOf (P.underlying t)) x y ≠ .bad) :
    ∃ r, (do eqGuard op t ox oy u v; binOp op t u v : Sem Value).run P w = .ok r w ∧ VR σ (opBin op (ekOf (P.underlying t)) x y) r := by
  have fin : ∀ {r : AV}, (eqGuard op t ox oy u v).run P w = .ok () w → (∃ z, (binOp op t u v).run P w = .ok z w ∧ VR σ r z) →
      ∃ z, (do eqGuard op t ox oy u v; binOp op t u v : Sem Value).run P w = .ok z w ∧ VR σ r z := by
    intro r hg ⟨z, h1, h2⟩
    exact ⟨z, by rw [Sem.run_bind, hg]; exact h1, h2⟩
  have eqs : ∀ b, opNil (ekOf (P.underlying t)) x y = some b → (op = .eql → opBin op (ekOf (P.underlying t)) x y = .bool b) → (op = .neq → opBin op (ekOf (P.underlying t)) x y = .bool (!b)) →
      (op = .eql ∨ op = .neq) → ∃ r, (do eqGuard op t ox oy u v; binOp op t u v : Sem Value).run P w = .ok r w ∧ VR σ (opBin op (ekOf (P.underlying t)) x y) r := by
    intro b hb h1 h2 hop
    obtain ⟨e1, e2, e3⟩ := equal_of (w := w) hx hy hb
    refine fin (e3 op ox oy) ?_
    rcases hop with rfl | rfl
    · rw [h1 rfl]; exact ⟨_, e1, by simp only [VR]⟩
    · rw [h2 rfl]; exact ⟨_, e2, by simp only [VR]⟩
  cases x with
  | int k a =>
    cases y with
    | int k' b =>
      simp only [VR] at hx hy
      obtain ⟨ha, rfl⟩ := hx
      obtain ⟨hb', rfl⟩ := hy
      rw [md_eq] at ha hb'
      refine fin (by cases op <;> rfl) ?_
      simp only [opBin] at hb ⊢
      cases op
      case shl => exact opShift_ok w .shl k k' a b t ha hb' hb
      case shr => exact opShift_ok w .shr k k' a b t ha hb' hb
      all_goals
        simp only at hb ⊢
        cases hk : kbeq k k' with
        | false => rw [hk] at hb; exact absurd rfl hb
        | true =>
          rw [hk] at hb
          have := kbeq_eq hk
          subst this
          exact opInt_ok w _ k a b t ha hb' hb (by constructor <;> intro e <;> cases e)
    | _ => simp [opBin] at hb
  | str a =>
    cases y with
    | str b =>
      simp only [VR] at hx hy
      obtain ⟨ha, rfl⟩ := hx
      obtain ⟨hb', rfl⟩ := hy
      exact fin (by cases op <;> rfl) (opStr_ok op t ha hb' hb)
    | _ => simp [opBin] at hb
  | _ =>
    cases op <;> simp only [opBin] at hb <;> (try contradiction)
    all_goals
      split at hb
      · rename_i b hq
        exact eqs b hq (fun e => by first | (cases e; done) | (simp only [opBin, hq])) (fun e => by first | (cases e; done) | (simp only [opBin, hq])) (by first | exact .inl rfl | exact .inr rfl)
      · exact absurd rfl hb

/-- A unary operator. -/
def opUn (op : UnOp) (x : AV) : AV :=
  match x with
  | .bool b => match op with
    | .not => .bool (!b)
    | _ => .bad
  | .int k a => match op with
    | .neg => opInt .sub k 0 a
    | _ => .bad
  | _ => .bad

theorem opUn_ok (op : UnOp) {x : AV} {u : Value} (hx : VR σ x u) (hb : opUn op x ≠ .bad) : ∃ r, (Op.unary op u).run P w = .ok r w ∧ VR σ (opUn op x) r := by
  cases x <;> simp only [opUn] at hb <;> (try contradiction)
  · cases op <;> simp only at hb <;> (try contradiction)
    obtain rfl := VR.bool' hx
    exact ⟨_, rfl, by simp only [opUn, VR]⟩
  · rename_i k a
    cases op <;> simp only at hb <;> (try contradiction)
    simp only [VR] at hx
    obtain ⟨ha, rfl⟩ := hx
    rw [md_eq] at ha
    have h0 : (0 : Int) = IntKind.back k 0 := by rw [back_eq]; simp; intro h; omega
    obtain ⟨v, h1, h2⟩ := opInt_ok (P := P) w .sub k 0 a 0 (md_pos k) ha hb (by constructor <;> intro e <;> cases e)
    rw [← h0] at h1
    refine ⟨v, ?_, h2⟩
    simpa [Op.unary, binOp] using h1

/-- A number as one of another kind. -/
def opCvI (k : IntKind) (x : AV) : AV :=
  match x with
  | .int j a => bif nn j a then mkI k (Nat.mod a (IntKind.md k)) else bif Nat.ble (IntKind.md k) (IntKind.md j) then mkI k (Nat.mod a (IntKind.md k)) else .bad
  | _ => .bad

theorem md_dvd {j k : IntKind} (h : IntKind.md k ≤ IntKind.md j) : IntKind.md k ∣ IntKind.md j := by
  cases j <;> cases k <;> simp only [IntKind.md] at h ⊢ <;> first | omega | (exact ⟨1, rfl⟩) | (exact ⟨256, rfl⟩) | (exact ⟨65536, rfl⟩) | (exact ⟨16777216, rfl⟩) | (exact ⟨4294967296, rfl⟩) | (exact ⟨281474976710656, rfl⟩) | (exact ⟨72057594037927936, rfl⟩)

theorem opCvI_ok (k : IntKind) {s d : TypeId} (hd : P.underlying d = some (.int k)) (hs : ∃ j, P.underlying s = some (.int j)) {x : AV} {u : Value} (hx : VR σ x u) (hb : opCvI k x ≠ .bad) :
    ∃ r, (convert s d u).run P w = .ok r w ∧ VR σ (opCvI k x) r := by
  cases x <;> simp only [opCvI] at hb <;> (try contradiction)
  rename_i j a
  obtain ⟨j', hs⟩ := hs
  simp only [VR] at hx
  obtain ⟨ha, rfl⟩ := hx
  rw [md_eq] at ha
  have key : ((IntKind.back j a) % (IntKind.md k : Int) = (a : Int) % IntKind.md k) → ∃ r, (convert s d (.int j (IntKind.back j a))).run P w = .ok r w ∧ VR σ (mkI k (Nat.mod a (IntKind.md k))) r := by
    intro he
    refine ⟨.int k (k.wrap (IntKind.back j a)), ?_, ?_⟩
    · simp [convert, run_underlying hs, run_underlying hd, Conv.intToInt]
    · rw [wrap_of k _ a he]; exact VR.mkI (mod_lt_md k a)
  simp only [opCvI]
  cases hn : nn j a with
  | true =>
    simp only [cond_true]
    exact key (by rw [back_small j a (nn_back hn)])
  | false =>
    rw [hn] at hb
    simp only [cond_false, ble_cond] at hb ⊢
    split at hb
    · rename_i hle
      rw [if_pos hle]
      refine key ?_
      rw [back_eq]
      split
      · rw [Int.sub_emod]
        have : (IntKind.md j : Int) % IntKind.md k = 0 := by
          have := md_dvd hle
          exact Int.emod_eq_zero_of_dvd (by exact_mod_cast this)
        rw [this, Int.sub_zero, Int.emod_emod_of_dvd _ (Int.dvd_refl _)]
      · rfl
    · exact absurd rfl hb

end
end Go.Ev
