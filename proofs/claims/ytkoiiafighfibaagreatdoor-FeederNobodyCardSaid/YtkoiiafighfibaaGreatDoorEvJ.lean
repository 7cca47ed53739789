/- Operations, with what the types say resolved; what each comes to. -/
import Derived.Test.YtkoiiafighfibaaGreatDoorEvI
set_option autoImplicit false
namespace Go.Ev

/-- An operation that only looks. -/
inductive PO where
  | mv (x : Operand)
  | pick (c a b : Operand)
  | ld (x : Operand)
  | ldn (n : Nat) (x : Operand)
  | nck (x : Operand)
  | bin (op : BinOp) (ek : EK) (x y : Operand)
  | un (op : UnOp) (x : Operand)
  | cvI (k : IntKind) (x : Operand)
  | sl (size : Nat) (x : Operand) (lo hi mx : Option Operand)
  | slS (x : Operand) (lo hi : Option Operand)
  | fa (off : Nat) (x : Operand)
  | ia (size : Nat) (x i : Operand)
  | iaA (len size : Nat) (x i : Operand)
  | ixS (x i : Operand)
  | ext (x : Operand) (i : Nat)
  | lenL (x : Operand)
  | lenS (x : Operand)
  | mf (f : Nat) (first caps : List Operand)
  | bld (zero : List AV) (parts : List (Nat × Nat × Operand))

/-- An operation that makes or writes memory. -/
inductive EO where
  | box (x : Operand)
  | al (z : AV)
  | bs (len : Nat) (bts : Bool) (zero : List AV) (parts : List (Nat × Nat × Operand))
  | st (n : Nat) (x y : Operand)
  | app (size bytes : Nat) (s x : Operand)
  | mm

inductive SOp where
  | p (x : PO)
  | e (x : EO)
  | c (f : Nat) (args : List Operand)
  | cv (x : Operand) (args : List Operand)

def okAll : List AV → Bool
  | [] => true
  | .bad :: _ => false
  | _ :: l => okAll l

def opPick (c a b : AV) : AV :=
  match c with
  | .bool x => bif x then a else b
  | _ => .bad

def opNck (x : AV) : AV :=
  match x with
  | .ptr id off => .ptr id off
  | .fn f a b => .fn f a b
  | .ifc t a => .ifc t a
  | _ => .bad

def opExt (x : AV) (i : Nat) : AV :=
  match x with
  | .tup l => nth l i
  | _ => .bad

def opLenL (x : AV) : AV :=
  match x with
  | .str _ => .bad
  | x => opLenV x
def opLenS (x : AV) : AV :=
  match x with
  | .str l => opLenV (.str l)
  | _ => .bad

def opMf (f : Nat) (first caps : List AV) : AV := bif okAll first && okAll caps then .fn f first caps else .bad

def pmap (ρ : Operand → AV) : List (Nat × Nat × Operand) → List (Nat × Nat × AV)
  | [] => []
  | (a, b, x) :: l => (a, b, ρ x) :: pmap ρ l

noncomputable def PO.ev (ρ : Operand → AV) (h : Tr AObj) : PO → AV
  | .mv x => ρ x
  | .pick c a b => opPick (ρ c) (ρ a) (ρ b)
  | .ld x => opLd h (ρ x)
  | .ldn n x => opLdn h n (ρ x)
  | .nck x => opNck (ρ x)
  | .bin op ek x y => opBin op ek (ρ x) (ρ y)
  | .un op x => opUn op (ρ x)
  | .cvI k x => opCvI k (ρ x)
  | .sl size x lo hi mx => opSl size (ρ x) (lo.map ρ) (hi.map ρ) (mx.map ρ)
  | .slS x lo hi => opSlS (ρ x) (lo.map ρ) (hi.map ρ)
  | .fa off x => opFa off (ρ x)
  | .ia size x i => opIa size (ρ x) (ρ i)
  | .iaA len size x i => opIaA len size (ρ x) (ρ i)
  | .ixS x i => opIxS (ρ x) (ρ i)
  | .ext x i => opExt (ρ x) i
  | .lenL x => opLenL (ρ x)
  | .lenS x => opLenS (ρ x)
  | .mf f first caps => opMf f (first.map ρ) (caps.map ρ)
  | .bld zero parts => opBld zero (pmap ρ parts)

noncomputable def opStN (n : Nat) (h : Hp) (a v : AV) : RH := bif Nat.beq v.cells.length n then opSt h a v else .no

noncomputable def EO.ev (ρ : Operand → AV) (h : Hp) : EO → RH
  | .box x => opBox (ρ x) h
  | .al z => opBox z h
  | .bs len bts zero parts => opBs len bts (List.replicate len zero).flatten (pmap ρ parts) h
  | .st n x y => opStN n h (ρ x) (ρ y)
  | .app size bytes s x => opApp size bytes (ρ s) (ρ x) h
  | .mm => .ok (.mp h.nx) (h.new (.map [] 0))

/-- A type's values: one cell, or so many. -/
def aggOf (P : Program) (t : TypeId) : Option (Option Nat) :=
  match P.underlying t with
  | some (.struct _) | some (.array _ _) => (P.info? t).map fun i => some i.size
  | some _ => some none
  | none => none

def specParts (place : Nat → Option (Nat × Nat)) : List (Nat × Operand) → Option (List (Nat × Nat × Operand))
  | [] => some []
  | (i, x) :: l => match place i, specParts place l with
    | some (off, size), some r => some ((off, size, x) :: r)
    | _, _ => none

def isU8 (P : Program) (t : TypeId) : Bool :=
  match P.underlying t with
  | some (.int .u8) => true
  | _ => false

def isInt : Option TypeDesc → Bool
  | some (.int _) => true
  | _ => false

/-- What the types say of an operation. -/
def spec (P : Program) (o : Oper) : Option SOp :=
  match o.op with
  | .move x | .assign x => some (.p (.mv x))
  | .pick c a b => some (.p (.pick c a b))
  | .box _ x => some (.e (.box x))
  | .alloc t => match P.info? t with
    | some i => match i.zero with
      | some z => match toA z with
        | .bad => none
        | a => some (.e (.al a))
      | none => none
    | none => none
  | .build t parts => match placeOf P t with
    | some (place, z) => match toA z with
      | .agg l => match specParts place parts.toList with
        | some ps => some (.p (.bld l ps))
        | none => none
      | _ => none
    | none => none
  | .buildSlice t len parts => match P.underlying t with
    | some (.slice e) => match P.info? e with
      | some ie => match ie.zero with
        | some z => match toA z, specParts (fun i => some (i * ie.size, ie.size)) parts.toList with
          | .bad, _ => none
          | a, some ps => if a.cells.length = ie.size ∧ 0 < ie.size ∧ len * ie.size ≤ 16777216 ∧ stor a = true then some (.e (.bs len (isU8 P e) a.cells ps)) else none
          | _, none => none
        | none => none
      | none => none
    | _ => none
  | .load t x => match aggOf P t with
    | some none => some (.p (.ld x))
    | some (some n) => some (.p (.ldn n x))
    | none => none
  | .store t x y => match P.info? t with
    | some i => some (.e (.st i.size x y))
    | none => none
  | .nilCheck x => some (.p (.nck x))
  | .makeMap _ res => match res with
    | none => some (.e .mm)
    | some _ => none
  | .binOp op t x y _ => some (.p (.bin op (ekOf (P.underlying t)) x y))
  | .unOp op _ x => some (.p (.un op x))
  | .convert s d x => match P.underlying s, P.underlying d with
    | some (.int _), some (.int k) => some (.p (.cvI k x))
    | _, _ => none
  | .makeFunc fn first caps => match fn with
    | .func f => some (.p (.mf f first.toList caps.toList))
    | _ => none
  | .slice t x lo hi mx => match P.underlying t with
    | some .string => match mx with
      | none => some (.p (.slS x lo hi))
      | some _ => none
    | some (.slice e) => match P.info? e with
      | some i => some (.p (.sl i.size x lo hi mx))
      | none => none
    | _ => none
  | .fieldAddr t x k => match P.underlying t with
    | some (.struct fs) => match fs[k]? with
      | some f => match P.info? f.type with
        | some i => if i.size = 0 then none else some (.p (.fa f.offset x))
        | none => none
      | none => none
    | _ => none
  | .indexAddr t x i => match P.underlying t with
    | some (.slice e) => (P.info? e).map fun inf => .p (.ia inf.size x i)
    | some (.array n e) => (P.info? e).map fun inf => .p (.iaA n inf.size x i)
    | _ => none
  | .index t x i => match P.underlying t with
    | some .string => some (.p (.ixS x i))
    | _ => none
  | .extract x i => some (.p (.ext x i))
  | .call c => match c.callee with
    | .builtin .len => match c.argTypes.toList, c.args.toList with
      | [t], [x] => match P.underlying t with
        | some (.slice _) => some (.p (.lenL x))
        | some .string => some (.p (.lenS x))
        | _ => none
      | _, _ => none
    | .builtin .append => match c.argTypes.toList, c.args.toList with
      | [t, u], [s, x] => match P.underlying t, P.underlying u with
        | some (.slice e), some d => if isInt (some d) = true then none else match P.info? e with
          | some i => match i.zero with
            | some z => if z.cells.size = i.size ∧ 0 < i.size ∧ 0 < i.bytes then some (.e (.app i.size i.bytes s x)) else none
            | none => none
          | none => none
        | _, _ => none
      | _, _ => none
    | .builtin _ => none
    | .value (.func f) => some (.c f c.args.toList)
    | .value x => some (.cv x c.args.toList)
    | .invoke _ _ => none
  | _ => none

section
variable {P : Program} {σ : Sg} {h : Hp} {w : World} {a : Act} {ρ : Operand → AV}

def Hρ (σ : Sg) (a : Act) (ρ : Operand → AV) : Prop := ∀ y, ρ y ≠ .bad → VR σ (ρ y) (a.eval y)

theorem okAll_map (hρ : Hρ σ a ρ) : ∀ (l : List Operand), okAll (l.map ρ) = true → VRs σ (l.map ρ) (l.map a.eval)
  | [], _ => VRs.nil
  | x :: l, hk => by
    simp only [List.map_cons] at hk ⊢
    have hb : ρ x ≠ .bad := fun e => by rw [e] at hk; simp [okAll] at hk
    refine VRs.cons (hρ x hb) (okAll_map hρ l ?_)
    cases hx : ρ x <;> rw [hx] at hk <;> first | exact hk | (simp [okAll] at hk)

theorem ovr_map (hρ : Hρ σ a ρ) {x : Option Operand} (hb : ∀ y, x = some y → ρ y ≠ .bad) : OVR σ (x.map ρ) (x.map a.eval) := by
  cases x with
  | none => simp [OVR]
  | some y => simp only [Option.map_some, OVR]; exact ⟨_, hρ y (hb y rfl), rfl⟩

theorem bnd_ne_bad {d n : Nat} {x : Option Operand} (h : bnd d (x.map ρ) = some n) : ∀ y, x = some y → ρ y ≠ .bad := by
  intro y hy e
  subst hy
  simp only [Option.map_some, bnd, e, asIx] at h
  cases h

end
end Go.Ev
