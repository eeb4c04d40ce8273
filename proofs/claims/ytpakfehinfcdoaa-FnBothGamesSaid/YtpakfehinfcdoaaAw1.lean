/- The engine's reckoning: what each operation and each piece of code does to an abstract state, as a condition to be proved. Only definitions. -/
import Derived.Test.YtpakfehinfcdoaaAw0
namespace Go.Aw

inductive TD where
  | int (k : IntKind)
  | bool
  | str
  | slice (e : Nat)
  | struct (fs : List (Nat × Nat))
  | array (n e : Nat)
  | other

structure TI where
  d : TD
  size : Nat
  bytes : Nat
  zero : List Value

def TD.agg : TD → Bool
  | .struct _ | .array _ _ => true
  | _ => false

def TD.is (P : Program) (t : Nat) : TD → Prop
  | .int k => P.underlying t = some (.int k)
  | .bool => P.underlying t = some .bool
  | .str => P.underlying t = some .string
  | .slice e => P.underlying t = some (.slice e)
  | .struct fs => ∃ F, P.underlying t = some (.struct F) ∧ F.toList.map (fun f => (f.offset, f.type)) = fs
  | .array n e => P.underlying t = some (.array n e)
  | .other => ∃ d, P.underlying t = some d ∧ (match d with | .struct _ | .array _ _ => False | _ => True)

structure TyOk (P : Program) (t : Nat) (ti : TI) : Prop where
  desc : ti.d.is P t
  info : ∃ i z, P.info? t = some i ∧ i.size = ti.size ∧ i.bytes = ti.bytes ∧ i.zero = some z ∧ z.cells = ti.zero.toArray

abbrev Tys := List (Nat × TI)

def TysOk (P : Program) : Tys → Prop
  | [] => True
  | (t, ti) :: r => TyOk P t ti ∧ TysOk P r

theorem TysOk.at {P : Program} : ∀ {Γ : Tys}, TysOk P Γ → ∀ {t ti}, look Γ t = some ti → TyOk P t ti
  | [], _, _, _, h => by simp [look] at h
  | (i, x) :: r, h, t, ti, hl => by
    simp only [look] at hl
    cases hb : Nat.beq i t with
    | true => rw [hb] at hl; simp only [Option.some.injEq] at hl; subst hl; have := Nat.eq_of_beq_eq_true hb; subst this; exact h.1
    | false => rw [hb] at hl; exact TysOk.at h.2 hl

def keq : IntKind → IntKind → Bool
  | .i64, .i64 | .u8, .u8 | .u64, .u64 | .i32, .i32 | .u32, .u32 | .i8, .i8 | .i16, .i16 | .u16, .u16 => true
  | _, _ => false

/-- a slot of the frame -/
def lk (st : St) (t : Nat) : Option AVal :=
  match Nat.blt t st.sz with
  | true => look st.sl t
  | false => none

def ev (st : St) : Operand → Option AVal
  | .tmp t => lk st t
  | .const v => match v.oneCell' with
    | true => some (.c v)
    | false => none
  | .func f => some (.clo f [])
  | .global _ => none

def evs (st : St) : List Operand → Option (List AVal)
  | [] => some []
  | o :: r => match ev st o with
    | none => none
    | some a => match evs st r with
      | none => none
      | some l => some (a :: l)

def shl (k : IntKind) (a b : Int) : Int := k.wrap (a * 2 ^ (min b.toNat k.bits))
def shr (k : IntKind) (a b : Int) : Int := a.fdiv (2 ^ (min b.toNat k.bits))

def aint (op : BinOp) (k : IntKind) (a b : Int) (K : AVal → Prop) : Prop :=
  match op with
  | .add => K (.c (.int k (k.wrap (a + b))))
  | .sub => K (.c (.int k (k.wrap (a - b))))
  | .mul => K (.c (.int k (k.wrap (a * b))))
  | .quo => b ≠ 0 ∧ K (.c (.int k (k.wrap (a.tdiv b))))
  | .rem => b ≠ 0 ∧ K (.c (.int k (a.tmod b)))
  | .and => K (.c (.int k (bits .and k a b)))
  | .or => K (.c (.int k (bits .or k a b)))
  | .xor => K (.c (.int k (bits .xor k a b)))
  | .andNot => K (.c (.int k (bits .andNot k a b)))
  | .eql => K (.c (.bool (a == b)))
  | .neq => K (.c (.bool (a != b)))
  | .lss => K (.c (.bool (decide (a < b))))
  | .leq => K (.c (.bool (decide (a ≤ b))))
  | .gtr => K (.c (.bool (decide (a > b))))
  | .geq => K (.c (.bool (decide (a ≥ b))))
  | _ => False

def abin (op : BinOp) (x y : AVal) (K : AVal → Prop) : Prop :=
  match x, y with
  | .c (.int k a), .c (.int k' b) =>
    match op with
    | .shl => 0 ≤ b ∧ K (.c (.int k (shl k a b)))
    | .shr => 0 ≤ b ∧ K (.c (.int k (shr k a b)))
    | _ => match keq k k' with
      | true => aint op k a b K
      | false => False
  | _, _ => False

def abin2 (Γ : Tys) (t : Nat) (op : BinOp) (x y : AVal) (K : AVal → Prop) : Prop :=
  match x, y with
  | .c (.bool a), .c (.bool b) => match look Γ t with
    | some ⟨.bool, _, _, _⟩ => match op with
      | .eql => K (.c (.bool (a == b)))
      | .neq => K (.c (.bool (a != b)))
      | _ => False
    | _ => False
  | .t (.ints _ l), .c (.slice none 0 0) => match look Γ t with
    | some ⟨.slice _, _, _, _⟩ => match op with
      | .eql => ∀ b : Bool, (b = true → l = []) → K (.c (.bool b))
      | _ => False
    | _ => False
  | _, _ => abin op x y K

def aun (op : UnOp) (x : AVal) (K : AVal → Prop) : Prop :=
  match op, x with
  | .not, .c (.bool b) => K (.c (.bool !b))
  | .neg, .c (.int k n) => K (.c (.int k (k.wrap (0 - n))))
  | _, _ => False

def alen (st : St) (x : AVal) (K : AVal → Prop) : Prop :=
  match x with
  | .c (.slice none 0 0) => K (.c (.int .i64 0))
  | .t (.ints _ l) => K (.c (.int .i64 (l.length : Int)))
  | .t (.rows m) => K (.c (.int .i64 (m.length : Int)))
  | .t (.recs _ L) => K (.c (.int .i64 (L.length : Int)))
  | .nul => K (.c (.int .i64 0))
  | .own k => match look st.hp k with
    | some (.ints _ _ l) => K (.c (.int .i64 (l.length : Int)))
    | some (.rows _ _ _ m) => K (.c (.int .i64 (m.length : Int)))
    | some (.recs _ _ L) => K (.c (.int .i64 (L.length : Int)))
    | _ => False
  | .sub k i => match look st.hp k with
    | some (.rows _ _ true m) => K (.c (.int .i64 ((m.getD i []).length : Int)))
    | _ => False
  | _ => False

def aidx (Γ : Tys) (st : St) (ty : Nat) (x ix : AVal) (K : AVal → Prop) : Prop :=
  match ix with
  | .c (.int _ n) =>
    match look Γ ty with
    | some ⟨.slice e, _, _, _⟩ =>
      match look Γ e with
      | some ⟨_, 1, _, _⟩ =>
        match x with
        | .t (.ints k l) => ∃ i : Nat, n = (i : Int) ∧ i < l.length ∧ K (.adr (.ints k l) i)
        | .t (.rows m) => ∃ i : Nat, n = (i : Int) ∧ i < m.length ∧ K (.adr (.rows m) i)
        | .t (.recs 0 L) => ∃ i : Nat, n = (i : Int) ∧ i < L.length ∧ K (.adr (.recs 0 L) i)
        | .own k => match look st.hp k with
          | some (.ints _ _ l) => ∃ i : Nat, n = (i : Int) ∧ i < l.length ∧ K (.ptr k i)
          | some (.rows _ _ _ m) => ∃ i : Nat, n = (i : Int) ∧ i < m.length ∧ K (.ptr k i)
          | _ => False
        | .sub k j => match look st.hp k with
          | some (.rows _ _ true m) => ∃ i : Nat, n = (i : Int) ∧ i < (m.getD j []).length ∧ K (.subp k j i)
          | _ => False
        | _ => False
      | some ⟨_, sz, _, _⟩ => match x with
        | .t (.recs s L) => match Nat.beq sz (s + 1) with
          | true => ∃ i : Nat, n = (i : Int) ∧ i < L.length ∧ K (.adr (.recs s L) i)
          | false => False
        | _ => False
      | none => False
    | some ⟨.array len e, _, _, _⟩ =>
      match look Γ e with
      | some ⟨_, sz, _, _⟩ =>
        match x with
        | .ptr k off => match look st.hp k with
          | some (.cells _ l) => ∃ i : Nat, n = (i : Int) ∧ i < len ∧ off + i * sz < l.length ∧ K (.ptr k (off + i * sz))
          | _ => False
        | .rp l off => ∃ i : Nat, n = (i : Int) ∧ i < len ∧ off + i * sz < l.length ∧ K (.rp l (off + i * sz))
        | _ => False
      | none => False
    | _ => False
  | _ => False

def acell (ti : TI) (l : List AVal) (off : Nat) (K : AVal → Prop) : Prop :=
  match ti.d.agg with
  | true => match Nat.ble (off + ti.size) l.length with
    | true => K (.ag ((l.drop off).take ti.size))
    | false => False
  | false => match nth l off with
    | some a => K a
    | none => False

/-- a struct as its fields: integers, then a slice of slices -/
def recA (r : List Int × List (List Int)) : Nat → Nat → List AVal
  | 0, _ => [.t (.rows r.2)]
  | s + 1, j => .c (.int .i64 (r.1.getD j 0)) :: recA r s (j + 1)

def aload (Γ : Tys) (st : St) (ty : Nat) (x : AVal) (K : AVal → Prop) : Prop :=
  match look Γ ty with
  | none => False
  | some ti =>
    match x with
    | .adr (.ints k l) i => match ti.d.agg with | false => K (.c (.int k (l.getD i 0))) | true => False
    | .adr (.rows m) i => match ti.d.agg with | false => K (.t (.ints .i64 (m.getD i []))) | true => False
    | .adr (.recs s L) i => match ti.d.agg with
      | true => match Nat.beq ti.size (s + 1) with
        | true => K (.ag (recA (L.getD i ([], [])) s 0))
        | false => False
      | false => match s with
        | 0 => K (.t (.rows (L.getD i ([], [])).2))
        | _ => False
    | .knot f l n => match ti.d.agg with | false => K (.clo f (l.take n ++ .knot f l n :: l.drop n)) | true => False
    | .ptr k off => match look st.hp k with
      | some (.ints _ kd l) => match ti.d.agg with | false => K (.c (.int kd (l.getD off 0))) | true => False
      | some (.rows _ _ true _) => match ti.d.agg with | false => K (.sub k off) | true => False
      | some (.rows _ _ false m) => match ti.d.agg with | false => K (.t (.ints .i64 (m.getD off []))) | true => False
      | some (.cells _ l) => acell ti l off K
      | some (.recs ..) => False
      | none => False
    | .subp k i j => match look st.hp k with
      | some (.rows _ _ true m) => match ti.d.agg with | false => K (.c (.int .i64 ((m.getD i []).getD j 0))) | true => False
      | _ => False
    | .rp l off => acell ti l off K
    | _ => False

def afaddr (Γ : Tys) (st : St) (s : Nat) (x : AVal) (f : Nat) (K : AVal → Prop) : Prop :=
  match look Γ s with
  | some ⟨.struct fs, _, _, _⟩ => match nth fs f with
    | some (o, ft) => match look Γ ft with
      | some ⟨_, _ + 1, _, _⟩ => match x with
        | .ptr k off => match look st.hp k with
          | some (.cells _ l) => match Nat.blt (off + o) l.length with
            | true => K (.ptr k (off + o))
            | false => False
          | _ => False
        | .rp l off => K (.rp l (off + o))
        | _ => False
      | _ => False
    | none => False
  | _ => False

def afield (Γ : Tys) (s : Nat) (x : AVal) (f : Nat) (K : AVal → Prop) : Prop :=
  match look Γ s with
  | some ⟨.struct fs, _, _, _⟩ => match nth fs f with
    | some (o, ft) => match look Γ ft with
      | some ti => match x with
        | .ag l => acell ti l o K
        | _ => False
      | none => False
    | none => False
  | _ => False

def amm (mx : Bool) (acc : Int) : List AVal → Option Int
  | [] => some acc
  | .c (.int _ b) :: r => amm mx (match mx with | true => (if b > acc then b else acc) | false => (if b < acc then b else acc)) r
  | _ => none

def ammx (mx : Bool) (l : List AVal) (K : AVal → Prop) : Prop :=
  match l with
  | .c (.int k a) :: r => match amm mx a r with
    | some n => K (.c (.int k n))
    | none => False
  | _ => False

def aslice (Γ : Tys) (ty : Nat) (x : AVal) (lo hi : Option AVal) (K : AVal → Prop) : Prop :=
  match look Γ ty with
  | some ⟨.slice e, _, _, _⟩ =>
    match look Γ e with
    | some ⟨_, 1, _, _⟩ =>
      match x with
      | .t (.ints k l) =>
        match lo, hi with
        | some (.c (.int _ a)), none => ∃ i : Nat, a = (i : Int) ∧ i ≤ l.length ∧ K (.t (.ints k (l.drop i)))
        | none, some (.c (.int _ b)) => ∃ j : Nat, b = (j : Int) ∧ j ≤ l.length ∧ K (.t (.ints k (l.take j)))
        | some (.c (.int _ a)), some (.c (.int _ b)) => ∃ i j : Nat, a = (i : Int) ∧ b = (j : Int) ∧ i ≤ j ∧ j ≤ l.length ∧ K (.t (.ints k ((l.take j).drop i)))
        | _, _ => False
      | _ => False
    | _ => False
  | _ => False

def oAll {α β : Type} (f : α → Option β) : List α → Option (List β)
  | [] => some []
  | a :: r => match f a with
    | none => none
    | some b => match oAll f r with
      | none => none
      | some l => some (b :: l)

def isKey (hp : List (Nat × ARow)) (k : Nat) : Bool :=
  match look hp k with
  | some _ => true
  | none => false

/-- a value of one cell -/
def one (hp : List (Nat × ARow)) : AVal → Bool
  | .un | .ag _ | .tu _ => false
  | .own k | .ptr k _ | .sub k _ | .subp k _ _ => isKey hp k
  | _ => true

def ones (hp : List (Nat × ARow)) : List AVal → Bool
  | [] => true
  | a :: r => match one hp a with | true => ones hp r | false => false

def aplace (Γ : Tys) (p : Nat × Nat) : Option (Nat × Nat) :=
  match look Γ p.2 with
  | some ti => some (p.1, ti.size)
  | none => none

/-- fields of a struct built by value, each of one cell -/
def afill (hp : List (Nat × ARow)) (ps : List (Nat × Nat)) (l : List AVal) : List (Nat × AVal) → Option (List AVal)
  | [] => some l
  | (i, a) :: r => match nth ps i with
    | some (o, 1) => match one hp a with
      | true => match Nat.blt o l.length with
        | true => afill hp ps (l.set o a) r
        | false => none
      | false => none
    | _ => none

/-- elements of an array built by value, each of one cell -/
def afillA (hp : List (Nat × ARow)) (l : List AVal) : List (Nat × AVal) → Option (List AVal)
  | [] => some l
  | (i, a) :: r => match one hp a with
    | true => match Nat.blt i l.length with
      | true => afillA hp (l.set i a) r
      | false => none
    | false => none

def abuild (Γ : Tys) (st : St) (ty : Nat) (parts : List (Nat × AVal)) (K : AVal → Prop) : Prop :=
  match look Γ ty with
  | some ⟨.struct fs, _, _, z⟩ => match oAll (aplace Γ) fs with
    | some ps => match z.all Value.oneCell' with
      | true => match afill st.hp ps (z.map .c) parts with
        | some l => K (.ag l)
        | none => False
      | false => False
    | none => False
  | some ⟨.array _ e, _, _, z⟩ => match look Γ e with
    | some ⟨_, 1, _, _⟩ => match z.all Value.oneCell' with
      | true => match afillA st.hp (z.map .c) parts with
        | some l => K (.ag l)
        | none => False
      | false => False
    | _ => False
  | _ => False

/-- a value told without the call's own rows: what a callee may be handed -/
def closeRow : ARow → Option T
  | .ints _ k l => some (.ints k l)
  | .rows _ _ _ m => some (.rows m)
  | .cells .. => none
  | .recs _ s L => some (.recs s L)

mutual
def clo1 (g : Nat → Nat → Option AVal) (hp : List (Nat × ARow)) : AVal → Option AVal
  | .c v => some (.c v)
  | .t t => some (.t t)
  | .own k => match look hp k with
    | some r => match closeRow r with
      | some t => some (.t t)
      | none => none
    | none => none
  | .sub k i => match look hp k with
    | some (.rows _ _ true m) => some (.t (.ints .i64 (m.getD i [])))
    | _ => none
  | .ptr k off => g k off
  | .ag l => match clos g hp l with
    | some l' => some (.ag l')
    | none => none
  | .rp l off => match clos g hp l with
    | some l' => some (.rp l' off)
    | none => none
  | .clo f l => match clos g hp l with
    | some l' => some (.clo f l')
    | none => none
  | .knot f l n => match clos g hp l with
    | some l' => some (.knot f l' n)
    | none => none
  | .nul => some (.t (.ints .i64 []))
  | _ => none
def clos (g : Nat → Nat → Option AVal) (hp : List (Nat × ARow)) : List AVal → Option (List AVal)
  | [] => some []
  | a :: r => match clo1 g hp a with
    | none => none
    | some b => match clos g hp r with
      | none => none
      | some l => some (b :: l)
end

/-- the place at which a list leads to the first cell of row k -/
def selfAt (k : Nat) : List AVal → Option Nat
  | [] => none
  | .ptr j 0 :: r => match Nat.beq j k with
    | true => some 0
    | false => match selfAt k r with | some n => some (n + 1) | none => none
  | _ :: r => match selfAt k r with | some n => some (n + 1) | none => none

/-- a variable that holds a closure which captures that variable -/
def selfClo (k off : Nat) : List AVal → Option (FuncId × List AVal × Nat)
  | [.clo f caps] => match off with
    | 0 => match selfAt k caps with
      | some n => some (f, caps, n)
      | none => none
    | _ => none
  | _ => none

def cloP (g : Nat → Nat → Option AVal) (hp : List (Nat × ARow)) (k off : Nat) : Option AVal :=
  match look hp k with
  | some (.cells _ l) => match selfClo k off l with
    | some (f, caps, n) => match clos g hp (caps.take n ++ caps.drop (n + 1)) with
      | some l' => some (.knot f l' n)
      | none => none
    | none => match clos g hp l with
      | some l' => some (.rp l' off)
      | none => none
  | _ => none

def clo0 (hp : List (Nat × ARow)) : Nat → Nat → Nat → Option AVal
  | 0 => fun _ _ => none
  | n + 1 => cloP (clo0 hp n) hp

def closeArgs (hp : List (Nat × ARow)) (l : List AVal) : Option (List AVal) := clos (clo0 hp 3) hp l

mutual
/-- does it lead to a row of the call's own? -/
def hasOwn : AVal → Bool
  | .own _ | .sub _ _ | .ptr _ _ | .subp _ _ _ | .un => true
  | .ag l | .tu l | .clo _ l | .rp l _ | .knot _ l _ => hasOwns l
  | _ => false
def hasOwns : List AVal → Bool
  | [] => false
  | a :: r => hasOwn a || hasOwns r
end

mutual
/-- nothing read-only is shared in it -/
def noSh : AVal → Bool
  | .c _ | .own _ | .nul => true
  | .ag l | .tu l => noShs l
  | _ => false
def noShs : List AVal → Bool
  | [] => true
  | a :: r => noSh a && noShs r
end

def rowsOwn : List (Nat × ARow) → Bool
  | [] => true
  | (_, .ints ..) :: r => rowsOwn r
  | (_, .rows _ _ true _) :: r => rowsOwn r
  | _ :: _ => false

mutual
def AVal.shift (d : Nat) : AVal → AVal
  | .own k => .own (k + d)
  | .sub k i => .sub (k + d) i
  | .ptr k o => .ptr (k + d) o
  | .subp k i j => .subp (k + d) i j
  | .ag l => .ag (shifts d l)
  | .tu l => .tu (shifts d l)
  | .clo f l => .clo f (shifts d l)
  | .rp l o => .rp (shifts d l) o
  | .knot f l n => .knot f (shifts d l) n
  | a => a
def shifts (d : Nat) : List AVal → List AVal
  | [] => []
  | a :: r => a.shift d :: shifts d r
end

def ARow.shift (d : Nat) : ARow → ARow
  | .cells e l => .cells e (shifts d l)
  | r => r

def shiftH (d : Nat) : List (Nat × ARow) → List (Nat × ARow)
  | [] => []
  | (k, r) :: h => (k + d, r.shift d) :: shiftH d h

mutual
/-- keep the references to rows that 'f' lets (own, ptr) and that 'g' lets (sub, subp) -/
def AVal.flt (f g : Nat → Bool) : AVal → AVal
  | .own j => match f j with | true => .own j | false => .un
  | .ptr j o => match f j with | true => .ptr j o | false => .un
  | .sub j i => match g j with | true => .sub j i | false => .un
  | .subp j i o => match g j with | true => .subp j i o | false => .un
  | .ag l => .ag (flts f g l)
  | .tu l => .tu (flts f g l)
  | .clo h l => .clo h (flts f g l)
  | .rp l o => .rp (flts f g l) o
  | .knot h l n => .knot h (flts f g l) n
  | a => a
def flts (f g : Nat → Bool) : List AVal → List AVal
  | [] => []
  | a :: r => a.flt f g :: flts f g r
end

def ne (k j : Nat) : Bool := match Nat.beq j k with | true => false | false => true

def ARow.flt (f g : Nat → Bool) : ARow → ARow
  | .cells e l => .cells e (flts f g l)
  | r => r

def fltH (f g : Nat → Bool) : List (Nat × ARow) → List (Nat × ARow)
  | [] => []
  | (j, r) :: h => (j, r.flt f g) :: fltH f g h

def fltS (f g : Nat → Bool) : List (Nat × AVal) → List (Nat × AVal)
  | [] => []
  | (i, a) :: s => (i, a.flt f g) :: fltS f g s

def rem {α : Type} (k : Nat) : List (Nat × α) → List (Nat × α)
  | [] => []
  | (j, r) :: h => match Nat.beq j k with | true => rem k h | false => (j, r) :: rem k h

namespace St
def put (st : St) (d : Nat) (a : AVal) : St := { st with sl := (d, a) :: st.sl }
def drop1 (st : St) (d : Nat) : St := { st with sl := rem d st.sl }
def kill (st : St) (k : Nat) : St := { st with sl := fltS (ne k) (ne k) st.sl, hp := fltH (ne k) (ne k) st.hp }
def killSub (st : St) (k : Nat) : St := { st with sl := fltS (fun _ => true) (ne k) st.sl, hp := fltH (fun _ => true) (ne k) st.hp }
def del (st : St) (k : Nat) : St := { st with hp := rem k st.hp }
def upd (st : St) (k : Nat) (r : ARow) : St := { st with hp := (k, r) :: rem k st.hp }
def new (st : St) (r : ARow) : St := { st with hp := (st.nx, r) :: st.hp, nx := st.nx + 1 }
def add (st : St) (h : List (Nat × ARow)) : St := { st with hp := shiftH st.nx h ++ st.hp, nx := st.nx + h.length }
end St

end Go.Aw
