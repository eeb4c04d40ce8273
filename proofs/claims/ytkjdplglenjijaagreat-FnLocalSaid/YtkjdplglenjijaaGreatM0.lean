/- The abstract states of a small weakest-precondition engine: what the slots of a frame and the rows of the call's own hold. Nothing here speaks of one program. -/
import Derived.WalkKit
import Derived.Deep.Quiet
import Derived.StillTail
import Derived.KernelRfl
namespace Go.Aw
open Go.RowKit

def look {α : Type} : List (Nat × α) → Nat → Option α
  | [], _ => none
  | (i, x) :: r, k => match Nat.beq i k with
    | true => some x
    | false => look r k

def nth {α : Type} : List α → Nat → Option α
  | [], _ => none
  | x :: _, 0 => some x
  | _ :: r, n + 1 => nth r n

theorem nth_eq {α : Type} : ∀ (l : List α) (n : Nat), nth l n = l[n]?
  | [], _ => by simp [nth]
  | _ :: _, 0 => by simp [nth]
  | _ :: r, n + 1 => by simp [nth, nth_eq r n]

/-- read-only slices -/
inductive T where
  | ints (k : IntKind) (l : List Int)
  | rows (m : List (List Int))
  | recs (s : Nat) (L : List (List Int × List (List Int)))

inductive AVal where
  | un
  | c (v : Value)
  | t (t : T)
  | ag (l : List AVal)
  | tu (l : List AVal)
  | own (k : Nat)
  | sub (k i : Nat)
  | ptr (k off : Nat)
  | subp (k i j : Nat)
  | adr (t : T) (i : Nat)
  | rp (l : List AVal) (off : Nat)
  | clo (f : FuncId) (l : List AVal)
  | knot (f : FuncId) (l : List AVal) (n : Nat)
  | nul

/-- rows of the call's own: a slice of integers; a slice of slices of integers (u: the inner ones its own too); a variable's cells -/
inductive ARow where
  | ints (e : Nat) (k : IntKind) (l : List Int)
  | rows (e e1 : Nat) (u : Bool) (m : List (List Int))
  | cells (e : Nat) (l : List AVal)
  | recs (e s : Nat) (L : List (List Int × List (List Int)))

def ARow.kind : ARow → Nat
  | .ints .. => 1
  | .rows _ _ true _ => 2
  | .rows _ _ false _ => 3
  | .cells .. => 4
  | .recs .. => 0

structure St where
  sz : Nat
  sl : List (Nat × AVal)
  hp : List (Nat × ARow)
  nx : Nat

structure Env where
  val : Nat → Value
  cel : Nat → List Value

def blk : Value → List Nat
  | .slice (some a) _ _ => [a.block]
  | .pointer (some a) => [a.block]
  | _ => []

def SInts (w : World) (bad : Nat → Prop) (k : IntKind) (l : List Int) (v : Value) : Prop :=
  ∃ a c, v = .slice a l.length c ∧ l.length ≤ c ∧ c ≤ maxLen ∧
    ∀ i x, l[i]? = some x → ∃ b o, a = some ⟨b, o, none⟩ ∧ ¬ bad b ∧ w.cell? ⟨b, o + i, none⟩ = some (.int k x)

def SRows (w : World) (bad : Nat → Prop) (m : List (List Int)) (v : Value) : Prop :=
  ∃ a c, v = .slice a m.length c ∧ m.length ≤ c ∧ c ≤ maxLen ∧
    ∀ i l, m[i]? = some l → ∃ b o u, a = some ⟨b, o, none⟩ ∧ ¬ bad b ∧ w.cell? ⟨b, o + i, none⟩ = some u ∧ SInts w bad .i64 l u

/-- how many cells an element has: s < 100: s integers and a slice of slices; from 100 on: an array of s - 99 integers -/
def stp (s : Nat) : Nat := match Nat.ble 100 s with | true => s - 99 | false => s + 1

/-- the cells of a struct: s integers, then a slice of slices; of an array: integers -/
def SRec (w : World) (bad : Nat → Prop) (s : Nat) (r : List Int × List (List Int)) (cs : List Value) : Prop :=
  match Nat.ble 100 s with
  | false => r.1.length = s ∧ ∃ u, cs = r.1.map (Value.int .i64) ++ [u] ∧ SRows w bad r.2 u
  | true => r.1.length = s - 99 ∧ cs = r.1.map (Value.int .i64)

def SRecs (w : World) (bad : Nat → Prop) (s : Nat) (L : List (List Int × List (List Int))) (v : Value) : Prop :=
  ∃ a c, v = .slice a L.length c ∧ L.length ≤ c ∧ c ≤ maxLen ∧
    ∀ i r, L[i]? = some r → ∃ b o cs, a = some ⟨b, o, none⟩ ∧ ¬ bad b ∧ SRec w bad s r cs ∧ ∀ j u, cs[j]? = some u → w.cell? ⟨b, o + i * stp s + j, none⟩ = some u

def TRep (w : World) (bad : Nat → Prop) : T → Value → Prop
  | .ints k l, v => SInts w bad k l v
  | .rows m, v => SRows w bad m v
  | .recs s L, v => SRecs w bad s L v

/-- a pointer to the i-th element of a read-only slice -/
def ARep (w : World) (bad : Nat → Prop) : T → Nat → Value → Prop
  | .ints k l, i, v => ∃ b o x, v = .pointer (some ⟨b, o, none⟩) ∧ l[i]? = some x ∧ ¬ bad b ∧ w.cell? ⟨b, o, none⟩ = some (.int k x)
  | .rows m, i, v => ∃ b o l u, v = .pointer (some ⟨b, o, none⟩) ∧ m[i]? = some l ∧ ¬ bad b ∧ w.cell? ⟨b, o, none⟩ = some u ∧ SInts w bad .i64 l u
  | .recs s L, i, v => ∃ b o r cs, v = .pointer (some ⟨b, o, none⟩) ∧ L[i]? = some r ∧ ¬ bad b ∧ SRec w bad s r cs ∧ ∀ j u, cs[j]? = some u → w.cell? ⟨b, o + j, none⟩ = some u

def F2 {α β : Type} (R : α → β → Prop) : List α → List β → Prop
  | [], [] => True
  | a :: l, b :: r => R a b ∧ F2 R l r
  | _, _ => False

section
variable (w : World) (bad : Nat → Prop) (hp : List (Nat × ARow)) (nx : Nat) (η : Env)
mutual
def VRep : AVal → Value → Prop
  | .un, _ => True
  | .c y, v => v = y ∧ y.oneCell' = true
  | .t t, v => TRep w bad t v
  | .ag l, v => ∃ cs : List Value, v = .agg cs.toArray ∧ VReps l cs
  | .tu l, v => ∃ cs : List Value, v = .tuple cs.toArray ∧ VReps l cs
  | .own k, v => k < nx ∧ ∀ r, look hp k = some r → r.kind < 4 ∧ v = η.val k
  | .sub k i, v => k < nx ∧ ∀ r, look hp k = some r → r.kind = 2 ∧ (η.cel k)[i]? = some v
  | .ptr k off, v => k < nx ∧ ∀ r, look hp k = some r → off < (η.cel k).length ∧ ∃ b, blk (η.val k) = [b] ∧ v = .pointer (some ⟨b, off, none⟩)
  | .subp k i j, v => k < nx ∧ ∀ r, look hp k = some r → r.kind = 2 ∧ ∃ b n c, (η.cel k)[i]? = some (.slice (some ⟨b, 0, none⟩) n c) ∧ j < n ∧ v = .pointer (some ⟨b, j, none⟩)
  | .adr t i, v => ARep w bad t i v
  | .rp l off, v => ∃ (b : Nat) (cs : List Value), v = .pointer (some ⟨b, off, none⟩) ∧ VReps l cs ∧ ∀ i u, cs[i]? = some u → ¬ bad b ∧ w.cell? ⟨b, i, none⟩ = some u
  | .clo f l, v => ∃ cs : List Value, v = .func (.func f) #[] cs.toArray ∧ VReps l cs
  | .knot f l n, v => ∃ (b : Nat) (cs : List Value), v = .pointer (some ⟨b, 0, none⟩) ∧ VReps l cs ∧ ¬ bad b ∧ w.cell? ⟨b, 0, none⟩ = some (.func (.func f) #[] (cs.take n ++ v :: cs.drop n).toArray)
  | .nul, v => ∃ ba : Option Addr, v = .slice ba 0 0
def VReps : List AVal → List Value → Prop
  | [], [] => True
  | a :: l, v :: vs => VRep a v ∧ VReps l vs
  | _, _ => False
end
end

def OwnInts (w : World) (B e : Nat) (k : IntKind) (l : List Int) (v : Value) : Prop := w.ownsRow B e 1 v l.length (l.map (Value.int k))

def RowRep (w : World) (B : Nat) (bad : Nat → Prop) (hp : List (Nat × ARow)) (nx : Nat) (η : Env) (k : Nat) : ARow → Prop
  | .ints e kd l => OwnInts w B e kd l (η.val k) ∧ η.cel k = l.map (Value.int kd)
  | .rows e e1 true m => w.ownsRow B e 1 (η.val k) m.length (η.cel k) ∧ F2 (OwnInts w B e1 .i64) m (η.cel k)
  | .rows e _ false m => w.ownsRow B e 1 (η.val k) m.length (η.cel k) ∧ F2 (SInts w bad .i64) m (η.cel k)
  | .cells e l => ∃ b, η.val k = .pointer (some ⟨b, 0, none⟩) ∧ B ≤ b ∧ w.heap[b]? = some (.cells (η.cel k).toArray e (0, 0)) ∧ VReps w bad hp nx η l (η.cel k)
  | .recs e s L => w.ownsRow B e (stp s) (η.val k) L.length (η.cel k) ∧ ∃ css : List (List Value), η.cel k = css.flatten ∧ F2 (SRec w bad s) L css

def bsOf (η : Env) (k : Nat) (r : ARow) : List Nat := blk (η.val k) ++ (if r.kind = 2 then (η.cel k).flatMap blk else [])

def ownB (hp : List (Nat × ARow)) (η : Env) (b : Nat) : Prop := ∃ k r, look hp k = some r ∧ b ∈ bsOf η k r

structure HRep (w : World) (B : Nat) (obad : Nat → Prop) (hp : List (Nat × ARow)) (nx : Nat) (η : Env) : Prop where
  row : ∀ k r, look hp k = some r → RowRep w B (fun b => obad b ∨ ownB hp η b) hp nx η k r
  nodup : ∀ k r, look hp k = some r → (bsOf η k r).Nodup
  apart : ∀ k r k' r', look hp k = some r → look hp k' = some r' → k ≠ k' → ∀ b, b ∈ bsOf η k r → b ∉ bsOf η k' r'
  lt : ∀ k r, look hp k = some r → k < nx

/-- where a call began: the world; the number from which blocks are its own to write; the blocks of its caller that it may write; values that lie in no slot of its own -/
structure Base where
  w : World
  B : Nat
  may : Nat → Prop
  γ : Nat → Value

structure BaseOk (w0 : Base) (obad : Nat → Prop) : Prop where
  le : w0.B ≤ w0.w.heap.size
  obl : ∀ b, obad b → b < w0.w.heap.size
  may : ∀ b, w0.may b → ¬ obad b

structure SRep (w0 : Base) (obad : Nat → Prop) (st : St) (a : Act) (w : World) (η : Env) : Prop where
  defers : a.defers = []
  size : a.tmps.size = st.sz
  below : Below w0.B w0.w w
  base : BaseOk w0 obad
  frame : ∀ b, b < w0.w.heap.size → ¬ w0.may b → w.heap[b]? = w0.w.heap[b]?
  src : ∀ b, ownB st.hp η b → w0.may b ∨ w0.w.heap.size ≤ b
  heap : HRep w w0.B obad st.hp st.nx η
  slot : ∀ i x, look st.sl i = some x → VRep w (fun b => obad b ∨ ownB st.hp η b) st.hp st.nx η x (a.tmps.getD i (w0.γ i))

def StRep (w0 : Base) (obad : Nat → Prop) (st : St) (a : Act) (w : World) : Prop := ∃ η, SRep w0 obad st a w η

end Go.Aw
/- The engine's reckoning: what each operation and each piece of code does to an abstract state, as a condition to be proved. Only definitions. -/
namespace Go.Aw

inductive TD where
  | int (k : IntKind)
  | bool
  | str
  | slice (e : Nat)
  | struct (fs : List (Nat × Nat))
  | array (n e : Nat)
  | other

structure TI where
  d : TD
  size : Nat
  bytes : Nat
  zero : List Value

def TD.agg : TD → Bool
  | .struct _ | .array _ _ => true
  | _ => false

def TD.is (P : Program) (t : Nat) : TD → Prop
  | .int k => P.underlying t = some (.int k)
  | .bool => P.underlying t = some .bool
  | .str => P.underlying t = some .string
  | .slice e => P.underlying t = some (.slice e)
  | .struct fs => ∃ F, P.underlying t = some (.struct F) ∧ F.toList.map (fun f => (f.offset, f.type)) = fs
  | .array n e => P.underlying t = some (.array n e)
  | .other => ∃ d, P.underlying t = some d ∧ (match d with | .struct _ | .array _ _ => False | _ => True)

structure TyOk (P : Program) (t : Nat) (ti : TI) : Prop where
  desc : ti.d.is P t
  info : ∃ i z, P.info? t = some i ∧ i.size = ti.size ∧ i.bytes = ti.bytes ∧ i.zero = some z ∧ z.cells = ti.zero.toArray

abbrev Tys := List (Nat × TI)

def TysOk (P : Program) : Tys → Prop
  | [] => True
  | (t, ti) :: r => TyOk P t ti ∧ TysOk P r

theorem TysOk.at {P : Program} : ∀ {Γ : Tys}, TysOk P Γ → ∀ {t ti}, look Γ t = some ti → TyOk P t ti
  | [], _, _, _, h => by simp [look] at h
  | (i, x) :: r, h, t, ti, hl => by
    simp only [look] at hl
    cases hb : Nat.beq i t with
    | true => rw [hb] at hl; simp only [Option.some.injEq] at hl; subst hl; have := Nat.eq_of_beq_eq_true hb; subst this; exact h.1
    | false => rw [hb] at hl; exact TysOk.at h.2 hl

def keq : IntKind → IntKind → Bool
  | .i64, .i64 | .u8, .u8 | .u64, .u64 | .i32, .i32 | .u32, .u32 | .i8, .i8 | .i16, .i16 | .u16, .u16 => true
  | _, _ => false

/-- a slot of the frame -/
def lk (st : St) (t : Nat) : Option AVal :=
  match Nat.blt t st.sz with
  | true => look st.sl t
  | false => none

def ev (st : St) : Operand → Option AVal
  | .tmp t => lk st t
  | .const v => match v.oneCell' with
    | true => some (.c v)
    | false => none
  | .func f => some (.clo f [])
  | .global _ => none

def evs (st : St) : List Operand → Option (List AVal)
  | [] => some []
  | o :: r => match ev st o with
    | none => none
    | some a => match evs st r with
      | none => none
      | some l => some (a :: l)

def shl (k : IntKind) (a b : Int) : Int := k.wrap (a * 2 ^ (min b.toNat k.bits))
def shr (k : IntKind) (a b : Int) : Int := a.fdiv (2 ^ (min b.toNat k.bits))

def aint (op : BinOp) (k : IntKind) (a b : Int) (K : AVal → Prop) : Prop :=
  match op with
  | .add => K (.c (.int k (k.wrap (a + b))))
  | .sub => K (.c (.int k (k.wrap (a - b))))
  | .mul => K (.c (.int k (k.wrap (a * b))))
  | .quo => b ≠ 0 ∧ K (.c (.int k (k.wrap (a.tdiv b))))
  | .rem => b ≠ 0 ∧ K (.c (.int k (a.tmod b)))
  | .and => K (.c (.int k (bits .and k a b)))
  | .or => K (.c (.int k (bits .or k a b)))
  | .xor => K (.c (.int k (bits .xor k a b)))
  | .andNot => K (.c (.int k (bits .andNot k a b)))
  | .eql => K (.c (.bool (a == b)))
  | .neq => K (.c (.bool (a != b)))
  | .lss => K (.c (.bool (decide (a < b))))
  | .leq => K (.c (.bool (decide (a ≤ b))))
  | .gtr => K (.c (.bool (decide (a > b))))
  | .geq => K (.c (.bool (decide (a ≥ b))))
  | _ => False

def abin (op : BinOp) (x y : AVal) (K : AVal → Prop) : Prop :=
  match x, y with
  | .c (.int k a), .c (.int k' b) =>
    match op with
    | .shl => 0 ≤ b ∧ K (.c (.int k (shl k a b)))
    | .shr => 0 ≤ b ∧ K (.c (.int k (shr k a b)))
    | _ => match keq k k' with
      | true => aint op k a b K
      | false => False
  | _, _ => False

def abin2 (Γ : Tys) (t : Nat) (op : BinOp) (x y : AVal) (K : AVal → Prop) : Prop :=
  match x, y with
  | .c (.bool a), .c (.bool b) => match look Γ t with
    | some ⟨.bool, _, _, _⟩ => match op with
      | .eql => K (.c (.bool (a == b)))
      | .neq => K (.c (.bool (a != b)))
      | _ => False
    | _ => False
  | .t (.ints _ l), .c (.slice none 0 0) => match look Γ t with
    | some ⟨.slice _, _, _, _⟩ => match op with
      | .eql => ∀ b : Bool, (b = true → l = []) → K (.c (.bool b))
      | _ => False
    | _ => False
  | _, _ => abin op x y K

def aun (op : UnOp) (x : AVal) (K : AVal → Prop) : Prop :=
  match op, x with
  | .not, .c (.bool b) => K (.c (.bool !b))
  | .neg, .c (.int k n) => K (.c (.int k (k.wrap (0 - n))))
  | _, _ => False

def alen (st : St) (x : AVal) (K : AVal → Prop) : Prop :=
  match x with
  | .c (.slice none 0 0) => K (.c (.int .i64 0))
  | .t (.ints _ l) => K (.c (.int .i64 (l.length : Int)))
  | .t (.rows m) => K (.c (.int .i64 (m.length : Int)))
  | .t (.recs _ L) => K (.c (.int .i64 (L.length : Int)))
  | .nul => K (.c (.int .i64 0))
  | .own k => match look st.hp k with
    | some (.ints _ _ l) => K (.c (.int .i64 (l.length : Int)))
    | some (.rows _ _ _ m) => K (.c (.int .i64 (m.length : Int)))
    | some (.recs _ _ L) => K (.c (.int .i64 (L.length : Int)))
    | _ => False
  | .sub k i => match look st.hp k with
    | some (.rows _ _ true m) => K (.c (.int .i64 ((m.getD i []).length : Int)))
    | _ => False
  | _ => False

def aidx (Γ : Tys) (st : St) (ty : Nat) (x ix : AVal) (K : AVal → Prop) : Prop :=
  match ix with
  | .c (.int _ n) =>
    match look Γ ty with
    | some ⟨.slice e, _, _, _⟩ =>
      match look Γ e with
      | some ⟨_, 1, _, _⟩ =>
        match x with
        | .t (.ints k l) => ∃ i : Nat, n = (i : Int) ∧ i < l.length ∧ K (.adr (.ints k l) i)
        | .t (.rows m) => ∃ i : Nat, n = (i : Int) ∧ i < m.length ∧ K (.adr (.rows m) i)
        | .t (.recs 0 L) => ∃ i : Nat, n = (i : Int) ∧ i < L.length ∧ K (.adr (.recs 0 L) i)
        | .own k => match look st.hp k with
          | some (.ints _ _ l) => ∃ i : Nat, n = (i : Int) ∧ i < l.length ∧ K (.ptr k i)
          | some (.rows _ _ _ m) => ∃ i : Nat, n = (i : Int) ∧ i < m.length ∧ K (.ptr k i)
          | some (.recs _ 0 L) => ∃ i : Nat, n = (i : Int) ∧ i < L.length ∧ K (.ptr k i)
          | _ => False
        | .sub k j => match look st.hp k with
          | some (.rows _ _ true m) => ∃ i : Nat, n = (i : Int) ∧ i < (m.getD j []).length ∧ K (.subp k j i)
          | _ => False
        | _ => False
      | some ⟨_, sz, _, _⟩ => match x with
        | .t (.recs s L) => match Nat.beq sz (stp s) with
          | true => ∃ i : Nat, n = (i : Int) ∧ i < L.length ∧ K (.adr (.recs s L) i)
          | false => False
        | _ => False
      | none => False
    | some ⟨.array len e, _, _, _⟩ =>
      match look Γ e with
      | some ⟨_, sz, _, _⟩ =>
        match x with
        | .ptr k off => match look st.hp k with
          | some (.cells _ l) => ∃ i : Nat, n = (i : Int) ∧ i < len ∧ off + i * sz < l.length ∧ K (.ptr k (off + i * sz))
          | _ => False
        | .rp l off => ∃ i : Nat, n = (i : Int) ∧ i < len ∧ off + i * sz < l.length ∧ K (.rp l (off + i * sz))
        | _ => False
      | none => False
    | _ => False
  | _ => False

def acell (ti : TI) (l : List AVal) (off : Nat) (K : AVal → Prop) : Prop :=
  match ti.d.agg with
  | true => match Nat.ble (off + ti.size) l.length with
    | true => K (.ag ((l.drop off).take ti.size))
    | false => False
  | false => match nth l off with
    | some a => K a
    | none => False

/-- a struct as its fields: integers, then a slice of slices -/
def recA (r : List Int × List (List Int)) : Nat → Nat → List AVal
  | 0, _ => [.t (.rows r.2)]
  | s + 1, j => .c (.int .i64 (r.1.getD j 0)) :: recA r s (j + 1)

/-- an array as its integers -/
def intsA (l : List Int) : Nat → Nat → List AVal
  | 0, _ => []
  | n + 1, j => .c (.int .i64 (l.getD j 0)) :: intsA l n (j + 1)
def recB (r : List Int × List (List Int)) (s : Nat) : List AVal :=
  match Nat.ble 100 s with
  | true => intsA r.1 (s - 99) 0
  | false => recA r s 0

def aload (Γ : Tys) (st : St) (ty : Nat) (x : AVal) (K : AVal → Prop) : Prop :=
  match look Γ ty with
  | none => False
  | some ti =>
    match x with
    | .adr (.ints k l) i => match ti.d.agg with | false => K (.c (.int k (l.getD i 0))) | true => False
    | .adr (.rows m) i => match ti.d.agg with | false => K (.t (.ints .i64 (m.getD i []))) | true => False
    | .adr (.recs s L) i => match ti.d.agg with
      | true => match Nat.beq ti.size (stp s) with
        | true => K (.ag (recB (L.getD i ([], [])) s))
        | false => False
      | false => match s with
        | 0 => K (.t (.rows (L.getD i ([], [])).2))
        | _ => False
    | .knot f l n => match ti.d.agg with | false => K (.clo f (l.take n ++ .knot f l n :: l.drop n)) | true => False
    | .ptr k off => match look st.hp k with
      | some (.ints _ kd l) => match ti.d.agg with | false => K (.c (.int kd (l.getD off 0))) | true => False
      | some (.rows _ _ true _) => match ti.d.agg with | false => K (.sub k off) | true => False
      | some (.rows _ _ false m) => match ti.d.agg with | false => K (.t (.ints .i64 (m.getD off []))) | true => False
      | some (.cells _ l) => acell ti l off K
      | some (.recs _ s L) => match ti.d.agg with
        | true => False
        | false => match s with
          | 0 => K (.t (.rows (L.getD off ([], [])).2))
          | _ => False
      | none => False
    | .subp k i j => match look st.hp k with
      | some (.rows _ _ true m) => match ti.d.agg with | false => K (.c (.int .i64 ((m.getD i []).getD j 0))) | true => False
      | _ => False
    | .rp l off => acell ti l off K
    | _ => False

def afaddr (Γ : Tys) (st : St) (s : Nat) (x : AVal) (f : Nat) (K : AVal → Prop) : Prop :=
  match look Γ s with
  | some ⟨.struct fs, _, _, _⟩ => match nth fs f with
    | some (o, ft) => match look Γ ft with
      | some ⟨_, _ + 1, _, _⟩ => match x with
        | .ptr k off => match look st.hp k with
          | some (.cells _ l) => match Nat.blt (off + o) l.length with
            | true => K (.ptr k (off + o))
            | false => False
          | _ => False
        | .rp l off => K (.rp l (off + o))
        | _ => False
      | _ => False
    | none => False
  | _ => False

def afield (Γ : Tys) (s : Nat) (x : AVal) (f : Nat) (K : AVal → Prop) : Prop :=
  match look Γ s with
  | some ⟨.struct fs, _, _, _⟩ => match nth fs f with
    | some (o, ft) => match look Γ ft with
      | some ti => match x with
        | .ag l => acell ti l o K
        | _ => False
      | none => False
    | none => False
  | _ => False

def amm (mx : Bool) (acc : Int) : List AVal → Option Int
  | [] => some acc
  | .c (.int _ b) :: r => amm mx (match mx with | true => (if b > acc then b else acc) | false => (if b < acc then b else acc)) r
  | _ => none

def ammx (mx : Bool) (l : List AVal) (K : AVal → Prop) : Prop :=
  match l with
  | .c (.int k a) :: r => match amm mx a r with
    | some n => K (.c (.int k n))
    | none => False
  | _ => False

def aslice (Γ : Tys) (ty : Nat) (x : AVal) (lo hi : Option AVal) (K : AVal → Prop) : Prop :=
  match look Γ ty with
  | some ⟨.slice e, _, _, _⟩ =>
    match look Γ e with
    | some ⟨_, 1, _, _⟩ =>
      match x with
      | .t (.ints k l) =>
        match lo, hi with
        | some (.c (.int _ a)), none => ∃ i : Nat, a = (i : Int) ∧ i ≤ l.length ∧ K (.t (.ints k (l.drop i)))
        | none, some (.c (.int _ b)) => ∃ j : Nat, b = (j : Int) ∧ j ≤ l.length ∧ K (.t (.ints k (l.take j)))
        | some (.c (.int _ a)), some (.c (.int _ b)) => ∃ i j : Nat, a = (i : Int) ∧ b = (j : Int) ∧ i ≤ j ∧ j ≤ l.length ∧ K (.t (.ints k ((l.take j).drop i)))
        | _, _ => False
      | _ => False
    | _ => False
  | _ => False

def oAll {α β : Type} (f : α → Option β) : List α → Option (List β)
  | [] => some []
  | a :: r => match f a with
    | none => none
    | some b => match oAll f r with
      | none => none
      | some l => some (b :: l)

def isKey (hp : List (Nat × ARow)) (k : Nat) : Bool :=
  match look hp k with
  | some _ => true
  | none => false

/-- a value of one cell -/
def one (hp : List (Nat × ARow)) : AVal → Bool
  | .un | .ag _ | .tu _ => false
  | .own k | .ptr k _ | .sub k _ | .subp k _ _ => isKey hp k
  | _ => true

def ones (hp : List (Nat × ARow)) : List AVal → Bool
  | [] => true
  | a :: r => match one hp a with | true => ones hp r | false => false

def aplace (Γ : Tys) (p : Nat × Nat) : Option (Nat × Nat) :=
  match look Γ p.2 with
  | some ti => some (p.1, ti.size)
  | none => none

/-- values put from a place on -/
def setL {α : Type} (l : List α) : Nat → List α → List α
  | _, [] => l
  | o, a :: r => setL (l.set o a) (o + 1) r

/-- a part of n cells put at a place -/
def put1 (hp : List (Nat × ARow)) (l : List AVal) (o n : Nat) (a : AVal) : Option (List AVal) :=
  match a with
  | .ag as => match Nat.beq as.length n with
    | true => match Nat.ble (o + n) l.length with
      | true => some (setL l o as)
      | false => none
    | false => none
  | a => match Nat.beq n 1 with
    | true => match one hp a with
      | true => match Nat.blt o l.length with
        | true => some (l.set o a)
        | false => none
      | false => none
    | false => none

/-- fields of a struct built by value -/
def afill (hp : List (Nat × ARow)) (ps : List (Nat × Nat)) (l : List AVal) : List (Nat × AVal) → Option (List AVal)
  | [] => some l
  | (i, a) :: r => match nth ps i with
    | some (o, n) => match put1 hp l o n a with
      | some l' => afill hp ps l' r
      | none => none
    | none => none

/-- elements of an array built by value, each of sz cells -/
def afillA (hp : List (Nat × ARow)) (sz : Nat) (l : List AVal) : List (Nat × AVal) → Option (List AVal)
  | [] => some l
  | (i, a) :: r => match put1 hp l (i * sz) sz a with
    | some l' => afillA hp sz l' r
    | none => none

/-- an element of an array value -/
def aindexV (Γ : Tys) (t : Nat) (x ix : AVal) (K : AVal → Prop) : Prop :=
  match look Γ t with
  | some ⟨.array len e, _, _, _⟩ => match look Γ e with
    | some ti => match x with
      | .ag l => match ix with
        | .c (.int _ n) => ∃ i : Nat, n = (i : Int) ∧ i < len ∧ acell ti l (i * ti.size) K
        | _ => False
      | _ => False
    | none => False
  | _ => False

def abuild (Γ : Tys) (st : St) (ty : Nat) (parts : List (Nat × AVal)) (K : AVal → Prop) : Prop :=
  match look Γ ty with
  | some ⟨.struct fs, _, _, z⟩ => match oAll (aplace Γ) fs with
    | some ps => match z.all Value.oneCell' with
      | true => match afill st.hp ps (z.map .c) parts with
        | some l => K (.ag l)
        | none => False
      | false => False
    | none => False
  | some ⟨.array _ e, _, _, z⟩ => match look Γ e with
    | some ⟨_, sz, _, _⟩ => match z.all Value.oneCell' with
      | true => match afillA st.hp sz (z.map .c) parts with
        | some l => K (.ag l)
        | none => False
      | false => False
    | _ => False
  | _ => False

/-- a value told without the call's own rows: what a callee may be handed -/
def closeRow : ARow → Option T
  | .ints _ k l => some (.ints k l)
  | .rows _ _ _ m => some (.rows m)
  | .cells .. => none
  | .recs _ s L => some (.recs s L)

mutual
def clo1 (g : Nat → Nat → Option AVal) (hp : List (Nat × ARow)) : AVal → Option AVal
  | .c v => some (.c v)
  | .t t => some (.t t)
  | .own k => match look hp k with
    | some r => match closeRow r with
      | some t => some (.t t)
      | none => none
    | none => none
  | .sub k i => match look hp k with
    | some (.rows _ _ true m) => some (.t (.ints .i64 (m.getD i [])))
    | _ => none
  | .ptr k off => g k off
  | .ag l => match clos g hp l with
    | some l' => some (.ag l')
    | none => none
  | .rp l off => match clos g hp l with
    | some l' => some (.rp l' off)
    | none => none
  | .clo f l => match clos g hp l with
    | some l' => some (.clo f l')
    | none => none
  | .knot f l n => match clos g hp l with
    | some l' => some (.knot f l' n)
    | none => none
  | .nul => some (.t (.ints .i64 []))
  | _ => none
def clos (g : Nat → Nat → Option AVal) (hp : List (Nat × ARow)) : List AVal → Option (List AVal)
  | [] => some []
  | a :: r => match clo1 g hp a with
    | none => none
    | some b => match clos g hp r with
      | none => none
      | some l => some (b :: l)
end

/-- the place at which a list leads to the first cell of row k -/
def selfAt (k : Nat) : List AVal → Option Nat
  | [] => none
  | .ptr j 0 :: r => match Nat.beq j k with
    | true => some 0
    | false => match selfAt k r with | some n => some (n + 1) | none => none
  | _ :: r => match selfAt k r with | some n => some (n + 1) | none => none

/-- a variable that holds a closure which captures that variable -/
def selfClo (k off : Nat) : List AVal → Option (FuncId × List AVal × Nat)
  | [.clo f caps] => match off with
    | 0 => match selfAt k caps with
      | some n => some (f, caps, n)
      | none => none
    | _ => none
  | _ => none

def cloP (g : Nat → Nat → Option AVal) (hp : List (Nat × ARow)) (k off : Nat) : Option AVal :=
  match look hp k with
  | some (.cells _ l) => match selfClo k off l with
    | some (f, caps, n) => match clos g hp (caps.take n ++ caps.drop (n + 1)) with
      | some l' => some (.knot f l' n)
      | none => none
    | none => match clos g hp l with
      | some l' => some (.rp l' off)
      | none => none
  | _ => none

def clo0 (hp : List (Nat × ARow)) : Nat → Nat → Nat → Option AVal
  | 0 => fun _ _ => none
  | n + 1 => cloP (clo0 hp n) hp

def closeArgs (hp : List (Nat × ARow)) (l : List AVal) : Option (List AVal) := clos (clo0 hp 3) hp l

mutual
/-- does it lead to a row of the call's own? -/
def hasOwn : AVal → Bool
  | .own _ | .sub _ _ | .ptr _ _ | .subp _ _ _ | .un => true
  | .ag l | .tu l | .clo _ l | .rp l _ | .knot _ l _ => hasOwns l
  | _ => false
def hasOwns : List AVal → Bool
  | [] => false
  | a :: r => hasOwn a || hasOwns r
end

mutual
/-- nothing read-only is shared in it -/
def noSh : AVal → Bool
  | .c _ | .own _ | .nul => true
  | .ag l | .tu l => noShs l
  | _ => false
def noShs : List AVal → Bool
  | [] => true
  | a :: r => noSh a && noShs r
end

def rowsOwn : List (Nat × ARow) → Bool
  | [] => true
  | (_, .ints ..) :: r => rowsOwn r
  | (_, .rows _ _ true _) :: r => rowsOwn r
  | _ :: _ => false

mutual
def AVal.shift (d : Nat) : AVal → AVal
  | .own k => .own (k + d)
  | .sub k i => .sub (k + d) i
  | .ptr k o => .ptr (k + d) o
  | .subp k i j => .subp (k + d) i j
  | .ag l => .ag (shifts d l)
  | .tu l => .tu (shifts d l)
  | .clo f l => .clo f (shifts d l)
  | .rp l o => .rp (shifts d l) o
  | .knot f l n => .knot f (shifts d l) n
  | a => a
def shifts (d : Nat) : List AVal → List AVal
  | [] => []
  | a :: r => a.shift d :: shifts d r
end

def ARow.shift (d : Nat) : ARow → ARow
  | .cells e l => .cells e (shifts d l)
  | r => r

def shiftH (d : Nat) : List (Nat × ARow) → List (Nat × ARow)
  | [] => []
  | (k, r) :: h => (k + d, r.shift d) :: shiftH d h

mutual
/-- keep the references to rows that 'f' lets (own, ptr) and that 'g' lets (sub, subp) -/
def AVal.flt (f g : Nat → Bool) : AVal → AVal
  | .own j => match f j with | true => .own j | false => .un
  | .ptr j o => match f j with | true => .ptr j o | false => .un
  | .sub j i => match g j with | true => .sub j i | false => .un
  | .subp j i o => match g j with | true => .subp j i o | false => .un
  | .ag l => .ag (flts f g l)
  | .tu l => .tu (flts f g l)
  | .clo h l => .clo h (flts f g l)
  | .rp l o => .rp (flts f g l) o
  | .knot h l n => .knot h (flts f g l) n
  | a => a
def flts (f g : Nat → Bool) : List AVal → List AVal
  | [] => []
  | a :: r => a.flt f g :: flts f g r
end

def ne (k j : Nat) : Bool := match Nat.beq j k with | true => false | false => true

def ARow.flt (f g : Nat → Bool) : ARow → ARow
  | .cells e l => .cells e (flts f g l)
  | r => r

def fltH (f g : Nat → Bool) : List (Nat × ARow) → List (Nat × ARow)
  | [] => []
  | (j, r) :: h => (j, r.flt f g) :: fltH f g h

def fltS (f g : Nat → Bool) : List (Nat × AVal) → List (Nat × AVal)
  | [] => []
  | (i, a) :: s => (i, a.flt f g) :: fltS f g s

def rem {α : Type} (k : Nat) : List (Nat × α) → List (Nat × α)
  | [] => []
  | (j, r) :: h => match Nat.beq j k with | true => rem k h | false => (j, r) :: rem k h

namespace St
def put (st : St) (d : Nat) (a : AVal) : St := { st with sl := (d, a) :: st.sl }
def drop1 (st : St) (d : Nat) : St := { st with sl := rem d st.sl }
def kill (st : St) (k : Nat) : St := { st with sl := fltS (ne k) (ne k) st.sl, hp := fltH (ne k) (ne k) st.hp }
def killSub (st : St) (k : Nat) : St := { st with sl := fltS (fun _ => true) (ne k) st.sl, hp := fltH (fun _ => true) (ne k) st.hp }
def del (st : St) (k : Nat) : St := { st with hp := rem k st.hp }
def upd (st : St) (k : Nat) (r : ARow) : St := { st with hp := (k, r) :: rem k st.hp }
def new (st : St) (r : ARow) : St := { st with hp := (st.nx, r) :: st.hp, nx := st.nx + 1 }
def add (st : St) (h : List (Nat × ARow)) : St := { st with hp := shiftH st.nx h ++ st.hp, nx := st.nx + h.length }
end St

end Go.Aw
/- The engine's reckoning, continued: operations that make or write memory, calls, regions, code. -/
namespace Go.Aw
open Go.RowKit

/-- the empty valuation of rows -/
def η0 : Env := ⟨fun _ => undef, fun _ => []⟩

/-- WHAT A FUNCTION DOES: called with values that read as 'args', in whatever world, it returns what reads as 'x' over new rows 'h' of its own, and leaves all old memory as it was. -/
structure FOk (P : Program) (f : FuncId) : Prop where
  ok : ∃ fn, P.funcs[f]? = some fn ∧ (fn.name == "runtime.NumGoroutine") = false ∧ fn.body.isNone = false

def FSpec (P : Program) (f : FuncId) (args : List AVal) (post : AVal → List (Nat × ARow) → Prop) : Prop := FOk P f ∧
  ∀ (w : World) (bad : Nat → Prop) (vs : List Value), (∀ b, bad b → b < w.heap.size) → VReps w bad [] 0 η0 args vs →
    Calls P f vs.toArray w fun e w' => ∃ v x h η, e = .returned v ∧ post x h ∧ Below w.heap.size w w' ∧
      HRep w' w.heap.size bad h h.length η ∧ VRep w' (fun b => bad b ∨ ownB h η b) h h.length η x v

def ex (x0 : AVal) (h0 : List (Nat × ARow)) : AVal → List (Nat × ARow) → Prop := fun x h => x = x0 ∧ h = h0

structure ACall (P : Program) (f : FuncId) (args : List AVal) (K : AVal → List (Nat × ARow) → Prop) : Prop where
  run : ∃ post, FSpec P f args post ∧ ∀ x h, post x h → K x h

theorem ACall.useR {P : Program} {f : FuncId} {args : List AVal} {K : AVal → List (Nat × ARow) → Prop} {x : AVal} {h : List (Nat × ARow)}
    (hs : FSpec P f args (ex x h)) (hk : K x h) : ACall P f args K := ⟨_, hs, fun _ _ e => by obtain ⟨rfl, rfl⟩ := e; exact hk⟩

theorem ACall.useR' {P : Program} {f : FuncId} {args : List AVal} {K : AVal → List (Nat × ARow) → Prop} {post : AVal → List (Nat × ARow) → Prop}
    (hs : FSpec P f args post) (hk : ∀ x h, post x h → K x h) : ACall P f args K := ⟨_, hs, hk⟩

/-- a scalar result -/
def scal : AVal → Bool
  | .c _ => true
  | _ => false

structure QCall (P : Program) (f : FuncId) (args : List AVal) (K : AVal → Prop) : Prop where
  run : ∃ v, v.oneCell' = true ∧ FSpec P f args (ex (.c v) []) ∧ K (.c v)

theorem QCall.use {P : Program} {f : FuncId} {args : List AVal} {K : AVal → Prop} {v : Value}
    (hs : FSpec P f args (ex (.c v) [])) (hk : K (.c v)) (h1 : v.oneCell' = true := by rfl) : QCall P f args K := ⟨_, h1, hs, hk⟩

def callee (st : St) (c : Call) : Option (FuncId × List AVal) :=
  match c.callee with
  | .value f => match ev st f with
    | some (.clo g caps) => match evs st c.args.toList with
      | some l => some (g, l ++ caps)
      | none => none
    | _ => none
  | _ => none

def parts (st : St) : List (Nat × Operand) → Option (List (Nat × AVal))
  | [] => some []
  | (i, x) :: r => match ev st x with
    | none => none
    | some a => match parts st r with
      | none => none
      | some l => some ((i, a) :: l)

def optEv (st : St) : Option Operand → Option (Option AVal)
  | none => some none
  | some x => match ev st x with
    | some a => some (some a)
    | none => none

/-- a quiet operation: it reads alone -/
def aq (Γ : Tys) (st : St) (o : Oper) (K : AVal → Prop) : Prop :=
  match o.op with
  | .move x => match ev st x with | some a => K a | none => False
  | .assign x => match ev st x with | some a => K a | none => False
  | .load t x => match ev st x with | some a => aload Γ st t a K | none => False
  | .nilCheck x => match ev st x with
    | some (.ptr k o) => match isKey st.hp k with | true => K (.ptr k o) | false => False
    | some (.clo f l) => K (.clo f l)
    | some (.rp l o) => K (.rp l o)
    | some (.knot f l n) => K (.knot f l n)
    | _ => False
  | .binOp op t x y _ => match ev st x with
    | some a => match ev st y with | some b => abin2 Γ t op a b K | none => False
    | none => False
  | .unOp op _ x => match ev st x with | some a => aun op a K | none => False
  | .convert s d x => match look Γ s with
    | some ⟨.int _, _, _, _⟩ => match look Γ d with
      | some ⟨.int k, _, _, _⟩ => match ev st x with
        | some (.c (.int _ n)) => K (.c (.int k (k.wrap n)))
        | _ => False
      | _ => False
    | _ => False
  | .fieldAddr s x f => match ev st x with | some a => afaddr Γ st s a f K | none => False
  | .field s x f => match ev st x with | some a => afield Γ s a f K | none => False
  | .indexAddr t x ix => match ev st x with
    | some a => match ev st ix with | some b => aidx Γ st t a b K | none => False
    | none => False
  | .extract x i => match ev st x with
    | some (.tu l) => match nth l i with | some a => K a | none => False
    | _ => False
  | .slice t x lo hi none => match ev st x with
    | some a => match optEv st lo with
      | some l => match optEv st hi with | some h => aslice Γ t a l h K | none => False
      | none => False
    | none => False
  | .build t ps => match parts st ps.toList with | some l => abuild Γ st t l K | none => False
  | .makeFunc (.func f) first caps => match first.toList with
    | [] => match evs st caps.toList with | some l => K (.clo f l) | none => False
    | _ => False
  | .call ⟨.builtin .len, args, tys⟩ => match evs st args.toList with
    | some [a] => match tys.toList with
      | [t] => match look Γ t with
        | some ⟨.slice _, _, _, _⟩ => alen st a K
        | some ⟨.str, _, _, _⟩ => match a with
          | .c (.string s) => K (.c (.int .i64 (s.size : Int)))
          | _ => False
        | _ => False
      | _ => False
    | _ => False
  | .call ⟨.builtin .max, args, _⟩ => match evs st args.toList with | some l => ammx true l K | none => False
  | .call ⟨.builtin .min, args, _⟩ => match evs st args.toList with | some l => ammx false l K | none => False
  | .slice t x none (some h) (some m) => match ev st x with
    | some (.t (.ints .i64 _)) => match look Γ t with
      | some ⟨.slice e, _, _, _⟩ => match look Γ e with
        | some ⟨_, 1, _, _⟩ => match ev st h with
          | some (.c (.int .i64 0)) => match ev st m with
            | some (.c (.int .i64 0)) => K .nul
            | _ => False
          | _ => False
        | _ => False
      | _ => False
    | _ => False
  | .index t x ix => match ev st x with
    | some a => match ev st ix with | some b => aindexV Γ t a b K | none => False
    | none => False
  | _ => False

def isScal (Γ : Tys) (t : Nat) : Bool :=
  match look Γ t with
  | some ⟨.int _, _, _, _⟩ => true
  | some ⟨.bool, _, _, _⟩ => true
  | _ => false

/-- may this operation stand in a quiet head? -/
def qop (Γ : Tys) (o : Oper) : Bool :=
  match o.op with
  | .alloc _ | .box .. | .buildSlice .. | .store .. | .makeSlice .. => false
  | .call ⟨.builtin .append, _, _⟩ | .call ⟨.builtin .copy, _, _⟩ => false
  | .call ⟨.value _, _, _⟩ => isScal Γ o.type
  | _ => true

def headLen (Γ : Tys) : List Oper → Nat
  | [] => 0
  | o :: r => match qop Γ o with | true => headLen Γ r + 1 | false => 0

def setInts : List Int → List (Nat × AVal) → IntKind → Option (List Int)
  | l, [], _ => some l
  | l, (i, .c (.int k x)) :: r, k' => match keq k k' with
    | true => match Nat.blt i l.length with | true => setInts (l.set i x) r k' | false => none
    | false => none
  | _, _, _ => none

/-- inner rows handed over, in their order, from place n on -/
def takeRows (st : St) (e1 n : Nat) : List (Nat × AVal) → Option (St × List (List Int))
  | [] => some (st, [])
  | (i, .own k) :: r => match Nat.beq i n with
    | true => match look st.hp k with
      | some (.ints e .i64 l) => match Nat.beq e e1 with
        | true => match takeRows (st.del k) e1 (n + 1) r with
          | some (st', m) => some (st', l :: m)
          | none => none
        | false => none
      | _ => none
    | false => none
  | _ => none

/-- inner rows that are shared -/
def shRows (st : St) (n : Nat) : List (Nat × AVal) → Option (List (List Int))
  | [] => some []
  | (i, .t (.ints .i64 l)) :: r => match Nat.beq i n with
    | true => match shRows st (n + 1) r with
      | some m => some (l :: m)
      | none => none
    | false => none
  | _ => none

/-- slices of slices that are shared -/
def shMats (n : Nat) : List (Nat × AVal) → Option (List (List Int × List (List Int)))
  | [] => some []
  | (i, .t (.rows m)) :: r => match Nat.beq i n with
    | true => match shMats (n + 1) r with
      | some L => some (([], m) :: L)
      | none => none
    | false => none
  | _ => none

/-- slices of slices of the call's own, given away read-only -/
def takeMats (st : St) (n : Nat) : List (Nat × AVal) → Option (St × List (List Int × List (List Int)))
  | [] => some (st, [])
  | (i, .own k) :: r => match Nat.beq i n with
    | true => match look st.hp k with
      | some (.rows _ _ _ m) => match takeMats (st.del k) (n + 1) r with
        | some (st', L) => some (st', ([], m) :: L)
        | none => none
      | _ => none
    | false => none
  | _ => none

/-- an array of integers -/
def intsOf : List AVal → Option (List Int)
  | [] => some []
  | .c (.int .i64 n) :: r => match intsOf r with
    | some xs => some (n :: xs)
    | none => none
  | _ => none

/-- a struct of integers and a shared slice of slices -/
def recOf : List AVal → Option (List Int × List (List Int))
  | [.t (.rows m)] => some ([], m)
  | .c (.int .i64 n) :: r => match recOf r with
    | some (xs, m) => some (n :: xs, m)
    | none => none
  | _ => none

def room : Nat := 1099511627776

def abuildSlice (Γ : Tys) (st : St) (t len : Nat) (ps : List (Nat × AVal)) (K : AVal → St → Prop) : Prop :=
  match look Γ t with
  | some ⟨.slice e, _, _, _⟩ => match look Γ e with
    | some ⟨.int k, 1, _, [.int k2 0]⟩ => match keq k k2 with
      | true => match Nat.ble len 65536 with
        | true => match setInts (List.replicate len 0) ps k with
          | some l => K (.own st.nx) (st.new (.ints e k l))
          | none => False
        | false => False
      | false => False
    | some ⟨.slice e1, 1, _, [.slice none 0 0]⟩ => match Nat.ble len 65536 with
      | true => match takeRows st e1 0 ps with
        | some (st', m) => match Nat.beq m.length len with
          | true => K (.own st'.nx) (st'.new (.rows e e1 true m))
          | false => False
        | none => match shRows st 0 ps with
          | some m => match Nat.beq m.length len with
            | true => K (.own st.nx) (st.new (.rows e e1 false m))
            | false => False
          | none => match shMats 0 ps with
            | some L => match Nat.beq L.length len with
              | true => K (.own st.nx) (st.new (.recs e 0 L))
              | false => False
            | none => match takeMats st 0 ps with
              | some (st', L) => match Nat.beq L.length len with
                | true => K (.own st'.nx) (st'.new (.recs e 0 L))
                | false => False
              | none => False
      | false => False
    | some ⟨.struct _, sz, _, z⟩ => match Nat.beq z.length sz with
      | true => match ps with
        | [] => match len with
          | 0 => match sz with
            | s + 1 => match Nat.ble sz 64 with
              | true => K (.own st.nx) (st.new (.recs e s []))
              | false => False
            | 0 => False
          | _ => False
        | [(0, .ag l)] => match len with
          | 1 => match recOf l with
            | some (xs, m) => match Nat.beq (xs.length + 1) sz with
              | true => match Nat.ble sz 64 with
                | true => K (.own st.nx) (st.new (.recs e xs.length [(xs, m)]))
                | false => False
              | false => False
            | none => False
          | _ => False
        | _ => False
      | false => False
    | some ⟨.array _ _, sz, _, z⟩ => match Nat.beq z.length sz with
      | true => match Nat.ble sz 64 with
        | true => match Nat.ble 1 sz with
          | true => match ps with
            | [] => match len with
              | 0 => K (.own st.nx) (st.new (.recs e (sz + 99) []))
              | _ => False
            | [(0, .ag l)] => match len with
              | 1 => match intsOf l with
                | some xs => match Nat.beq xs.length sz with
                  | true => K (.own st.nx) (st.new (.recs e (sz + 99) [(xs, [])]))
                  | false => False
                | none => False
              | _ => False
            | _ => False
          | false => False
        | false => False
      | false => False
    | _ => False
  | _ => False

def astore (Γ : Tys) (st : St) (ty : Nat) (x y : AVal) (K : St → Prop) : Prop :=
  match look Γ ty with
  | none => False
  | some ti =>
    match x with
    | .ptr k off => match look st.hp k with
      | some (.ints e kd l) => match y with
        | .c (.int k' n) => match keq k' kd with
          | true => match ti.size with
            | 1 => K (st.upd k (.ints e kd (l.set off n)))
            | _ => False
          | false => False
        | _ => False
      | some (.rows e e1 true m) => match y with
        | .own k2 => match Nat.beq k2 k with
          | true => False
          | false => match look st.hp k2 with
            | some (.ints e2 .i64 l) => match Nat.beq e2 e1 with
              | true => match ti.size with
                | 1 => K (((st.del k2).killSub k).upd k (.rows e e1 true (m.set off l)))
                | _ => False
              | false => False
            | _ => False
        | _ => False
      | some (.cells e l) => match y with
        | .ag l' => match Nat.beq l'.length ti.size with
          | true => match Nat.ble (off + ti.size) l.length with
            | true => match ones st.hp l' with
              | true => K (st.upd k (.cells e (l.take off ++ l' ++ l.drop (off + ti.size))))
              | false => False
            | false => False
          | false => False
        | _ => match one st.hp y with
          | true => match ti.size with
            | 1 => K (st.upd k (.cells e (l.set off y)))
            | _ => False
          | false => False
      | _ => False
    | .subp k i j => match look st.hp k with
      | some (.rows e e1 true m) => match y with
        | .c (.int .i64 n) => match ti.size with
          | 1 => K (st.upd k (.rows e e1 true (m.set i ((m.getD i []).set j n))))
          | _ => False
        | _ => False
      | _ => False
    | _ => False

def aappend (Γ : Tys) (st : St) (t : Nat) (x y : AVal) (K : AVal → St → Prop) : Prop :=
  match look Γ t with
  | some ⟨.slice e, _, _, _⟩ =>
    match look Γ e with
    | some ⟨_, 1, by_, [_]⟩ =>
     match Nat.ble by_ 64 with
     | true =>
      match x with
      | .own k => match look st.hp k with
        | some (.ints e0 kd l) => match Nat.beq e0 e with
          | true => match y with
            | .own k2 => match Nat.beq k2 k with
              | true => False
              | false => match look st.hp k2 with
                | some (.ints _ kd2 l2) => match keq kd2 kd with
                  | true => l.length + l2.length ≤ room ∧ K (.own k) ((st.kill k).upd k (.ints e kd (l ++ l2)))
                  | false => False
                | _ => False
            | .t (.ints kd2 l2) => match keq kd2 kd with
              | true => l.length + l2.length ≤ room ∧ K (.own k) ((st.kill k).upd k (.ints e kd (l ++ l2)))
              | false => False
            | _ => False
          | false => False
        | some (.rows e0 e1 true m) => match Nat.beq e0 e with
          | true => match y with
            | .own k2 => match Nat.beq k2 k with
              | true => False
              | false => match look st.hp k2 with
                | some (.rows _ e2 true m2) => match Nat.beq e2 e1 with
                  | true => m.length + m2.length ≤ room ∧ K (.own k) (((st.del k2).kill k).upd k (.rows e e1 true (m ++ m2)))
                  | false => False
                | _ => False
            | .t (.rows m2) => match m with
              | [] => m2.length ≤ room ∧ K (.own k) ((st.kill k).upd k (.rows e e1 false m2))
              | _ :: _ => False
            | _ => False
          | false => False
        | some (.rows e0 e1 false m) => match Nat.beq e0 e with
          | true => match y with
            | .own k2 => match Nat.beq k2 k with
              | true => False
              | false => match look st.hp k2 with
                | some (.rows _ _ false m2) => m.length + m2.length ≤ room ∧ K (.own k) ((st.kill k).upd k (.rows e e1 false (m ++ m2)))
                | _ => False
            | .t (.rows m2) => m.length + m2.length ≤ room ∧ K (.own k) ((st.kill k).upd k (.rows e e1 false (m ++ m2)))
            | _ => False
          | false => False
        | _ => False
      | _ => False
     | false => False
    | some ⟨_, sz, by_, z⟩ =>
     match Nat.ble by_ 64 with
     | true =>
      match x with
      | .own k => match look st.hp k with
        | some (.recs e0 s L) => match Nat.beq e0 e with
          | true => match Nat.beq sz (stp s) with
            | true => match Nat.beq z.length sz with
              | true => match y with
                | .own k2 => match Nat.beq k2 k with
                  | true => False
                  | false => match look st.hp k2 with
                    | some (.recs _ s2 L2) => match Nat.beq s2 s with
                      | true => L.length + L2.length ≤ room ∧ K (.own k) ((st.kill k).upd k (.recs e s (L ++ L2)))
                      | false => False
                    | _ => False
                | _ => False
              | false => False
            | false => False
          | false => False
        | _ => False
      | _ => False
     | false => False
    | none => False
  | _ => False

/-- whether the rows of what is appended are the call's own -/
def ownRows (st : St) (y : AVal) : Bool :=
  match y with
  | .own k => match look st.hp k with
    | some (.rows _ _ u _) => u
    | _ => true
  | .t _ => false
  | _ => true

/-- a nil slice may be appended to: it is a row of the call's own, with nothing in it -/
def aappendN (Γ : Tys) (st : St) (t : Nat) (x y : AVal) (K : AVal → St → Prop) : Prop :=
  match x with
  | .c (.slice none 0 0) => match look Γ t with
    | some ⟨.slice e, _, _, _⟩ => match look Γ e with
      | some ⟨.int k, _, _, _⟩ => aappend Γ (st.new (.ints e k [])) t (.own st.nx) y K
      | some ⟨.slice e1, _, _, _⟩ => aappend Γ (st.new (.rows e e1 (ownRows st y) [])) t (.own st.nx) y K
      | _ => False
    | _ => False
  | .nul => match look Γ t with
    | some ⟨.slice e, _, _, _⟩ => match look Γ e with
      | some ⟨_, 1, by_, [_]⟩ => match Nat.ble by_ 64 with
        | true => match y with
          | .t (.ints .i64 l) => (l = [] → K .nul st) ∧ (l ≠ [] → l.length ≤ room ∧ K (.own st.nx) (st.new (.ints e .i64 l)))
          | _ => False
        | false => False
      | _ => False
    | _ => False
  | x => aappend Γ st t x y K

def amake (Γ : Tys) (st : St) (t : Nat) (l c : AVal) (K : AVal → St → Prop) : Prop :=
  match l with
  | .c (.int .i64 a) => match c with
    | .c (.int .i64 b) => match look Γ t with
      | some ⟨.slice e, _, _, _⟩ => match look Γ e with
        | some ⟨.int k, 1, by_, [.int k2 0]⟩ => match keq k k2 with
          | true => match Nat.ble by_ 64 with
            | true => ∃ n : Nat, a = (n : Int) ∧ b = (n : Int) ∧ n ≤ room ∧ K (.own st.nx) (st.new (.ints e k (List.replicate n 0)))
            | false => False
          | false => False
        | some ⟨.slice e1, 1, by_, [.slice none 0 0]⟩ => match Nat.ble by_ 64 with
          | true => ∃ n : Nat, a = (n : Int) ∧ b = (n : Int) ∧ n ≤ room ∧ K (.own st.nx) (st.new (.rows e e1 true (List.replicate n [])))
          | false => False
        | _ => False
      | _ => False
    | _ => False
  | _ => False

/-- an operation that makes or writes memory (its slot's value; what the state is behind it) -/
def an (Γ : Tys) (st : St) (o : Oper) (K : AVal → St → Prop) : Prop :=
  match o.op with
  | .alloc e => match look Γ e with
    | some ti => match ti.zero.all Value.oneCell' with
      | true => match ti.zero with
        | [] => False
        | _ :: _ => K (.ptr st.nx 0) (st.new (.cells e (ti.zero.map .c)))
      | false => False
    | none => False
  | .box e x => match look Γ e with
    | some _ => match ev st x with
      | some (.ag l) => match l with
        | [] => False
        | _ :: _ => K (.ptr st.nx 0) (st.new (.cells e l))
      | some a => match one st.hp a with
        | true => K (.ptr st.nx 0) (st.new (.cells e [a]))
        | false => False
      | none => False
    | none => False
  | .buildSlice t len ps => match parts st ps.toList with
    | some l => abuildSlice Γ st t len l K
    | none => False
  | .store t x y => match ev st x with
    | some a => match ev st y with
      | some b => astore Γ st t a b (K .un)
      | none => False
    | none => False
  | .makeSlice t l c => match ev st l with
    | some a => match ev st c with | some b => amake Γ st t a b K | none => False
    | none => False
  | .call ⟨.builtin .append, args, tys⟩ => match args.toList with
    | [x, y] => match tys.toList with
      | [t, t'] => match Nat.beq t t' with
        | true => match ev st x with
          | some a => match ev st y with | some b => aappendN Γ st t a b K | none => False
          | none => False
        | false => False
      | _ => False
    | _ => False
  | _ => False

/-- where the result goes -/
def putD (st : St) (o : Oper) (a : AVal) (K : St → Prop) : Prop :=
  match o.dst with
  | none => K st
  | some d => match Nat.blt d st.sz with
    | true => K (st.put d a)
    | false => False

def isNQ (o : Oper) : Bool :=
  match o.op with
  | .alloc _ | .box .. | .buildSlice .. | .store .. | .makeSlice .. => true
  | .call ⟨.builtin .append, _, _⟩ => true
  | _ => false

def isCall (o : Oper) : Option Call :=
  match o.op with
  | .call ⟨.value f, a, t⟩ => some ⟨.value f, a, t⟩
  | _ => none

/-- a call that only reads what is there: its contract told of closed arguments -/
def acallR (P : Program) (st : St) (c : Call) (K : AVal → St → Prop) : Prop :=
  match callee st c with
  | none => False
  | some (f, args) => match closeArgs st.hp args with
    | none => False
    | some cargs => match hasOwns args with
      | true => ACall P f cargs fun x h => match noSh x && rowsOwn h with
        | true => K (x.shift st.nx) (st.add h)
        | false => False
      | false => ACall P f cargs fun x h => K (x.shift st.nx) (st.add h)

/-- a call, in whatever way it may be gone on from -/
structure ACallS (P : Program) (st : St) (f : FuncId) (args : List AVal) (K : AVal → St → Prop) : Prop where
  fok : FOk P f
  run : ∀ w0 ob a w η, SRep w0 ob st a w η → ∀ vs, VReps w (fun b => ob b ∨ ownB st.hp η b) st.hp st.nx η args vs →
    Calls P f vs.toArray w fun e w' => ∃ v x st' η', e = .returned v ∧ K x st' ∧ st'.sz = st.sz ∧ SRep w0 ob st' a w' η' ∧ VRep w' (fun b => ob b ∨ ownB st'.hp η' b) st'.hp st'.nx η' x v

/-! ### states in plain form -/
def frN (n : Nat) (K : Nat → Prop) : Prop :=
  @Nat.rec (fun _ => Nat → Prop) (fun acc => K acc) (fun _ ih acc => ih (Nat.succ acc)) n 0

def frA (x : AVal) : (AVal → Prop) → Prop :=
  @AVal.rec (fun _ => (AVal → Prop) → Prop) (fun _ => (List AVal → Prop) → Prop)
    (fun K => K .un) (fun v K => K (.c v)) (fun t K => K (.t t)) (fun _ ih K => ih fun l => K (.ag l)) (fun _ ih K => ih fun l => K (.tu l))
    (fun k K => frN k fun k => K (.own k)) (fun k i K => frN k fun k => K (.sub k i)) (fun k o K => frN k fun k => K (.ptr k o)) (fun k i j K => frN k fun k => K (.subp k i j))
    (fun t i K => K (.adr t i)) (fun _ o ih K => ih fun l => K (.rp l o)) (fun f l _ K => K (.clo f l)) (fun f l n _ K => K (.knot f l n)) (fun K => K .nul)
    (fun K => K []) (fun _ _ iha ihl K => iha fun a => ihl fun l => K (a :: l)) x

def frL (x : List AVal) : (List AVal → Prop) → Prop :=
  @List.rec AVal (fun _ => (List AVal → Prop) → Prop) (fun K => K []) (fun a _ ih K => frA a fun a => ih fun l => K (a :: l)) x

def frR (r : ARow) (K : ARow → Prop) : Prop :=
  match r with
  | .ints e k l => K (.ints e k l)
  | .rows e e1 true m => K (.rows e e1 true m)
  | .rows e e1 false m => K (.rows e e1 false m)
  | .cells e l => frL l fun l => K (.cells e l)
  | .recs e s L => K (.recs e s L)

def memN (i : Nat) : List Nat → Bool
  | [] => false
  | j :: r => match Nat.beq j i with | true => true | false => memN i r

def frS (l : List (Nat × AVal)) : List Nat → (List (Nat × AVal) → Prop) → Prop :=
  @List.rec (Nat × AVal) (fun _ => List Nat → (List (Nat × AVal) → Prop) → Prop) (fun _ K => K [])
    (fun p _ ih seen K => match p with
      | (i, a) => match memN i seen with
        | true => ih seen K
        | false => frA a fun a => ih (i :: seen) fun r => K ((i, a) :: r)) l

/-- slots' numbers too -/
def frG (l : List (Nat × AVal)) : (List (Nat × AVal) → Prop) → Prop :=
  @List.rec (Nat × AVal) (fun _ => (List (Nat × AVal) → Prop) → Prop) (fun K => K [])
    (fun p _ ih K => match p with
      | (i, a) => frN i fun i => frA a fun a => ih fun r => K ((i, a) :: r)) l

def frH (l : List (Nat × ARow)) : (List (Nat × ARow) → Prop) → Prop :=
  @List.rec (Nat × ARow) (fun _ => (List (Nat × ARow) → Prop) → Prop) (fun K => K [])
    (fun p _ ih K => match p with
      | (i, r) => frN i fun i => frR r fun a => ih fun r => K ((i, a) :: r)) l

/-- the frame's size is a number of the text -/
def frV (n : Nat) (K : Nat → Prop) : Prop :=
  match n with
  | 0 => K 0
  | Nat.succ m => K (Nat.succ m)

def frSt (st : St) (K : St → Prop) : Prop :=
  frV st.sz fun sz => frS st.sl [] fun sl => frH st.hp fun hp => frN st.nx fun nx => K ⟨sz, sl, hp, nx⟩

def acall (P : Program) (st : St) (c : Call) (K : AVal → St → Prop) : Prop :=
  match callee st c with
  | none => False
  | some (f, args) => frSt st fun st => frL args fun args => ACallS P st f args K

def qcall (P : Program) (st : St) (c : Call) (K : AVal → Prop) : Prop :=
  match callee st c with
  | none => False
  | some (f, args) => match closeArgs st.hp args with
    | none => False
    | some cargs => QCall P f cargs K

/-- guards: decided ones are remembered by their slots -/
def aguard (ops : List Oper) (st : St) (dec : List (Nat × Bool)) (o : Oper) (yes no : List (Nat × Bool) → Prop) : Prop :=
  match o.guard with
  | none => yes dec
  | some (j, want) => match nth ops j with
    | some oj => match oj.dst with
      | some d => match look dec d with
        | some b => match b, want with
          | true, true | false, false => yes dec
          | _, _ => no dec
        | none => match lk st d with
          | some (.c (.bool b)) => match want with
            | true => (b = true → yes ((d, true) :: dec)) ∧ (b = false → no ((d, false) :: dec))
            | false => (b = false → yes ((d, false) :: dec)) ∧ (b = true → no ((d, true) :: dec))
          | some (.tu []) => no dec
          | _ => False
      | none => False
    | none => False

def decOf (dec : List (Nat × Bool)) (c : Operand) : Option Bool :=
  match c with
  | .tmp t => look dec t
  | _ => none

/-- 'pick', with the decided guards -/
def apick (st : St) (dec : List (Nat × Bool)) (c a b : Operand) (K : AVal → Prop) : Prop :=
  match decOf dec c with
  | some true => match ev st a with | some v => K v | none => False
  | some false => match ev st b with | some v => K v | none => False
  | none => match ev st c with
    | some (.c (.bool t)) => (t = true → match ev st a with | some v => K v | none => False) ∧ (t = false → match ev st b with | some v => K v | none => False)
    | _ => False

def isPick (o : Oper) : Option (Operand × Operand × Operand) :=
  match o.op with
  | .pick c a b => some (c, a, b)
  | _ => none

def decOff (o : Oper) (dec : List (Nat × Bool)) : List (Nat × Bool) :=
  match o.dst with
  | some d => rem d dec
  | none => dec

/-- the quiet head of a region that draws its order ('rec' by hand: the kernel then meets the very terms that the elaborator leaves) -/
def aqlist (P : Program) (Γ : Tys) (ops : List Oper) (l : List Oper) (st : St) (dec : List (Nat × Bool)) (K : St → List (Nat × Bool) → Prop) : Prop :=
  @List.rec Oper (fun _ => St → List (Nat × Bool) → Prop) K
    (fun o _ ih st dec =>
      aguard ops st dec o
        (fun dec => match isPick o with
          | some (c, a, b) => apick st dec c a b fun v => putD st o v fun st' => ih st' (decOff o dec)
          | none => match isCall o with
            | some c => qcall P st c fun v => putD st o v fun st' => ih st' (decOff o dec)
            | none => aq Γ st o fun v => putD st o v fun st' => ih st' (decOff o dec))
        (fun dec => putD st o (.tu []) fun st' => ih st' (decOff o dec))) l st dec

/-- a row of the call's own is cut: its head stays the call's own, its tail is read-only from here on -/
def cutOf (st : St) (o : Oper) : Option (Nat × Nat × Option Operand × Option Operand) :=
  match o.op with
  | .slice t x lo hi none => match ev st x with
    | some (.own k) => some (t, k, lo, hi)
    | _ => none
  | _ => none

def acut (Γ : Tys) (st : St) (t k : Nat) (lo hi : Option Operand) (K : AVal → St → Prop) : Prop :=
  match look Γ t with
  | some ⟨.slice e, _, _, _⟩ => match look Γ e with
    | some ⟨_, 1, _, _⟩ => match lo with
      | none => match hi with
        | some y => match ev st y with
          | some (.c (.int _ n)) => match look st.hp k with
            | some (.ints e0 kd l) => ∃ h : Nat, n = (h : Int) ∧ h ≤ l.length ∧ K (.own k) ((st.kill k).upd k (.ints e0 kd (l.take h)))
            | _ => False
          | _ => False
        | none => False
      | some x => match hi with
        | none => match ev st x with
          | some (.c (.int _ n)) => match look st.hp k with
            | some (.rows _ _ true m) => ∃ h : Nat, n = (h : Int) ∧ h ≤ m.length ∧ K (.t (.rows (m.drop h))) (st.del k)
            | _ => False
          | _ => False
        | some _ => False
    | _ => False
  | _ => False

def alist (P : Program) (Γ : Tys) (ops : List Oper) (l : List Oper) (st : St) (dec : List (Nat × Bool)) (K : St → Prop) : Prop :=
  @List.rec Oper (fun _ => St → List (Nat × Bool) → Prop) (fun st _ => K st)
    (fun o _ ih st dec =>
      aguard ops st dec o
        (fun dec => match isPick o with
          | some (c, a, b) => apick st dec c a b fun v => putD st o v fun st' => ih st' (decOff o dec)
          | none => match isCall o with
            | some c => acall P st c fun v st' => putD st' o v fun st'' => ih st'' (decOff o dec)
            | none => match isNQ o with
              | true => an Γ st o fun v st' => putD st' o v fun st'' => ih st'' (decOff o dec)
              | false => match cutOf st o with
                | some (t, k, lo, hi) => acut Γ st t k lo hi fun v st' => putD st' o v fun st'' => ih st'' (decOff o dec)
                | none => aq Γ st o fun v => putD st o v fun st' => ih st' (decOff o dec))
        (fun dec => putD st o (.tu []) fun st' => ih st' (decOff o dec))) l st dec

theorem aqlist_cons {P : Program} {Γ : Tys} {ops : List Oper} {o : Oper} {r : List Oper} {st : St} {dec : List (Nat × Bool)} {K : St → List (Nat × Bool) → Prop} :
    aqlist P Γ ops (o :: r) st dec K = aguard ops st dec o
        (fun dec => match isPick o with
          | some (c, a, b) => apick st dec c a b fun v => putD st o v fun st' => aqlist P Γ ops r st' (decOff o dec) K
          | none => match isCall o with
            | some c => qcall P st c fun v => putD st o v fun st' => aqlist P Γ ops r st' (decOff o dec) K
            | none => aq Γ st o fun v => putD st o v fun st' => aqlist P Γ ops r st' (decOff o dec) K)
        (fun dec => putD st o (.tu []) fun st' => aqlist P Γ ops r st' (decOff o dec) K) := rfl

theorem alist_cons {P : Program} {Γ : Tys} {ops : List Oper} {o : Oper} {r : List Oper} {st : St} {dec : List (Nat × Bool)} {K : St → Prop} :
    alist P Γ ops (o :: r) st dec K = aguard ops st dec o
        (fun dec => match isPick o with
          | some (c, a, b) => apick st dec c a b fun v => putD st o v fun st' => alist P Γ ops r st' (decOff o dec) K
          | none => match isCall o with
            | some c => acall P st c fun v st' => putD st' o v fun st'' => alist P Γ ops r st'' (decOff o dec) K
            | none => match isNQ o with
              | true => an Γ st o fun v st' => putD st' o v fun st'' => alist P Γ ops r st'' (decOff o dec) K
              | false => match cutOf st o with
                | some (t, k, lo, hi) => acut Γ st t k lo hi fun v st' => putD st' o v fun st'' => alist P Γ ops r st'' (decOff o dec) K
                | none => aq Γ st o fun v => putD st o v fun st' => alist P Γ ops r st' (decOff o dec) K)
        (fun dec => putD st o (.tu []) fun st' => alist P Γ ops r st' (decOff o dec) K) := rfl

/-- a region that draws its order, in the ways that need no thought: all of it only reads; or a head that only reads, then a forced tail -/
def astd (P : Program) (Γ : Tys) (ops : Array Oper) (st : St) (K : St → Prop) : Prop :=
  match Nat.beq (headLen Γ ops.toList) ops.toList.length with
  | true => Region.lexB .any ops = true ∧ aqlist P Γ ops.toList ops.toList st [] fun st' _ => K st'
  | false => Region.lexTailB .any ops (headLen Γ ops.toList) = true ∧
      aqlist P Γ ops.toList (ops.toList.take (headLen Γ ops.toList)) st [] fun st' dec => alist P Γ ops.toList (ops.toList.drop (headLen Γ ops.toList)) st' dec K

structure ADraw (P : Program) (ops : Array Oper) (st : St) (K : St → Prop) : Prop where
  run : ∀ id w0 ob a w, StRep w0 ob st a w → (Code.region id ops true).wp P (fun e a' w' => e = .normal ∧ ∃ st', K st' ∧ StRep w0 ob st' a' w') a w

/-- 'x[i] = append(x[i], ..)': see the text AwU -/
def appSet (l : List Oper) : Bool :=
  match l with
  | [_, _, _, o, _, o1, _, o3] => match o.op with
    | .load .. => match o1.op with
      | .call ⟨.builtin .append, _, _⟩ => match o3.op with
        | .store .. => true
        | _ => false
      | _ => false
    | _ => false
  | _ => false

structure ASet (P : Program) (ops : Array Oper) (st : St) (K : St → Prop) : Prop where
  run : ∀ id w0 ob a w, StRep w0 ob st a w → (Code.region id ops false).wp P (fun e a' w' => e = .normal ∧ ∃ st', K st' ∧ StRep w0 ob st' a' w') a w

def aregion (P : Program) (Γ : Tys) (ops : Array Oper) (draw : Bool) (st : St) (K : St → Prop) : Prop :=
  match draw with
  | false => match appSet ops.toList with
    | false => alist P Γ ops.toList ops.toList st [] K
    | true => ASet P ops st K
  | true => ADraw P ops st K

/-- what is behind code that is run from the states told by 'st' -/
def lift (w0 : Base) (obad : Nat → Prop) (K : Exit → St → Prop) (e : Exit) (a : Act) (w : World) : Prop := ∃ st, K e st ∧ StRep w0 obad st a w

structure ALoop (P : Program) (b : Code) (st : St) (K : Exit → St → Prop) : Prop where
  run : ∀ w0 obad a w, StRep w0 obad st a w → (Code.loop b).wp P (lift w0 obad K) a w

def acode (P : Program) (Γ : Tys) (c : Code) : St → (Exit → St → Prop) → Prop :=
  @Code.rec (fun _ => St → (Exit → St → Prop) → Prop)
    (fun st K => K .normal st)
    (fun _ ops d st K => aregion P Γ ops d st fun st => frSt st (K .normal))
    (fun _ _ iha ihb st K => iha st fun e st' => match e with | .normal => ihb st' K | e => K e st')
    (fun c _ _ iha ihb st K => match ev st c with
      | some (.c (.bool t)) => (t = true → iha st K) ∧ (t = false → ihb st K)
      | _ => False)
    (fun id _ ih st K => ih st fun e st' => match e with
      | .exit id' => match Nat.beq id' id with | true => K .normal st' | false => K (.exit id') st'
      | e => K e st')
    (fun b _ st K => ALoop P b st K)
    (fun _ _ _ _ _ _ _ _ => False)
    (fun id st K => K (.exit id) st)
    (fun _ _ _ _ => False)
    (fun _ st K => K .normal st)
    (fun _ _ _ => False)
    (fun st K => K .ret st)
    (fun _ _ _ => False) c

theorem acode_cond {P : Program} {Γ : Tys} {c : Operand} {x y : Code} {st : St} {K : Exit → St → Prop} : acode P Γ (.cond c x y) st K = (match ev st c with
      | some (.c (.bool t)) => (t = true → acode P Γ x st K) ∧ (t = false → acode P Γ y st K)
      | _ => False) := rfl

end Go.Aw
/- Frames: what an abstract state says stays true while other memory is written. -/
namespace Go.Aw
open Go.RowKit

theorem look_rem_ne {α : Type} : ∀ (l : List (Nat × α)) (k j : Nat), j ≠ k → look (rem k l) j = look l j
  | [], _, _, _ => rfl
  | (i, x) :: r, k, j, h => by
    simp only [rem]
    cases hb : Nat.beq i k with
    | true =>
      have hik := Nat.eq_of_beq_eq_true hb
      simp only [look]
      have : Nat.beq i j = false := by
        cases hbj : Nat.beq i j with
        | false => rfl
        | true => have := Nat.eq_of_beq_eq_true hbj; omega
      rw [this]
      exact look_rem_ne r k j h
    | false =>
      simp only [look]
      cases Nat.beq i j with
      | true => rfl
      | false => exact look_rem_ne r k j h

theorem look_rem {α : Type} : ∀ (l : List (Nat × α)) (k : Nat), look (rem k l) k = none
  | [], _ => rfl
  | (i, x) :: r, k => by
    simp only [rem]
    cases hb : Nat.beq i k with
    | true => exact look_rem r k
    | false => simp only [look, hb]; exact look_rem r k

theorem beq_self (k : Nat) : Nat.beq k k = true := Nat.beq_refl k

theorem look_cons {α : Type} (i : Nat) (x : α) (r : List (Nat × α)) (k : Nat) : look ((i, x) :: r) k = if i = k then some x else look r k := by
  simp only [look]
  by_cases h : i = k
  · subst h; simp
  · rw [if_neg h]
    have : Nat.beq i k = false := by
      cases hb : Nat.beq i k with
      | false => rfl
      | true => exact absurd (Nat.eq_of_beq_eq_true hb) h
    rw [this]

theorem look_upd {α : Type} (l : List (Nat × α)) (k : Nat) (x : α) (j : Nat) : look ((k, x) :: rem k l) j = if k = j then some x else look l j := by
  rw [look_cons]
  by_cases h : k = j
  · simp [h]
  · rw [if_neg h, if_neg h, look_rem_ne l k j (Ne.symm h)]

theorem look_fltS (f g : Nat → Bool) : ∀ (l : List (Nat × AVal)) (k : Nat), look (fltS f g l) k = (look l k).map (AVal.flt f g)
  | [], _ => rfl
  | (i, x) :: r, k => by
    simp only [fltS, look]
    cases Nat.beq i k with
    | true => rfl
    | false => exact look_fltS f g r k

theorem look_fltH (f g : Nat → Bool) : ∀ (l : List (Nat × ARow)) (k : Nat), look (fltH f g l) k = (look l k).map (ARow.flt f g)
  | [], _ => rfl
  | (i, x) :: r, k => by
    simp only [fltH, look]
    cases Nat.beq i k with
    | true => rfl
    | false => exact look_fltH f g r k

theorem kind_flt (f g : Nat → Bool) (r : ARow) : (r.flt f g).kind = r.kind := by cases r <;> rfl

theorem ne_spec (k j : Nat) : ne k j = true ↔ j ≠ k := by
  unfold ne
  cases h : Nat.beq j k with
  | true => have := Nat.eq_of_beq_eq_true h; simp [this]
  | false => simp; intro e; subst e; rw [Nat.beq_refl] at h; cases h

/-! ### shared values -/
def Keeps (w : World) (bad : Nat → Prop) (w' : World) (bad' : Nat → Prop) : Prop :=
  ∀ b o x, ¬ bad b → w.cell? ⟨b, o, none⟩ = some x → ¬ bad' b ∧ w'.cell? ⟨b, o, none⟩ = some x

section
variable {w w' : World} {bad bad' : Nat → Prop}

theorem SInts.keeps (hk : Keeps w bad w' bad') {k : IntKind} {l : List Int} {v : Value} (h : SInts w bad k l v) : SInts w' bad' k l v := by
  obtain ⟨a, c, hv, h1, h2, h3⟩ := h
  refine ⟨a, c, hv, h1, h2, fun i x hi => ?_⟩
  obtain ⟨b, o, ha, hb, hc⟩ := h3 i x hi
  obtain ⟨hb', hc'⟩ := hk b (o + i) _ hb hc
  exact ⟨b, o, ha, hb', hc'⟩

theorem SRows.keeps (hk : Keeps w bad w' bad') {m : List (List Int)} {v : Value} (h : SRows w bad m v) : SRows w' bad' m v := by
  obtain ⟨a, c, hv, h1, h2, h3⟩ := h
  refine ⟨a, c, hv, h1, h2, fun i x hi => ?_⟩
  obtain ⟨b, o, u, ha, hb, hc, hs⟩ := h3 i x hi
  obtain ⟨hb', hc'⟩ := hk b (o + i) _ hb hc
  exact ⟨b, o, u, ha, hb', hc', hs.keeps hk⟩

theorem SRec.keeps (hk : Keeps w bad w' bad') {s : Nat} {r : List Int × List (List Int)} {cs : List Value} (h : SRec w bad s r cs) : SRec w' bad' s r cs := by
  unfold SRec at h ⊢
  cases hb : Nat.ble 100 s with
  | false =>
    simp only [hb] at h ⊢
    obtain ⟨h1, u, h2, h3⟩ := h
    exact ⟨h1, u, h2, h3.keeps hk⟩
  | true => simp only [hb] at h ⊢; exact h

theorem stp_pos (s : Nat) : 0 < stp s := by
  unfold stp
  cases hb : Nat.ble 100 s with
  | false => exact Nat.succ_pos s
  | true => have := Nat.le_of_ble_eq_true hb; simp only; omega
theorem SRec.len {w : World} {bad : Nat → Prop} {s : Nat} {r : List Int × List (List Int)} {cs : List Value} (h : SRec w bad s r cs) : cs.length = stp s := by
  unfold SRec at h
  unfold stp
  cases hb : Nat.ble 100 s with
  | false =>
    simp only [hb] at h ⊢
    obtain ⟨h1, u, rfl, _⟩ := h
    simp; omega
  | true =>
    simp only [hb] at h ⊢
    obtain ⟨h1, rfl⟩ := h
    simpa using h1
theorem SRec.some0 {w : World} {bad : Nat → Prop} {s : Nat} {r : List Int × List (List Int)} {cs : List Value} (h : SRec w bad s r cs) : ∃ u, cs[0]? = some u := by
  have := h.len
  have := stp_pos s
  exact ⟨cs[0], List.getElem?_eq_getElem (by omega)⟩
theorem SRec.one {w : World} {bad : Nat → Prop} {s : Nat} {r : List Int × List (List Int)} {cs : List Value} (h : SRec w bad s r cs) : ∀ u, u ∈ cs → u.oneCell' = true := fun u hu => by
  unfold SRec at h
  cases hb : Nat.ble 100 s with
  | false =>
    simp only [hb] at h
    obtain ⟨h1, v, rfl, hv⟩ := h
    rcases List.mem_append.1 hu with hu | hu
    · obtain ⟨_, _, rfl⟩ := List.mem_map.1 hu; rfl
    · simp only [List.mem_singleton] at hu
      subst hu
      obtain ⟨_, _, hv', _⟩ := hv
      rw [hv']; rfl
  | true =>
    simp only [hb] at h
    obtain ⟨h1, rfl⟩ := h
    obtain ⟨_, _, rfl⟩ := List.mem_map.1 hu; rfl
theorem SRec.mk {w : World} {bad : Nat → Prop} {s : Nat} {r : List Int × List (List Int)} {cs : List Value} (hs : s < 100) (h1 : r.1.length = s) (h2 : ∃ u, cs = r.1.map (Value.int .i64) ++ [u] ∧ SRows w bad r.2 u) : SRec w bad s r cs := by
  unfold SRec
  have : Nat.ble 100 s = false := by
    cases hb : Nat.ble 100 s with
    | false => rfl
    | true => have := Nat.le_of_ble_eq_true hb; omega
  rw [this]
  exact ⟨h1, h2⟩
theorem SRec.mkA {w : World} {bad : Nat → Prop} {n : Nat} {xs : List Int} {cs : List Value} (hn : 1 ≤ n) (h1 : xs.length = n) (h2 : cs = xs.map (Value.int .i64)) : SRec w bad (n + 99) (xs, []) cs := by
  unfold SRec
  rw [Nat.ble_eq_true_of_le (show 100 ≤ n + 99 by omega)]
  exact ⟨by simp only; omega, h2⟩

theorem SRecs.keeps (hk : Keeps w bad w' bad') {s : Nat} {L : List (List Int × List (List Int))} {v : Value} (h : SRecs w bad s L v) : SRecs w' bad' s L v := by
  obtain ⟨a, c, hv, h1, h2, h3⟩ := h
  refine ⟨a, c, hv, h1, h2, fun i x hi => ?_⟩
  obtain ⟨b, o, cs, ha, hb, hs, hc⟩ := h3 i x hi
  obtain ⟨u0, hu0⟩ := hs.some0
  exact ⟨b, o, cs, ha, (hk b _ _ hb (hc 0 u0 hu0)).1, hs.keeps hk, fun j u hj => (hk b _ _ hb (hc j u hj)).2⟩

theorem TRep.keeps (hk : Keeps w bad w' bad') : ∀ {t : T} {v : Value}, TRep w bad t v → TRep w' bad' t v
  | .ints _ _, _, h => SInts.keeps hk h
  | .rows _, _, h => SRows.keeps hk h
  | .recs _ _, _, h => SRecs.keeps hk h

theorem ARep.keeps (hk : Keeps w bad w' bad') : ∀ {t : T} {i : Nat} {v : Value}, ARep w bad t i v → ARep w' bad' t i v
  | .ints _ _, _, _, ⟨b, o, x, hv, hl, hb, hc⟩ => by
    obtain ⟨hb', hc'⟩ := hk b o _ hb hc
    exact ⟨b, o, x, hv, hl, hb', hc'⟩
  | .rows _, _, _, ⟨b, o, l, u, hv, hl, hb, hc, hs⟩ => by
    obtain ⟨hb', hc'⟩ := hk b o _ hb hc
    exact ⟨b, o, l, u, hv, hl, hb', hc', hs.keeps hk⟩
  | .recs _ _, _, _, ⟨b, o, r, cs, hv, hl, hb, hs, hc⟩ => by
    obtain ⟨u0, hu0⟩ := hs.some0
    exact ⟨b, o, r, cs, hv, hl, (hk b _ _ hb (hc 0 u0 hu0)).1, hs.keeps hk, fun j u hj => (hk b _ _ hb (hc j u hj)).2⟩
end

/-! ### references to rows -/
structure OwnOk (hp : List (Nat × ARow)) (η : Env) (hp' : List (Nat × ARow)) (η' : Env) (k : Nat) : Prop where
  ok : ∀ r', look hp' k = some r' → ∃ r, look hp k = some r ∧ r.kind = r'.kind ∧ η'.val k = η.val k ∧ (η.cel k).length ≤ (η'.cel k).length

structure SubOk (hp : List (Nat × ARow)) (η : Env) (hp' : List (Nat × ARow)) (η' : Env) (k : Nat) : Prop where
  ok : ∀ r', look hp' k = some r' → ∃ r, look hp k = some r ∧ r.kind = r'.kind ∧ (r.kind = 2 → ∀ (i : Nat) (v : Value), (η.cel k)[i]? = some v → (η'.cel k)[i]? = some v)

section
variable {w w' : World} {bad bad' : Nat → Prop} {hp hp' : List (Nat × ARow)} {nx nx' : Nat} {η η' : Env} {f g : Nat → Bool}

mutual
theorem VRep.flt (hk : Keeps w bad w' bad') (hn : nx ≤ nx') (hf : ∀ k, k < nx → f k = true → OwnOk hp η hp' η' k) (hg : ∀ k, k < nx → g k = true → SubOk hp η hp' η' k) :
    ∀ (x : AVal) (v : Value), VRep w bad hp nx η x v → VRep w' bad' hp' nx' η' (x.flt f g) v
  | .un, _, _ => trivial
  | .c _, _, h => h
  | .t _, _, h => TRep.keeps hk h
  | .ag l, _, h => by
    obtain ⟨cs, hv, h⟩ := h
    exact ⟨cs, hv, VReps.flt hk hn hf hg l cs h⟩
  | .tu l, _, h => by
    obtain ⟨cs, hv, h⟩ := h
    exact ⟨cs, hv, VReps.flt hk hn hf hg l cs h⟩
  | .own k, v, h => by
    simp only [AVal.flt]
    cases hfk : f k with
    | false => trivial
    | true =>
      simp only [VRep] at h ⊢
      refine ⟨by omega, fun r' hr' => ?_⟩
      obtain ⟨r, hr, hkd, hv, _⟩ := (hf k h.1 hfk).ok r' hr'
      have := h.2 r hr
      exact ⟨by omega, by rw [this.2, hv]⟩
  | .ptr k o, v, h => by
    simp only [AVal.flt]
    cases hfk : f k with
    | false => trivial
    | true =>
      simp only [VRep] at h ⊢
      refine ⟨by omega, fun r' hr' => ?_⟩
      obtain ⟨r, hr, hkd, hv, hl⟩ := (hf k h.1 hfk).ok r' hr'
      obtain ⟨ho, b, hb, hvb⟩ := h.2 r hr
      exact ⟨by omega, b, by rw [hv]; exact hb, hvb⟩
  | .sub k i, v, h => by
    simp only [AVal.flt]
    cases hgk : g k with
    | false => trivial
    | true =>
      simp only [VRep] at h ⊢
      refine ⟨by omega, fun r' hr' => ?_⟩
      obtain ⟨r, hr, hkd, hc⟩ := (hg k h.1 hgk).ok r' hr'
      have := h.2 r hr
      exact ⟨by omega, hc this.1 _ _ this.2⟩
  | .subp k i j, v, h => by
    simp only [AVal.flt]
    cases hgk : g k with
    | false => trivial
    | true =>
      simp only [VRep] at h ⊢
      refine ⟨by omega, fun r' hr' => ?_⟩
      obtain ⟨r, hr, hkd, hc⟩ := (hg k h.1 hgk).ok r' hr'
      obtain ⟨hk2, b, n, c, h1, h2, h3⟩ := h.2 r hr
      exact ⟨by omega, b, n, c, hc hk2 _ _ h1, h2, h3⟩
  | .adr _ _, _, h => ARep.keeps hk h
  | .rp l o, _, h => by
    obtain ⟨b, cs, hv, hr, hc⟩ := h
    refine ⟨b, cs, hv, VReps.flt hk hn hf hg l cs hr, fun i u hu => ?_⟩
    obtain ⟨hb, hu'⟩ := hc i u hu
    exact hk b i u hb hu'
  | .clo _ l, _, h => by
    obtain ⟨cs, hv, h⟩ := h
    exact ⟨cs, hv, VReps.flt hk hn hf hg l cs h⟩
  | .knot _ l _, _, h => by
    obtain ⟨b, cs, hv, hr, hb, hc⟩ := h
    obtain ⟨hb', hc'⟩ := hk b 0 _ hb hc
    exact ⟨b, cs, hv, VReps.flt hk hn hf hg l cs hr, hb', hc'⟩
  | .nul, _, h => h
theorem VReps.flt (hk : Keeps w bad w' bad') (hn : nx ≤ nx') (hf : ∀ k, k < nx → f k = true → OwnOk hp η hp' η' k) (hg : ∀ k, k < nx → g k = true → SubOk hp η hp' η' k) :
    ∀ (l : List AVal) (vs : List Value), VReps w bad hp nx η l vs → VReps w' bad' hp' nx' η' (flts f g l) vs
  | [], [], _ => trivial
  | a :: l, v :: vs, h => ⟨VRep.flt hk hn hf hg a v h.1, VReps.flt hk hn hf hg l vs h.2⟩
  | [], _ :: _, h => h.elim
  | _ :: _, [], h => h.elim
end
end

/-! ### all references kept -/
mutual
theorem flt_true : ∀ x : AVal, x.flt (fun _ => true) (fun _ => true) = x
  | .un | .c _ | .t _ | .own _ | .ptr _ _ | .sub _ _ | .subp _ _ _ | .adr _ _ | .nul => rfl
  | .ag l => by simp only [AVal.flt, flts_true l]
  | .tu l => by simp only [AVal.flt, flts_true l]
  | .rp l _ => by simp only [AVal.flt, flts_true l]
  | .clo _ l => by simp only [AVal.flt, flts_true l]
  | .knot _ l _ => by simp only [AVal.flt, flts_true l]
theorem flts_true : ∀ l : List AVal, flts (fun _ => true) (fun _ => true) l = l
  | [] => rfl
  | a :: l => by simp only [flts, flt_true a, flts_true l]
end

theorem rowflt_true (r : ARow) : r.flt (fun _ => true) (fun _ => true) = r := by
  cases r <;> simp [ARow.flt, flts_true]

theorem fltH_true : ∀ h : List (Nat × ARow), fltH (fun _ => true) (fun _ => true) h = h
  | [] => rfl
  | (j, r) :: h => by simp only [fltH, rowflt_true, fltH_true h]

theorem fltS_true : ∀ h : List (Nat × AVal), fltS (fun _ => true) (fun _ => true) h = h
  | [] => rfl
  | (j, r) :: h => by simp only [fltS, flt_true, fltS_true h]

section
variable {w w' : World} {bad bad' : Nat → Prop} {hp hp' : List (Nat × ARow)} {nx nx' : Nat} {η η' : Env}
theorem VRep.frame (hk : Keeps w bad w' bad') (hn : nx ≤ nx') (hf : ∀ k, k < nx → OwnOk hp η hp' η' k) (hg : ∀ k, k < nx → SubOk hp η hp' η' k) {x : AVal} {v : Value}
    (h : VRep w bad hp nx η x v) : VRep w' bad' hp' nx' η' x v := by
  have := VRep.flt (f := fun _ => true) (g := fun _ => true) hk hn (fun k hk _ => hf k hk) (fun k hk _ => hg k hk) x v h
  rwa [flt_true] at this
theorem VReps.frame (hk : Keeps w bad w' bad') (hn : nx ≤ nx') (hf : ∀ k, k < nx → OwnOk hp η hp' η' k) (hg : ∀ k, k < nx → SubOk hp η hp' η' k) {x : List AVal} {v : List Value}
    (h : VReps w bad hp nx η x v) : VReps w' bad' hp' nx' η' x v := by
  have := VReps.flt (f := fun _ => true) (g := fun _ => true) hk hn (fun k hk _ => hf k hk) (fun k hk _ => hg k hk) x v h
  rwa [flts_true] at this

theorem OwnOk.refl (hp : List (Nat × ARow)) (η : Env) (k : Nat) : OwnOk hp η hp η k := ⟨fun r h => ⟨r, h, rfl, rfl, Nat.le_refl _⟩⟩
theorem SubOk.refl (hp : List (Nat × ARow)) (η : Env) (k : Nat) : SubOk hp η hp η k := ⟨fun r h => ⟨r, h, rfl, fun _ _ _ h => h⟩⟩
/-- the key's row is filtered at most, the valuation at it unchanged -/
theorem OwnOk.of {hp hp' : List (Nat × ARow)} {η η' : Env} {k : Nat} (h : ∀ r', look hp' k = some r' → ∃ r, look hp k = some r ∧ r.kind = r'.kind) (hv : η'.val k = η.val k) (hc : η'.cel k = η.cel k) : OwnOk hp η hp' η' k :=
  ⟨fun r' hr' => by obtain ⟨r, h1, h2⟩ := h r' hr'; exact ⟨r, h1, h2, hv, by rw [hc]; exact Nat.le_refl _⟩⟩
theorem SubOk.of {hp hp' : List (Nat × ARow)} {η η' : Env} {k : Nat} (h : ∀ r', look hp' k = some r' → ∃ r, look hp k = some r ∧ r.kind = r'.kind) (hc : η'.cel k = η.cel k) : SubOk hp η hp' η' k :=
  ⟨fun r' hr' => by obtain ⟨r, h1, h2⟩ := h r' hr'; exact ⟨r, h1, h2, fun _ i v => by rw [hc]; exact id⟩⟩
end

/-! ### rows -/
theorem ownsRow_same {w w' : World} {B e size : Nat} {v : Value} {n : Nat} {xs : List Value} (h : w.ownsRow B e size v n xs)
    (hb : ∀ b, b ∈ blk v → w'.heap[b]? = w.heap[b]?) : w'.ownsRow B e size v n xs := by
  refine ⟨h.1, ?_⟩
  rcases h.2 with h2 | ⟨g, cap, cur, rfl, hg, hh, r⟩
  · exact .inl h2
  · exact .inr ⟨g, cap, cur, rfl, hg, by rw [hb g (by simp [blk])]; exact hh, r⟩

theorem F2.imp {α β : Type} {R S : α → β → Prop} : ∀ {l : List α} {r : List β}, (∀ a b, b ∈ r → R a b → S a b) → F2 R l r → F2 S l r
  | [], [], _, _ => trivial
  | _ :: _, b :: _, h, ⟨h1, h2⟩ => ⟨h _ b (by simp) h1, F2.imp (fun a c hc => h a c (by simp [hc])) h2⟩
  | [], _ :: _, _, h => h.elim
  | _ :: _, [], _, h => h.elim

theorem F2.imp' {α β : Type} {R S : α → β → Prop} : ∀ {l : List α} {r : List β}, (∀ a b, a ∈ l → R a b → S a b) → F2 R l r → F2 S l r
  | [], [], _, _ => trivial
  | a :: _, _ :: _, h, ⟨h1, h2⟩ => ⟨h a _ (by simp) h1, F2.imp' (fun c b hc => h c b (by simp [hc])) h2⟩
  | [], _ :: _, _, h => h.elim
  | _ :: _, [], _, h => h.elim

theorem F2.length {α β : Type} {R : α → β → Prop} : ∀ {l : List α} {r : List β}, F2 R l r → l.length = r.length
  | [], [], _ => rfl
  | _ :: _, _ :: _, h => by simp [F2.length h.2]
  | [], _ :: _, h => h.elim
  | _ :: _, [], h => h.elim

theorem F2.at {α β : Type} {R : α → β → Prop} : ∀ {l : List α} {r : List β}, F2 R l r → ∀ {i : Nat} {a : α}, l[i]? = some a → ∃ b, r[i]? = some b ∧ R a b
  | [], [], _, i, a, h => by simp at h
  | x :: l, y :: r, h, 0, a, hi => by simp at hi; subst hi; exact ⟨y, by simp, h.1⟩
  | x :: l, y :: r, h, i + 1, a, hi => by simp at hi; simpa using F2.at h.2 hi
  | [], _ :: _, h, _, _, _ => h.elim
  | _ :: _, [], h, _, _, _ => h.elim

theorem F2.at' {α β : Type} {R : α → β → Prop} : ∀ {l : List α} {r : List β}, F2 R l r → ∀ {i : Nat} {b : β}, r[i]? = some b → ∃ a, l[i]? = some a ∧ R a b
  | [], [], _, i, a, h => by simp at h
  | x :: l, y :: r, h, 0, a, hi => by simp at hi; subst hi; exact ⟨x, by simp, h.1⟩
  | x :: l, y :: r, h, i + 1, a, hi => by simp at hi; simpa using F2.at' h.2 hi
  | [], _ :: _, h, _, _, _ => h.elim
  | _ :: _, [], h, _, _, _ => h.elim

theorem F2.intro {α β : Type} {R : α → β → Prop} : ∀ {l : List α} {r : List β}, l.length = r.length → (∀ (i : Nat) (a : α) (b : β), l[i]? = some a → r[i]? = some b → R a b) → F2 R l r
  | [], [], _, _ => trivial
  | _ :: _, _ :: _, hl, h => ⟨h 0 _ _ rfl rfl, F2.intro (by simpa using hl) (fun i a b ha hb => h (i + 1) a b (by simpa using ha) (by simpa using hb))⟩
  | [], _ :: _, hl, _ => by simp at hl
  | _ :: _, [], hl, _ => by simp at hl

theorem F2.set {α β : Type} {R : α → β → Prop} : ∀ {l : List α} {r : List β}, F2 R l r → ∀ {i : Nat} {a : α} {b : β}, R a b → F2 R (l.set i a) (r.set i b)
  | [], [], _, _, _, _, _ => by simp [F2]
  | _ :: _, _ :: _, h, 0, _, _, hab => ⟨hab, h.2⟩
  | _ :: _, _ :: _, h, _ + 1, _, _, hab => ⟨h.1, F2.set h.2 hab⟩
  | [], _ :: _, h, _, _, _, _ => h.elim
  | _ :: _, [], h, _, _, _, _ => h.elim

theorem F2.append {α β : Type} {R : α → β → Prop} : ∀ {l : List α} {r : List β} {l' : List α} {r' : List β}, F2 R l r → F2 R l' r' → F2 R (l ++ l') (r ++ r')
  | [], [], _, _, _, h => h
  | _ :: _, _ :: _, _, _, h, h' => ⟨h.1, F2.append h.2 h'⟩
  | [], _ :: _, _, _, h, _ => h.elim
  | _ :: _, [], _, _, h, _ => h.elim

section
variable {w w' : World} {B : Nat} {bad bad' : Nat → Prop} {hp hp' : List (Nat × ARow)} {nx nx' : Nat} {η η' : Env}

theorem RowRep.flt {f g : Nat → Bool} {k : Nat} {r : ARow} (h : RowRep w B bad hp nx η k r)
    (hk : Keeps w bad w' bad') (hn : nx ≤ nx') (hf : ∀ k, k < nx → f k = true → OwnOk hp η hp' η' k) (hg : ∀ k, k < nx → g k = true → SubOk hp η hp' η' k)
    (hv : η'.val k = η.val k) (hc : η'.cel k = η.cel k) (hb : ∀ b, b ∈ bsOf η k r → w'.heap[b]? = w.heap[b]?) : RowRep w' B bad' hp' nx' η' k (r.flt f g) := by
  match r with
  | .ints e kd l =>
    simp only [RowRep, ARow.flt, OwnInts] at h ⊢
    rw [hv, hc]
    exact ⟨ownsRow_same h.1 (fun b hb' => hb b (by simp [bsOf, hb'])), h.2⟩
  | .rows e e1 true m =>
    simp only [RowRep, ARow.flt] at h ⊢
    rw [hv, hc]
    refine ⟨ownsRow_same h.1 (fun b hb' => hb b (by simp [bsOf, hb'])), F2.imp (fun l v hv' ho => ?_) h.2⟩
    exact ownsRow_same ho (fun b hb' => hb b (by simp only [bsOf, ARow.kind, if_true, List.mem_append, List.mem_flatMap]; exact .inr ⟨v, hv', hb'⟩))
  | .rows e e1 false m =>
    simp only [RowRep, ARow.flt] at h ⊢
    rw [hv, hc]
    exact ⟨ownsRow_same h.1 (fun b hb' => hb b (by simp [bsOf, hb'])), F2.imp (fun l v _ ho => ho.keeps hk) h.2⟩
  | .cells e l =>
    simp only [RowRep, ARow.flt] at h ⊢
    obtain ⟨b, h1, h2, h3, h4⟩ := h
    refine ⟨b, by rw [hv]; exact h1, h2, by rw [hc, hb b (by simp [bsOf, h1, blk])]; exact h3, ?_⟩
    rw [hc]
    exact VReps.flt hk hn hf hg l _ h4
  | .recs e s L =>
    simp only [RowRep, ARow.flt] at h ⊢
    rw [hv, hc]
    obtain ⟨h1, css, h2, h3⟩ := h
    exact ⟨ownsRow_same h1 (fun b hb' => hb b (by simp [bsOf, hb'])), css, h2, F2.imp (fun l v _ ho => ho.keeps hk) h3⟩
end
end Go.Aw
/- Steps of the heap of the call's own rows. -/
namespace Go.Aw
open Go.RowKit

section
variable {w w' : World} {B : Nat} {bad bad' : Nat → Prop} {hp hp' : List (Nat × ARow)} {nx nx' : Nat} {η η' : Env} {k : Nat} {ob : Nat → Prop}

theorem ownsRow_lt {e size : Nat} {v : Value} {n : Nat} {xs : List Value} (h : w.ownsRow B e size v n xs) : ∀ b, b ∈ blk v → B ≤ b ∧ b < w.heap.size := by
  intro b hb
  rcases h.2 with ⟨rfl, _⟩ | ⟨g, cap, cur, rfl, hg, hh, r⟩
  · simp [blk] at hb
  · simp [blk] at hb; subst hb; exact ⟨hg, (Array.getElem?_eq_some_iff.1 hh).1⟩

theorem RowRep.lt {r : ARow} (h : RowRep w B bad hp nx η k r) : ∀ b, b ∈ bsOf η k r → B ≤ b ∧ b < w.heap.size := by
  intro b hb
  match r with
  | .ints e kd l => simp [bsOf, ARow.kind] at hb; exact ownsRow_lt h.1 b hb
  | .rows e e1 true m =>
    simp only [bsOf, ARow.kind, if_true, List.mem_append, List.mem_flatMap] at hb
    rcases hb with hb | ⟨v, hv, hb⟩
    · exact ownsRow_lt h.1 b hb
    · obtain ⟨i, hi⟩ := List.getElem?_of_mem hv
      obtain ⟨l, _, ho⟩ := F2.at' h.2 hi
      exact ownsRow_lt ho b hb
  | .rows e e1 false m => simp [bsOf, ARow.kind] at hb; exact ownsRow_lt h.1 b hb
  | .cells e l =>
    simp [bsOf, ARow.kind] at hb
    obtain ⟨b', h1, h2, h3, h4⟩ := h
    rw [h1] at hb
    simp [blk] at hb
    subst hb
    exact ⟨h2, (Array.getElem?_eq_some_iff.1 h3).1⟩
  | .recs e s L => simp [bsOf, ARow.kind] at hb; exact ownsRow_lt h.1 b hb

theorem bsOf_flt (f g : Nat → Bool) (η : Env) (k : Nat) (r : ARow) : bsOf η k (r.flt f g) = bsOf η k r := by simp [bsOf, kind_flt]

theorem bsOf_congr {r r' : ARow} (hv : η'.val k = η.val k) (hc : η'.cel k = η.cel k) (hk : r'.kind = r.kind) : bsOf η' k r' = bsOf η k r := by simp [bsOf, hv, hc, hk]

abbrev badOf (ob : Nat → Prop) (hp : List (Nat × ARow)) (η : Env) : Nat → Prop := fun b => ob b ∨ ownB hp η b

theorem cell_lt {b o : Nat} {x : Value} (h : w.cell? ⟨b, o, none⟩ = some x) : b < w.heap.size := World.block_lt_of_cell? w _ h

theorem Keeps.below (h : Below w.heap.size w w') : Keeps w bad w' bad := fun b o x hb hc => ⟨hb, by rw [h.cell (p := ⟨b, o, none⟩) (cell_lt hc)]; exact hc⟩

/-- what a step does to blocks -/
structure Stp (w : World) (hp : List (Nat × ARow)) (η : Env) (w' : World) (hp' : List (Nat × ARow)) (η' : Env) : Prop where
  frm : ∀ b, b < w.heap.size → ¬ ownB hp η b → w'.heap[b]? = w.heap[b]?
  src : ∀ b, ownB hp' η' b → ownB hp η b ∨ w.heap.size ≤ b

theorem HRep.stp {w w' : World} {hp hp' : List (Nat × ARow)} {η η' : Env} {k : Nat} (f g : Nat → Bool) {r' : ARow}
    (hoth : ∀ j r1, j ≠ k → look hp' j = some r1 → ∃ r, look hp j = some r ∧ r1 = r.flt f g)
    (hhk : look hp' k = some r')
    (hη : ∀ j, j ≠ k → η'.val j = η.val j ∧ η'.cel j = η.cel j)
    (hheap : ∀ b, b < w.heap.size → (∀ r, look hp k = some r → b ∉ bsOf η k r) → w'.heap[b]? = w.heap[b]?)
    (hfr : ∀ b, b ∈ bsOf η' k r' → (∃ j r, look hp j = some r ∧ b ∈ bsOf η j r ∧ (j = k ∨ look hp' j = none)) ∨ w.heap.size ≤ b) : Stp w hp η w' hp' η' := by
  refine ⟨fun b hb hn => hheap b hb (fun r hr hm => hn ⟨k, r, hr, hm⟩), fun b ⟨j, r1, hj, hm⟩ => ?_⟩
  by_cases hjk : j = k
  · subst hjk
    rw [hhk] at hj
    obtain rfl := Option.some.inj hj
    rcases hfr b hm with ⟨i, r, h1, h2, _⟩ | h
    · exact .inl ⟨i, r, h1, h2⟩
    · exact .inr h
  · obtain ⟨r, hr, rfl⟩ := hoth j r1 hjk hj
    rw [bsOf_flt, bsOf_congr (hη j hjk).1 (hη j hjk).2 rfl] at hm
    exact .inl ⟨j, r, hr, hm⟩

/-- ONE STEP: row k is written, or made; other rows may be gone (their blocks may have gone over into row k). -/
theorem HRep.step (h : HRep w B ob hp nx η) (f g : Nat → Bool) (r' : ARow) (hkn : k < nx') (hnn : nx ≤ nx')
    (hoth : ∀ j r1, j ≠ k → look hp' j = some r1 → ∃ r, look hp j = some r ∧ r1 = r.flt f g)
    (hhk : look hp' k = some r')
    (hη : ∀ j, j ≠ k → η'.val j = η.val j ∧ η'.cel j = η.cel j)
    (hheap : ∀ b, b < w.heap.size → (∀ r, look hp k = some r → b ∉ bsOf η k r) → w'.heap[b]? = w.heap[b]?)
    (hf : ∀ j, j < nx → f j = true → OwnOk hp η hp' η' j) (hg : ∀ j, j < nx → g j = true → SubOk hp η hp' η' j)
    (hnd : (bsOf η' k r').Nodup)
    (hfr : ∀ b, b ∈ bsOf η' k r' → (∃ j r, look hp j = some r ∧ b ∈ bsOf η j r ∧ (j = k ∨ look hp' j = none)) ∨ w.heap.size ≤ b)
    (hrow : Keeps w (badOf ob hp η) w' (badOf ob hp' η') → RowRep w' B (badOf ob hp' η') hp' nx' η' k r') :
    HRep w' B ob hp' nx' η' ∧ Keeps w (badOf ob hp η) w' (badOf ob hp' η') ∧ Stp w hp η w' hp' η' := by
  have hbs : ∀ j r, j ≠ k → bsOf η' j (ARow.flt f g r) = bsOf η j r := fun j r hj => by
    rw [bsOf_flt]; exact bsOf_congr (hη j hj).1 (hη j hj).2 rfl
  have hkeep : Keeps w (badOf ob hp η) w' (badOf ob hp' η') := by
    intro b o x hb hc
    have hlt := cell_lt hc
    have hno : ∀ j r, look hp j = some r → b ∉ bsOf η j r := fun j r hj hm => hb (.inr ⟨j, r, hj, hm⟩)
    refine ⟨?_, ?_⟩
    · rintro (h1 | ⟨j, r1, hj, hm⟩)
      · exact hb (.inl h1)
      · by_cases hjk : j = k
        · subst hjk
          rw [hhk] at hj
          obtain rfl := Option.some.inj hj
          rcases hfr b hm with ⟨j0, r0, hj0, hm0, _⟩ | hge
          · exact hno j0 r0 hj0 hm0
          · omega
        · obtain ⟨r, hr, rfl⟩ := hoth j r1 hjk hj
          rw [hbs j r hjk] at hm
          exact hno j r hr hm
    · have : w'.cell? ⟨b, o, none⟩ = w.cell? ⟨b, o, none⟩ := World.cell?_of_block (w := w) (hheap b hlt (fun r hr => hno k r hr))
      rw [this]; exact hc
  refine ⟨⟨?_, ?_, ?_, ?_⟩, hkeep, HRep.stp f g hoth hhk hη hheap hfr⟩
  · intro j r1 hj
    by_cases hjk : j = k
    · subst hjk
      rw [hhk] at hj
      obtain rfl := Option.some.inj hj
      exact hrow hkeep
    · obtain ⟨r, hr, rfl⟩ := hoth j r1 hjk hj
      refine (h.row j r hr).flt hkeep hnn hf hg (hη j hjk).1 (hη j hjk).2 (fun b hb => ?_)
      exact hheap b ((h.row j r hr).lt b hb).2 (fun r0 hr0 hm => h.apart j r k r0 hr hr0 hjk b hb hm)
  · intro j r1 hj
    by_cases hjk : j = k
    · subst hjk
      rw [hhk] at hj
      obtain rfl := Option.some.inj hj
      exact hnd
    · obtain ⟨r, hr, rfl⟩ := hoth j r1 hjk hj
      rw [hbs j r hjk]
      exact h.nodup j r hr
  · have key : ∀ j r1, j ≠ k → look hp' j = some r1 → ∀ b, b ∈ bsOf η' j r1 → b ∉ bsOf η' k r' := by
      intro j r1 hjk hj b hb hm
      obtain ⟨r, hr, rfl⟩ := hoth j r1 hjk hj
      rw [hbs j r hjk] at hb
      rcases hfr b hm with ⟨j0, r0, hj0, hm0, hgone⟩ | hge
      · have hne : j ≠ j0 := by
          rcases hgone with rfl | hn
          · exact hjk
          · intro e; subst e; rw [hj] at hn; cases hn
        exact h.apart j r j0 r0 hr hj0 hne b hb hm0
      · have := ((h.row j r hr).lt b hb).2
        omega
    intro j r1 j' r1' hj hj' hne b hb
    by_cases hjk : j = k
    · subst hjk
      rw [hhk] at hj
      obtain rfl := Option.some.inj hj
      exact fun hm => key j' r1' (Ne.symm hne) hj' b hm hb
    · by_cases hjk' : j' = k
      · subst hjk'
        rw [hhk] at hj'
        obtain rfl := Option.some.inj hj'
        exact key j r1 hjk hj b hb
      · obtain ⟨r, hr, rfl⟩ := hoth j r1 hjk hj
        obtain ⟨r0, hr0, rfl⟩ := hoth j' r1' hjk' hj'
        rw [hbs j r hjk] at hb
        rw [hbs j' r0 hjk']
        exact h.apart j r j' r0 hr hr0 hne b hb
  · intro j r1 hj
    by_cases hjk : j = k
    · omega
    · obtain ⟨r, hr, rfl⟩ := hoth j r1 hjk hj
      have := h.lt j r hr
      omega

theorem HRep.mono (h : HRep w B ob hp nx η) (hw : Below w.heap.size w w') : HRep w' B ob hp nx η := by
  refine ⟨fun k r hk => ?_, h.nodup, h.apart, h.lt⟩
  have hrr := h.row k r hk
  have := hrr.flt (f := fun _ => true) (g := fun _ => true) (w' := w') (bad' := badOf ob hp η) (hp' := hp) (nx' := nx) (η' := η) (Keeps.below hw) (Nat.le_refl _)
    (fun k _ _ => OwnOk.refl hp η k) (fun k _ _ => SubOk.refl hp η k) rfl rfl (fun b hb => hw.block b (hrr.lt b hb).2)
  rwa [rowflt_true] at this

/-- rows may be forgotten -/
theorem HRep.forget (h : HRep w B ob hp nx η) (hs : ∀ j r, look hp' j = some r → look hp j = some r) (hl : ∀ j r, look hp' j = some r → j < nx') (hn : nx ≤ nx') :
    HRep w B ob hp' nx' η ∧ Keeps w (badOf ob hp η) w (badOf ob hp' η) := by
  have hkeep : Keeps w (badOf ob hp η) w (badOf ob hp' η) := by
    intro b o x hb hc
    refine ⟨?_, hc⟩
    rintro (h1 | ⟨j, r, hj, hm⟩)
    · exact hb (.inl h1)
    · exact hb (.inr ⟨j, r, hs j r hj, hm⟩)
  refine ⟨⟨fun k r hk => ?_, fun j r hj => h.nodup j r (hs j r hj), fun j r j' r' hj hj' => h.apart j r j' r' (hs j r hj) (hs j' r' hj'), hl⟩, hkeep⟩
  have hrr := h.row k r (hs k r hk)
  have := hrr.flt (f := fun _ => true) (g := fun _ => true) (w' := w) (bad' := badOf ob hp' η) (hp' := hp') (nx' := nx') (η' := η) hkeep hn
    (fun k _ _ => OwnOk.of (fun r' hr' => ⟨r', hs k r' hr', rfl⟩) rfl rfl) (fun k _ _ => SubOk.of (fun r' hr' => ⟨r', hs k r' hr', rfl⟩) rfl) rfl rfl (fun b _ => rfl)
  rwa [rowflt_true] at this
end

/-! ### states -/
section
variable {w0 : Base} {w w' : World} {ob : Nat → Prop} {st : St} {a : Act} {η η' : Env}

theorem SRep.grow (h : SRep w0 ob st a w η) : w0.w.heap.size ≤ w.heap.size := h.below.size

theorem SRep.wB (h : SRep w0 ob st a w η) : w0.B ≤ w.heap.size := Nat.le_trans h.base.le h.grow

/-- own blocks are none of the caller's -/
theorem SRep.free (h : SRep w0 ob st a w η) {b : Nat} (hb : ownB st.hp η b) : ¬ ob b := fun ho => by
  rcases h.src b hb with h1 | h1
  · exact h.base.may b h1 ho
  · have := h.base.obl b ho; omega

theorem SRep.badlt (h : SRep w0 ob st a w η) {b : Nat} (hb : badOf ob st.hp η b) : b < w.heap.size := by
  rcases hb with h1 | ⟨k, r, h1, h2⟩
  · exact Nat.lt_of_lt_of_le (h.base.obl b h1) h.grow
  · exact ((h.heap.row k r h1).lt b h2).2

theorem SRep.tmp (h : SRep w0 ob st a w η) {t : Nat} {x : AVal} (hl : lk st t = some x) : VRep w (badOf ob st.hp η) st.hp st.nx η x (a.tmps.getD t undef) := by
  unfold lk at hl
  split at hl
  case h_2 => cases hl
  case h_1 hb =>
    have hlt : t < a.tmps.size := by rw [h.size]; exact Nat.le_of_ble_eq_true hb
    have := h.slot t x hl
    rwa [show a.tmps.getD t (w0.γ t) = a.tmps.getD t undef by simp [Array.getD_eq_getD_getElem?, Array.getElem?_eq_getElem hlt]] at this

theorem SRep.mono (h : SRep w0 ob st a w η) (hw : Below w.heap.size w w') : SRep w0 ob st a w' η := by
  refine ⟨h.defers, h.size, ?_, h.base, fun b hb hm => ?_, h.src, h.heap.mono hw, fun i x hi => ?_⟩
  · exact h.below.trans (hw.mono h.wB)
  · rw [hw.block b (Nat.lt_of_lt_of_le hb h.grow), h.frame b hb hm]
  · exact VRep.frame (Keeps.below hw) (Nat.le_refl _) (fun k _ => OwnOk.refl _ _ k) (fun k _ => SubOk.refl _ _ k) (h.slot i x hi)

theorem getD_put {a : Act} {d i : Nat} {v u : Value} (hd : d < a.tmps.size) : (a.put (some d) v).tmps.getD i u = if d = i then v else a.tmps.getD i u := by
  simp only [Act.put, Array.getD_eq_getD_getElem?, Array.getElem?_setIfInBounds]
  by_cases h : d = i
  · subst h; simp [hd]
  · simp [h]

theorem SRep.put (h : SRep w0 ob st a w η) {d : Nat} (hd : d < st.sz) {x : AVal} {v : Value} (hv : VRep w (badOf ob st.hp η) st.hp st.nx η x v) : SRep w0 ob (st.put d x) (a.put (some d) v) w η := by
  have hd' : d < a.tmps.size := by rw [h.size]; exact hd
  refine ⟨h.defers, by simpa [Act.put, St.put] using h.size, h.below, h.base, h.frame, h.src, h.heap, fun i y hi => ?_⟩
  simp only [St.put] at hi ⊢
  rw [look_cons] at hi
  rw [getD_put hd']
  by_cases hdi : d = i
  · rw [if_pos hdi] at hi ⊢
    obtain rfl := Option.some.inj hi
    exact hv
  · rw [if_neg hdi] at hi ⊢
    exact h.slot i y hi

theorem SRep.drop1 (h : SRep w0 ob st a w η) {d : Nat} {v : Value} : SRep w0 ob (st.drop1 d) (a.put (some d) v) w η := by
  refine ⟨h.defers, by simpa [Act.put, St.drop1] using h.size, h.below, h.base, h.frame, h.src, h.heap, fun i y hi => ?_⟩
  simp only [St.drop1] at hi ⊢
  by_cases hdi : i = d
  · subst hdi; rw [look_rem] at hi; cases hi
  · rw [look_rem_ne _ _ _ hdi] at hi
    have : (a.put (some d) v).tmps.getD i (w0.γ i) = a.tmps.getD i (w0.γ i) := by
      simp only [Act.put, Array.getD_eq_getD_getElem?, Array.getElem?_setIfInBounds]
      rw [if_neg (Ne.symm hdi)]
    rw [this]
    exact h.slot i y hi

/-- the heap has made a step -/
theorem SRep.heapStep (h : SRep w0 ob st a w η) (f g : Nat → Bool) {hp' : List (Nat × ARow)} {nx' : Nat} (hb : Below w0.B w w')
    (hh : HRep w' w0.B ob hp' nx' η') (hk : Keeps w (badOf ob st.hp η) w' (badOf ob hp' η') ∧ Stp w st.hp η w' hp' η') (hn : st.nx ≤ nx')
    (hf : ∀ j, j < st.nx → f j = true → OwnOk st.hp η hp' η' j) (hg : ∀ j, j < st.nx → g j = true → SubOk st.hp η hp' η' j) :
    SRep w0 ob { st with sl := fltS f g st.sl, hp := hp', nx := nx' } a w' η' := by
  refine ⟨h.defers, h.size, h.below.trans hb, h.base, fun b hlt hm => ?_, fun b hown => ?_, hh, fun i x hi => ?_⟩
  · rw [hk.2.frm b (Nat.lt_of_lt_of_le hlt h.grow) (fun ho => ?_), h.frame b hlt hm]
    rcases h.src b ho with h1 | h1
    · exact hm h1
    · omega
  · rcases hk.2.src b hown with h1 | h1
    · exact h.src b h1
    · exact .inr (Nat.le_trans h.grow h1)
  simp only at hi ⊢
  rw [look_fltS] at hi
  obtain ⟨y, hy, rfl⟩ := Option.map_eq_some_iff.1 hi
  exact VRep.flt hk.1 hn hf hg y _ (h.slot i y hy)

theorem frN_acc {K : Nat → Prop} : ∀ (n acc : Nat), @Nat.rec (fun _ => Nat → Prop) (fun acc => K acc) (fun _ ih acc => ih (Nat.succ acc)) n acc = K (acc + n)
  | 0, _ => rfl
  | n + 1, acc => by
    have := frN_acc (K := K) n (Nat.succ acc)
    simp only at this ⊢
    rw [this, Nat.succ_add, Nat.add_succ]
theorem frN_eq {n : Nat} {K : Nat → Prop} : frN n K = K n := by
  have := frN_acc (K := K) n 0
  rw [Nat.zero_add] at this
  exact this
theorem frV_eq {n : Nat} {K : Nat → Prop} : frV n K = K n := by cases n <;> rfl
mutual
theorem frA_eq : ∀ (x : AVal) {K : AVal → Prop}, frA x K = K x
  | .un, _ => rfl
  | .c _, _ => rfl
  | .t _, _ => rfl
  | .adr _ _, _ => rfl
  | .own k, K => frN_eq (n := k) (K := fun k => K (.own k))
  | .sub k i, K => frN_eq (n := k) (K := fun k => K (.sub k i))
  | .ptr k o, K => frN_eq (n := k) (K := fun k => K (.ptr k o))
  | .subp k i j, K => frN_eq (n := k) (K := fun k => K (.subp k i j))
  | .ag l, _ => frL_eq' l
  | .tu l, _ => frL_eq' l
  | .rp l _, _ => frL_eq' l
  | .clo _ _, _ => rfl
  | .knot _ _ _, _ => rfl
  | .nul, _ => rfl
theorem frL_eq' : ∀ (l : List AVal) {K : List AVal → Prop}, @AVal.rec_1 (fun _ => (AVal → Prop) → Prop) (fun _ => (List AVal → Prop) → Prop)
    (fun K => K .un) (fun v K => K (.c v)) (fun t K => K (.t t)) (fun _ ih K => ih fun l => K (.ag l)) (fun _ ih K => ih fun l => K (.tu l))
    (fun k K => frN k fun k => K (.own k)) (fun k i K => frN k fun k => K (.sub k i)) (fun k o K => frN k fun k => K (.ptr k o)) (fun k i j K => frN k fun k => K (.subp k i j))
    (fun t i K => K (.adr t i)) (fun _ o ih K => ih fun l => K (.rp l o)) (fun f l _ K => K (.clo f l)) (fun f l n _ K => K (.knot f l n)) (fun K => K .nul)
    (fun K => K []) (fun _ _ iha ihl K => iha fun a => ihl fun l => K (a :: l)) l K = K l
  | [], _ => rfl
  | a :: l, K => by
    have h1 := frA_eq a (K := fun a => @AVal.rec_1 (fun _ => (AVal → Prop) → Prop) (fun _ => (List AVal → Prop) → Prop)
      (fun K => K .un) (fun v K => K (.c v)) (fun t K => K (.t t)) (fun _ ih K => ih fun l => K (.ag l)) (fun _ ih K => ih fun l => K (.tu l))
      (fun k K => frN k fun k => K (.own k)) (fun k i K => frN k fun k => K (.sub k i)) (fun k o K => frN k fun k => K (.ptr k o)) (fun k i j K => frN k fun k => K (.subp k i j))
      (fun t i K => K (.adr t i)) (fun _ o ih K => ih fun l => K (.rp l o)) (fun f l _ K => K (.clo f l)) (fun f l n _ K => K (.knot f l n)) (fun K => K .nul)
      (fun K => K []) (fun _ _ iha ihl K => iha fun a => ihl fun l => K (a :: l)) l fun l => K (a :: l))
    exact h1.trans (frL_eq' l)
end

theorem frL_eq : ∀ (l : List AVal) {K : List AVal → Prop}, frL l K = K l
  | [], _ => rfl
  | a :: l, K => (frA_eq a (K := fun a => frL l fun l => K (a :: l))).trans (frL_eq l)

theorem frR_eq : ∀ (r : ARow) {K : ARow → Prop}, frR r K = K r
  | .ints .., _ => rfl
  | .rows _ _ true _, _ => rfl
  | .rows _ _ false _, _ => rfl
  | .cells _ l, _ => frL_eq l
  | .recs .., _ => rfl

theorem frH_eq : ∀ (l : List (Nat × ARow)) {K : List (Nat × ARow) → Prop}, frH l K = K l
  | [], _ => rfl
  | (i, r) :: l, K => by
    show (frN i fun i => frR r fun a => frH l fun r => K ((i, a) :: r)) = _
    rw [frN_eq, frR_eq, frH_eq l]

theorem memN_spec {i : Nat} : ∀ {l : List Nat}, memN i l = true ↔ i ∈ l
  | [] => by simp [memN]
  | j :: r => by
    unfold memN
    cases h : Nat.beq j i with
    | true => have := Nat.eq_of_beq_eq_true h; simp [this]
    | false => have : ¬ i = j := fun e => by rw [e, Nat.beq_refl] at h; cases h
               simp [memN_spec (l := r), this]

theorem frS_look : ∀ (l : List (Nat × AVal)) (seen : List Nat) {K : List (Nat × AVal) → Prop}, frS l seen K → ∃ l', K l' ∧ ∀ i, i ∉ seen → look l' i = look l i
  | [], _, _, h => ⟨[], h, fun _ _ => rfl⟩
  | (i, a) :: l, seen, K, h => by
    have h0 : match memN i seen with
      | true => frS l seen K
      | false => frA a fun a => frS l (i :: seen) fun r => K ((i, a) :: r) := h
    cases hm : memN i seen with
    | true =>
      rw [hm] at h0
      obtain ⟨l', hk, hl⟩ := frS_look l seen h0
      refine ⟨l', hk, fun j hj => ?_⟩
      rw [hl j hj, look_cons, if_neg]
      rintro rfl
      exact hj (memN_spec.1 hm)
    | false =>
      rw [hm] at h0
      simp only [frA_eq] at h0
      obtain ⟨l', hk, hl⟩ := frS_look l (i :: seen) h0
      refine ⟨_, hk, fun j hj => ?_⟩
      rw [look_cons, look_cons]
      by_cases e : i = j
      · rw [if_pos e, if_pos e]
      · rw [if_neg e, if_neg e]
        exact hl j (by simp only [List.mem_cons, not_or]; exact ⟨fun e' => e e'.symm, hj⟩)

theorem frG_eq : ∀ (l : List (Nat × AVal)) {K : List (Nat × AVal) → Prop}, frG l K = K l
  | [], _ => rfl
  | (i, r) :: l, K => by
    show (frN i fun i => frA r fun a => frG l fun r => K ((i, a) :: r)) = _
    rw [frN_eq, frA_eq, frG_eq l]

theorem frSt_spec {K : St → Prop} (h : frSt st K) : ∃ st', K st' ∧ st'.sz = st.sz ∧ st'.hp = st.hp ∧ st'.nx = st.nx ∧ ∀ i, look st'.sl i = look st.sl i := by
  unfold frSt at h
  rw [frV_eq] at h
  obtain ⟨l', hk, hl⟩ := frS_look _ _ h
  rw [frH_eq, frN_eq] at hk
  exact ⟨_, hk, rfl, rfl, rfl, fun i => hl i (by simp)⟩

theorem SRep.same {st' : St} (h : SRep w0 ob st a w η) (h1 : st'.sz = st.sz) (h2 : st'.hp = st.hp) (h3 : st'.nx = st.nx) (h4 : ∀ i, look st'.sl i = look st.sl i) : SRep w0 ob st' a w η := by
  obtain ⟨sz, sl, hp, nx⟩ := st
  obtain ⟨sz', sl', hp', nx'⟩ := st'
  simp only at h1 h2 h3 h4
  subst h1 h2 h3
  exact ⟨h.defers, h.size, h.below, h.base, h.frame, h.src, h.heap, fun i x hi => h.slot i x (by rw [← h4]; exact hi)⟩
end
end Go.Aw
/- The quiet operations: what the reckoning says of them holds in the model. -/
namespace Go.Aw
open Go.RowKit

section
variable {P : Program} {Γ : Tys} {t : Nat} {ti : TI} {w w' : World}

theorem run_isAgg (h : TyOk P t ti) : (isAgg t).run P w = .ok ti.d.agg w := by
  have hd := h.desc
  cases hdd : ti.d <;> rw [hdd] at hd <;> simp only [TD.is] at hd
  case struct fs => obtain ⟨F, hF, _⟩ := hd; simp [isAgg, run_underlying hF, TD.agg]
  case other =>
    obtain ⟨d, hF, hn⟩ := hd
    simp only [isAgg, Sem.run_bind, run_underlying hF, Result.andThen_ok, TD.agg]
    cases d <;> simp at hn ⊢
  all_goals simp [isAgg, run_underlying hd, TD.agg]

theorem run_typeInfo (h : TyOk P t ti) : ∃ i z, P.info? t = some i ∧ i.size = ti.size ∧ i.bytes = ti.bytes ∧ i.zero = some z ∧ z.cells = ti.zero.toArray ∧
    (∀ w, (typeInfo t).run P w = .ok i w) ∧ (∀ w, (sizeOf t).run P w = .ok ti.size w) ∧ (∀ w, (zeroValue t).run P w = .ok z w) := by
  obtain ⟨i, z, h1, h2, h3, h4, h5⟩ := h.info
  refine ⟨i, z, h1, h2, h3, h4, h5, fun w => ?_, fun w => ?_, fun w => ?_⟩
  · simp [typeInfo, h1]
  · simp [sizeOf, typeInfo, h1, h2]
  · simp [zeroValue, typeInfo, h1, h4]

theorem run_size (h : TyOk P t ti) (w : World) : (sizeOf t).run P w = .ok ti.size w := by
  obtain ⟨_, _, _, _, _, _, _, _, h, _⟩ := run_typeInfo h
  exact h w

theorem run_loadVar1 (h : TyOk P t ti) (ha : ti.d.agg = false) {a : Addr} {v : Value} (hc : w.cell? a = some v) : (loadVar t a).run P w = .ok v w := by
  simp only [loadVar, Sem.run_bind, run_isAgg h, Result.andThen_ok, ha, Bool.false_eq_true, if_false]
  simp [load, Sem.run, hc]

theorem run_loadVarN (h : TyOk P t ti) (ha : ti.d.agg = true) {a : Addr} {cs : List Value} (hl : cs.length = ti.size) (hc : ∀ j v, cs[j]? = some v → w.cell? (a.add j) = some v) :
    (loadVar t a).run P w = .ok (.agg cs.toArray) w := by
  simp only [loadVar, Sem.run_bind, run_isAgg h, Result.andThen_ok, ha, if_true, run_size h]
  rw [← hl, run_loadCells_list w a cs hc]
  rfl

theorem run_loadAt (a : Addr) : (Instr.loadAt t (.pointer (some a))).run P w = (loadVar t a).run P w := by
  simp [Instr.loadAt, Instr.sureAddr]
end

section
variable {P : Program} {Γ : Tys} {w0 : Base} {w : World} {ob : Nat → Prop} {st : St} {a : Act} {η : Env}

abbrev VR (w : World) (ob : Nat → Prop) (st : St) (η : Env) (x : AVal) (v : Value) : Prop := VRep w (badOf ob st.hp η) st.hp st.nx η x v
abbrev VRs (w : World) (ob : Nat → Prop) (st : St) (η : Env) (x : List AVal) (v : List Value) : Prop := VReps w (badOf ob st.hp η) st.hp st.nx η x v

theorem ev_sound (h : SRep w0 ob st a w η) {x : Operand} {y : AVal} (he : ev st x = some y) : VR w ob st η y (a.eval x) := by
  cases x with
  | tmp i => exact h.tmp he
  | const v =>
    simp only [ev] at he
    cases hv : v.oneCell' with
    | true => rw [hv] at he; simp only [Option.some.injEq] at he; subst he; exact ⟨rfl, hv⟩
    | false => rw [hv] at he; simp at he
  | global g => simp [ev] at he
  | func f =>
    simp only [ev, Option.some.injEq] at he
    subst he
    exact ⟨[], rfl, trivial⟩

theorem evs_sound (h : SRep w0 ob st a w η) : ∀ {l : List Operand} {y : List AVal}, evs st l = some y → VRs w ob st η y (l.map a.eval)
  | [], y, he => by simp only [evs, Option.some.injEq] at he; subst he; trivial
  | x :: r, y, he => by
    simp only [evs] at he
    cases hx : ev st x with
    | none => rw [hx] at he; simp at he
    | some z =>
      rw [hx] at he
      cases hr : evs st r with
      | none => rw [hr] at he; simp at he
      | some l =>
        rw [hr] at he
        simp only [Option.some.injEq] at he
        subst he
        exact ⟨ev_sound h hx, evs_sound h hr⟩

theorem VReps.nth {w : World} {bad : Nat → Prop} {hp : List (Nat × ARow)} {nx : Nat} {η : Env} : ∀ {l : List AVal} {vs : List Value}, VReps w bad hp nx η l vs → ∀ {i : Nat} {x : AVal}, nth l i = some x → ∃ v, vs[i]? = some v ∧ VRep w bad hp nx η x v
  | [], [], _, i, x, hi => by simp [Go.Aw.nth] at hi
  | y :: l, v :: vs, h, 0, x, hi => by simp [Go.Aw.nth] at hi; subst hi; exact ⟨v, by simp, h.1⟩
  | y :: l, v :: vs, h, i + 1, x, hi => by simp [Go.Aw.nth] at hi; simpa using VReps.nth h.2 hi
  | [], _ :: _, h, _, _, _ => h.elim
  | _ :: _, [], h, _, _, _ => h.elim

theorem VReps.length {w : World} {bad : Nat → Prop} {hp : List (Nat × ARow)} {nx : Nat} {η : Env} : ∀ {l : List AVal} {vs : List Value}, VReps w bad hp nx η l vs → l.length = vs.length
  | [], [], _ => rfl
  | _ :: _, _ :: _, h => by simp [VReps.length h.2]
  | [], _ :: _, h => h.elim
  | _ :: _, [], h => h.elim

theorem VReps.drop {w : World} {bad : Nat → Prop} {hp : List (Nat × ARow)} {nx : Nat} {η : Env} : ∀ {l : List AVal} {vs : List Value}, VReps w bad hp nx η l vs → ∀ (n : Nat), VReps w bad hp nx η (l.drop n) (vs.drop n)
  | [], [], _, n => by simp [VReps]
  | _ :: _, _ :: _, h, 0 => h
  | _ :: _, _ :: _, h, n + 1 => VReps.drop h.2 n
  | [], _ :: _, h, _ => h.elim
  | _ :: _, [], h, _ => h.elim

theorem VReps.take {w : World} {bad : Nat → Prop} {hp : List (Nat × ARow)} {nx : Nat} {η : Env} : ∀ {l : List AVal} {vs : List Value}, VReps w bad hp nx η l vs → ∀ (n : Nat), VReps w bad hp nx η (l.take n) (vs.take n)
  | [], [], _, n => by simp [VReps]
  | _ :: _, _ :: _, h, 0 => trivial
  | _ :: _, _ :: _, h, n + 1 => ⟨h.1, VReps.take h.2 n⟩
  | [], _ :: _, h, _ => h.elim
  | _ :: _, [], h, _ => h.elim

theorem VReps.append {w : World} {bad : Nat → Prop} {hp : List (Nat × ARow)} {nx : Nat} {η : Env} : ∀ {l : List AVal} {vs : List Value} {l' : List AVal} {vs' : List Value}, VReps w bad hp nx η l vs → VReps w bad hp nx η l' vs' → VReps w bad hp nx η (l ++ l') (vs ++ vs')
  | [], [], _, _, _, h => h
  | _ :: _, _ :: _, _, _, h, h' => ⟨h.1, VReps.append h.2 h'⟩
  | [], _ :: _, _, _, h, _ => h.elim
  | _ :: _, [], _, _, h, _ => h.elim

theorem VReps.set {w : World} {bad : Nat → Prop} {hp : List (Nat × ARow)} {nx : Nat} {η : Env} : ∀ {l : List AVal} {vs : List Value}, VReps w bad hp nx η l vs → ∀ {x : AVal} {v : Value} (n : Nat), VRep w bad hp nx η x v → VReps w bad hp nx η (l.set n x) (vs.set n v)
  | [], [], _, _, _, n, _ => by simp [VReps]
  | _ :: _, _ :: _, h, _, _, 0, hx => ⟨hx, h.2⟩
  | _ :: _, _ :: _, h, _, _, n + 1, hx => ⟨h.1, VReps.set h.2 n hx⟩
  | [], _ :: _, h, _, _, _, _ => h.elim
  | _ :: _, [], h, _, _, _, _ => h.elim

/-- the first element of a row: where its cells lie -/
theorem own_ptr {B e n sz : Nat} {v : Value} {xs : List Value} (h : w.ownsRow B e sz v n xs) {b i : Nat} (hb : blk v = [b]) {u : Value} (hi : xs[i]? = some u) : w.cell? ⟨b, i, none⟩ = some u := by
  rcases h.2 with ⟨rfl, _⟩ | ⟨g, cap, cur, rfl, hg, hh, r⟩
  · simp [blk] at hb
  · simp [blk] at hb; subst hb
    have := World.ownsRow.cells h (g := g) rfl i u hi
    simpa [Addr.add_lit] using this

/-- the cells of row k -/
theorem row_cell {B : Nat} {bad : Nat → Prop} {hp : List (Nat × ARow)} {nx k : Nat} {r : ARow} (h : RowRep w B bad hp nx η k r) {b i : Nat} (hb : blk (η.val k) = [b]) {u : Value} (hi : (η.cel k)[i]? = some u) :
    w.cell? ⟨b, i, none⟩ = some u := by
  match r with
  | .ints e kd l => exact own_ptr h.1 hb (by rw [← h.2]; exact hi)
  | .rows e e1 true m => exact own_ptr h.1 hb hi
  | .rows e e1 false m => exact own_ptr h.1 hb hi
  | .cells e l =>
    obtain ⟨b', h1, h2, h3, h4⟩ := h
    rw [h1] at hb; simp [blk] at hb; subst hb
    rw [cell_of_row w b' i _ _ _ h3]; simpa using hi
  | .recs e s L => exact own_ptr h.1 hb hi

theorem row_len {B : Nat} {bad : Nat → Prop} {hp : List (Nat × ARow)} {nx k : Nat} : ∀ {r : ARow}, RowRep w B bad hp nx η k r →
    (η.cel k).length = match r with | .ints _ _ l => l.length | .rows _ _ _ m => m.length | .cells _ l => l.length | .recs _ s L => L.length * stp s
  | .ints e kd l, h => by rw [h.2]; simp
  | .rows e e1 true m, h => (F2.length h.2).symm
  | .rows e e1 false m, h => (F2.length h.2).symm
  | .cells e l, h => by obtain ⟨_, _, _, _, h4⟩ := h; exact (VReps.length h4).symm
  | .recs e s L, h => h.1.1

/-- in every world at all -/
def QAll (P : Program) (s : Sem Value) (v : Value) : Prop := ∀ w', s.run P w' = .ok v w'
def QOk (P : Program) (w : World) (s : Sem Value) (v : Value) : Prop := ∀ w', Below w.heap.size w w' → s.run P w' = .ok v w'

theorem cell_below {w w' : World} (hb : Below w.heap.size w w') {b o : Nat} {x : Value} (h : w.cell? ⟨b, o, none⟩ = some x) : w'.cell? ⟨b, o, none⟩ = some x := by
  rw [hb.cell (p := ⟨b, o, none⟩) (cell_lt h)]; exact h

theorem acell_sound {ti : TI} {t : Nat} (ht : TyOk P t ti) {bad : Nat → Prop} {hp : List (Nat × ARow)} {nx : Nat} {l : List AVal} {cs : List Value} (hr : VReps w bad hp nx η l cs) {b off : Nat}
    (hc : ∀ i u, cs[i]? = some u → w.cell? ⟨b, i, none⟩ = some u) {K : AVal → Prop} (hk : acell ti l off K) :
    ∃ v x, K x ∧ VRep w bad hp nx η x v ∧ QOk P w (Instr.loadAt t (.pointer (some ⟨b, off, none⟩))) v := by
  unfold acell at hk
  cases ha : ti.d.agg with
  | true =>
    rw [ha] at hk
    cases hl : Nat.ble (off + ti.size) l.length with
    | false => rw [hl] at hk; exact hk.elim
    | true =>
      rw [hl] at hk
      have hle := Nat.le_of_ble_eq_true hl
      have hlen := VReps.length hr
      refine ⟨.agg ((cs.drop off).take ti.size).toArray, _, hk, ⟨_, rfl, (hr.drop off).take ti.size⟩, fun w' hb => ?_⟩
      rw [run_loadAt]
      refine run_loadVarN ht ha (by simp; omega) (fun j v hj => ?_)
      rw [Addr.add_lit]
      have hj' : cs[off + j]? = some v := by
        rw [List.getElem?_take] at hj
        split at hj
        · rw [List.getElem?_drop] at hj; exact hj
        · cases hj
      exact cell_below hb (hc _ _ hj')
  | false =>
    rw [ha] at hk
    cases hn : nth l off with
    | none => rw [hn] at hk; exact hk.elim
    | some x =>
      rw [hn] at hk
      obtain ⟨v, hv, hx⟩ := hr.nth hn
      refine ⟨v, x, hk, hx, fun w' hb => ?_⟩
      rw [run_loadAt]
      exact run_loadVar1 ht ha (cell_below hb (hc _ _ hv))

theorem getD_of {α : Type} {l : List α} {i : Nat} {x d : α} (h : l[i]? = some x) : l.getD i d = x := by simp [List.getD, h]

theorem recA_rep {bad : Nat → Prop} {hp : List (Nat × ARow)} {nx : Nat} {r : List Int × List (List Int)} {u : Value} (hu : SRows w bad r.2 u) : ∀ (s j : Nat), j + s = r.1.length →
    VReps w bad hp nx η (recA r s j) ((r.1.drop j).map (Value.int .i64) ++ [u])
  | 0, j, h => by
    rw [List.drop_eq_nil_of_le (by omega)]
    exact ⟨hu, trivial⟩
  | s + 1, j, h => by
    have hj : j < r.1.length := by omega
    rw [List.drop_eq_getElem_cons hj]
    refine ⟨⟨?_, rfl⟩, recA_rep hu s (j + 1) (by omega)⟩
    simp [List.getD, hj]

theorem intsA_rep {bad : Nat → Prop} {hp : List (Nat × ARow)} {nx : Nat} {l : List Int} : ∀ (n j : Nat), j + n = l.length → VReps w bad hp nx η (intsA l n j) ((l.drop j).map (Value.int .i64))
  | 0, j, h => by
    rw [List.drop_eq_nil_of_le (by omega)]
    trivial
  | n + 1, j, h => by
    have hj : j < l.length := by omega
    rw [List.drop_eq_getElem_cons hj]
    refine ⟨⟨?_, rfl⟩, intsA_rep n (j + 1) (by omega)⟩
    simp [List.getD, hj]
theorem recB_rep {bad : Nat → Prop} {hp : List (Nat × ARow)} {nx : Nat} {s : Nat} {r : List Int × List (List Int)} {cs : List Value} (h : SRec w bad s r cs) : VReps w bad hp nx η (recB r s) cs := by
  unfold SRec at h
  unfold recB
  cases hb : Nat.ble 100 s with
  | false =>
    simp only [hb] at h ⊢
    obtain ⟨h1, u, rfl, h2⟩ := h
    have := recA_rep (hp := hp) (nx := nx) (η := η) h2 s 0 (by omega)
    rwa [List.drop_zero] at this
  | true =>
    simp only [hb] at h ⊢
    obtain ⟨h1, rfl⟩ := h
    have := intsA_rep (w := w) (bad := bad) (hp := hp) (nx := nx) (η := η) (l := r.1) (s - 99) 0 (by omega)
    rwa [List.drop_zero] at this

theorem aload_sound (hΓ : TysOk P Γ) (h : SRep w0 ob st a w η) {t : Nat} {y : AVal} {u : Value} (hy : VR w ob st η y u) {K : AVal → Prop} (hk : aload Γ st t y K) :
    ∃ v x, K x ∧ VR w ob st η x v ∧ QOk P w (Instr.loadAt t u) v := by
  unfold aload at hk
  cases hti : look Γ t with
  | none => rw [hti] at hk; exact hk.elim
  | some ti =>
    rw [hti] at hk
    have ht := hΓ.at hti
    have one : ∀ {b o : Nat} {v : Value}, ti.d.agg = false → w.cell? ⟨b, o, none⟩ = some v → QOk P w (Instr.loadAt t (.pointer (some ⟨b, o, none⟩))) v := fun ha hc w' hb => by
      rw [run_loadAt]; exact run_loadVar1 ht ha (cell_below hb hc)
    cases y with
    | adr tr i =>
      cases tr with
      | ints k l =>
        obtain ⟨b, o, x, rfl, hl, hbad, hc⟩ := hy
        cases ha : ti.d.agg with
        | true => simp only [ha] at hk
        | false =>
          simp only [ha] at hk
          rw [getD_of hl] at hk
          exact ⟨_, _, hk, ⟨rfl, rfl⟩, one ha hc⟩
      | rows m =>
        obtain ⟨b, o, l, v, rfl, hl, hbad, hc, hs⟩ := hy
        cases ha : ti.d.agg with
        | true => simp only [ha] at hk
        | false =>
          simp only [ha] at hk
          rw [getD_of hl] at hk
          exact ⟨_, _, hk, hs, one ha hc⟩
      | recs s L =>
        obtain ⟨b, o, r, cs, rfl, hl, hbad, hs, hc⟩ := hy
        cases ha : ti.d.agg with
        | true =>
          simp only [ha] at hk
          split at hk
          case h_2 => exact hk.elim
          case h_1 hsz =>
            have hsz := Nat.eq_of_beq_eq_true hsz
            rw [getD_of hl] at hk
            have hcl := hs.len
            refine ⟨.agg cs.toArray, _, hk, ⟨_, rfl, recB_rep hs⟩, fun w' hb => ?_⟩
            rw [run_loadAt]
            refine run_loadVarN ht ha (by omega) (fun j v hj => ?_)
            rw [Addr.add_lit]
            exact cell_below hb (hc j v hj)
        | false =>
          simp only [ha] at hk
          split at hk
          case h_2 => exact hk.elim
          case h_1 =>
            rw [getD_of hl] at hk
            obtain ⟨h1, u, rfl, h2⟩ := hs
            have h3 : r.1 = [] := List.eq_nil_of_length_eq_zero h1
            refine ⟨u, _, hk, h2, one ha ?_⟩
            have := hc 0 u (by rw [h3]; rfl)
            simpa using this
    | knot f l n =>
      obtain ⟨b, cs, rfl, hr, hbad, hc⟩ := hy
      cases ha : ti.d.agg with
      | true => simp only [ha] at hk
      | false =>
        simp only [ha] at hk
        have hx : VReps w (badOf ob st.hp η) st.hp st.nx η (.knot f l n :: l.drop n) (.pointer (some ⟨b, 0, none⟩) :: cs.drop n) := ⟨⟨b, cs, rfl, hr, hbad, hc⟩, hr.drop n⟩
        exact ⟨_, _, hk, ⟨_, rfl, (hr.take n).append hx⟩, one ha hc⟩
    | ptr k off =>
      simp only [VR, VRep] at hy
      obtain ⟨hkn, hy⟩ := hy
      cases hr : look st.hp k with
      | none => simp only [hr] at hk
      | some r =>
        obtain ⟨hoff, b, hb, rfl⟩ := hy r hr
        have hrow := h.heap.row k r hr
        have hlen := row_len hrow
        obtain ⟨v, hv⟩ : ∃ v, (η.cel k)[off]? = some v := ⟨_, List.getElem?_eq_getElem hoff⟩
        have hc := row_cell hrow hb hv
        match r with
        | .ints e kd l =>
          simp only [hr] at hk
          cases ha : ti.d.agg with
          | true => simp only [ha] at hk
          | false =>
            simp only [ha] at hk
            have h2 := hrow.2
            rw [h2, List.getElem?_map] at hv
            obtain ⟨x, hx, rfl⟩ := Option.map_eq_some_iff.1 hv
            rw [getD_of hx] at hk
            exact ⟨_, _, hk, ⟨rfl, rfl⟩, one ha hc⟩
        | .rows e e1 true m =>
          simp only [hr] at hk
          cases ha : ti.d.agg with
          | true => simp only [ha] at hk
          | false =>
            simp only [ha] at hk
            refine ⟨v, _, hk, ⟨hkn, fun r' hr' => ?_⟩, one ha hc⟩
            rw [hr] at hr'
            obtain rfl := Option.some.inj hr'
            exact ⟨rfl, hv⟩
        | .rows e e1 false m =>
          simp only [hr] at hk
          cases ha : ti.d.agg with
          | true => simp only [ha] at hk
          | false =>
            simp only [ha] at hk
            obtain ⟨l, hl, hs⟩ := F2.at' hrow.2 hv
            rw [getD_of hl] at hk
            exact ⟨_, _, hk, hs, one ha hc⟩
        | .cells e l =>
          simp only [hr] at hk
          obtain ⟨b', h1, h2, h3, h4⟩ := hrow
          exact acell_sound ht h4 (fun i u hu => row_cell (h.heap.row k _ hr) hb hu) hk
        | .recs e s L =>
          simp only [hr] at hk
          cases ha : ti.d.agg with
          | true => simp only [ha] at hk
          | false =>
            simp only [ha] at hk
            split at hk
            case h_2 => exact hk.elim
            case h_1 =>
              obtain ⟨_, css, hcss, hF⟩ := hrow
              have one1 : ∀ {L : List (List Int × List (List Int))} {css : List (List Value)}, F2 (SRec w (badOf ob st.hp η) 0) L css → ∀ {i : Nat} {v : Value}, css.flatten[i]? = some v → ∃ r, L[i]? = some r ∧ SRows w (badOf ob st.hp η) r.2 v := by
                intro L
                induction L with
                | nil => intro css hF i v hv; cases css with
                  | nil => simp at hv
                  | cons => exact hF.elim
                | cons r L ih => intro css hF i v hv; cases css with
                  | nil => exact hF.elim
                  | cons cs css =>
                    obtain ⟨h1, u, rfl, h2⟩ := hF.1
                    have h3 : r.1 = [] := List.eq_nil_of_length_eq_zero h1
                    rw [h3] at hv
                    cases i with
                    | zero => simp at hv; subst hv; exact ⟨r, rfl, h2⟩
                    | succ i => exact ih hF.2 (by simpa using hv)
              rw [hcss] at hv
              obtain ⟨r, hr1, hs⟩ := one1 hF hv
              rw [getD_of hr1] at hk
              exact ⟨_, _, hk, hs, one ha hc⟩
    | subp k i j =>
      simp only [VR, VRep] at hy
      obtain ⟨hkn, hy⟩ := hy
      cases hr : look st.hp k with
      | none => simp only [hr] at hk
      | some r =>
        obtain ⟨hk2, b, n, c, hcel, hj, rfl⟩ := hy r hr
        have hrow := h.heap.row k r hr
        match r, hk2 with
        | .rows e e1 true m, _ =>
          simp only [hr] at hk
          cases ha : ti.d.agg with
          | true => simp only [ha] at hk
          | false =>
            simp only [ha] at hk
            obtain ⟨l, hl, ho⟩ := F2.at' hrow.2 hcel
            rw [getD_of hl] at hk
            have hln : n = l.length := by
              rcases ho.2 with ⟨h1, _⟩ | ⟨g, cap, cur, h1, _⟩ <;> simp at h1
              omega
            have hjl : j < l.length := by omega
            have hx : l[j]? = some l[j] := List.getElem?_eq_getElem hjl
            rw [getD_of hx] at hk
            have hc := own_ptr ho (b := b) (i := j) (u := .int .i64 l[j]) rfl (by simp)
            exact ⟨_, _, hk, ⟨rfl, rfl⟩, one ha hc⟩
    | rp l off =>
      obtain ⟨b, cs, rfl, hr, hc⟩ := hy
      exact acell_sound ht hr (fun i u hu => (hc i u hu).2) hk
    | _ => exact hk.elim
end
end Go.Aw
/- The quiet operations, continued. -/
namespace Go.Aw
open Go.RowKit

theorem keq_spec : ∀ {k k' : IntKind}, keq k k' = true → k = k' := by
  intro k k' h
  cases k <;> cases k' <;> first | rfl | (simp [keq] at h)

section
variable {P : Program} {Γ : Tys} {w0 : Base} {w : World} {ob : Nat → Prop} {st : St} {a : Act} {η : Env}

theorem QOk.pure (v : Value) : QOk P w (Pure.pure v) v := fun _ _ => rfl

theorem aint_sound {op : BinOp} {k : IntKind} {x y : Int} {K : AVal → Prop} (hk : aint op k x y K) {t : Nat} (hop : op ≠ .shl ∧ op ≠ .shr) :
    ∃ v u, K u ∧ VR w ob st η u v ∧ QOk P w (binOp op t (.int k x) (.int k y)) v := by
  cases op <;> simp only [aint] at hk
  case quo => exact ⟨_, _, hk.2, ⟨rfl, rfl⟩, fun w' _ => by simp [binOp, Op.intDiv, hk.1]⟩
  case rem => exact ⟨_, _, hk.2, ⟨rfl, rfl⟩, fun w' _ => by simp [binOp, Op.intDiv, hk.1]⟩
  all_goals exact ⟨_, _, hk, ⟨rfl, rfl⟩, fun w' _ => by first | (simp [binOp, Op.intArith]; done) | (simp [binOp, Op.intCmp]; done) | (simp only [binOp_and, binOp_or, binOp_xor, binOp_andNot, intBits_and, intBits_or, intBits_xor, intBits_andNot]; rfl)⟩

theorem abin_sound {op : BinOp} {x y : AVal} {u v : Value} (hx : VR w ob st η x u) (hy : VR w ob st η y v) {K : AVal → Prop} (hk : abin op x y K) {t : Nat} :
    ∃ z q, K q ∧ VR w ob st η q z ∧ QOk P w (binOp op t u v) z := by
  unfold abin at hk
  split at hk
  case h_2 => exact hk.elim
  case h_1 k n k' m =>
    obtain ⟨rfl, _⟩ := hx
    obtain ⟨rfl, _⟩ := hy
    split at hk
    case h_1 => 
      refine ⟨_, _, hk.2, ⟨rfl, rfl⟩, fun w' _ => ?_⟩
      have := hk.1
      simp [binOp, Op.shift, Go.Aw.shl, Int.not_lt.2 this]
    case h_2 =>
      refine ⟨_, _, hk.2, ⟨rfl, rfl⟩, fun w' _ => ?_⟩
      have := hk.1
      simp [binOp, Op.shift, Go.Aw.shr, Int.not_lt.2 this]
    case h_3 h1 h2 =>
      cases hq : keq k k' with
      | false => rw [hq] at hk; exact hk.elim
      | true =>
        rw [hq] at hk
        obtain rfl := keq_spec hq
        exact aint_sound hk ⟨fun e => h1 e, fun e => h2 e⟩

theorem eqGuard_flat {op : BinOp} {t : Nat} {x y : Operand} {k : IntKind} {n : Int} {v : Value} : eqGuard op t x y (.int k n) v = Pure.pure () := by cases op <;> rfl

theorem aun_sound {op : UnOp} {x : AVal} {u : Value} (hx : VR w ob st η x u) {K : AVal → Prop} (hk : aun op x K) :
    ∃ z q, K q ∧ VR w ob st η q z ∧ QOk P w (Op.unary op u) z := by
  unfold aun at hk
  split at hk
  case h_1 => obtain ⟨rfl, _⟩ := hx; exact ⟨_, _, hk, ⟨rfl, rfl⟩, fun _ _ => rfl⟩
  case h_2 => obtain ⟨rfl, _⟩ := hx; exact ⟨_, _, hk, ⟨rfl, rfl⟩, fun _ _ => rfl⟩
  case h_3 => exact hk.elim

theorem len_own {B e n sz : Nat} {v : Value} {xs : List Value} (h : w.ownsRow B e sz v n xs) : ∃ b c, v = .slice b n c := by
  rcases h.2 with ⟨rfl, rfl⟩ | ⟨g, cap, cur, rfl, _⟩
  · exact ⟨_, _, rfl⟩
  · exact ⟨_, _, rfl⟩

theorem run_len_sl {t e : Nat} (ht : P.underlying t = some (.slice e)) (ty : Nat) (b : Option Addr) (n c : Nat) (w' : World) :
    (Builtin.len_ #[t] ty #[.slice b n c]).run P w' = .ok (.int .i64 n) w' := by
  simp [Builtin.len_, run_underlying ht, goInt]

theorem alen_sound (h : SRep w0 ob st a w η) {x : AVal} {u : Value} (hx : VR w ob st η x u) {K : AVal → Prop} (hk : alen st x K) {t ty e : Nat} (ht : P.underlying t = some (.slice e)) :
    ∃ z q, K q ∧ VR w ob st η q z ∧ QOk P w (Builtin.len_ #[t] ty #[u]) z := by
  have fin : ∀ (b : Option Addr) (n c : Nat), u = .slice b n c → K (.c (.int .i64 n)) → ∃ z q, K q ∧ VR w ob st η q z ∧ QOk P w (Builtin.len_ #[t] ty #[u]) z := fun b n c hu hk =>
    ⟨_, _, hk, ⟨rfl, rfl⟩, fun w' _ => by rw [hu]; exact run_len_sl ht ty b n c w'⟩
  cases x with
  | c v =>
    obtain ⟨rfl, _⟩ := hx
    unfold alen at hk
    split at hk
    case h_1 heq =>
      simp only [AVal.c.injEq] at heq
      exact fin none 0 0 heq hk
    all_goals first | exact hk.elim | (rename_i heq; cases heq)
  | t tr =>
    cases tr with
    | ints k l => obtain ⟨b, c, hu, _⟩ := hx; exact fin b _ c hu hk
    | rows m => obtain ⟨b, c, hu, _⟩ := hx; exact fin b _ c hu hk
    | recs s L => obtain ⟨b, c, hu, _⟩ := hx; exact fin b _ c hu hk
  | nul => obtain ⟨b, hu⟩ := hx; exact fin b 0 0 hu hk
  | own k =>
    simp only [alen] at hk
    simp only [VR, VRep] at hx
    cases hr : look st.hp k with
    | none => rw [hr] at hk; exact hk.elim
    | some r =>
      rw [hr] at hk
      obtain ⟨_, rfl⟩ := hx.2 r hr
      have hrow := h.heap.row k r hr
      match r with
      | .ints e kd l => obtain ⟨b, c, hu⟩ := len_own hrow.1; exact fin b _ c hu hk
      | .rows e e1 true m => obtain ⟨b, c, hu⟩ := len_own hrow.1; exact fin b _ c hu hk
      | .rows e e1 false m => obtain ⟨b, c, hu⟩ := len_own hrow.1; exact fin b _ c hu hk
      | .cells e l => exact hk.elim
      | .recs e s L => obtain ⟨b, c, hu⟩ := len_own hrow.1; exact fin b _ c hu hk
  | sub k i =>
    simp only [alen] at hk
    simp only [VR, VRep] at hx
    cases hr : look st.hp k with
    | none => rw [hr] at hk; exact hk.elim
    | some r =>
      rw [hr] at hk
      obtain ⟨hk2, hcel⟩ := hx.2 r hr
      have hrow := h.heap.row k r hr
      match r, hk2 with
      | .rows e e1 true m, _ =>
        obtain ⟨l, hl, ho⟩ := F2.at' hrow.2 hcel
        simp only at hk
        rw [getD_of hl] at hk
        obtain ⟨b, c, hu⟩ := len_own ho
        exact fin b _ c hu hk
  | _ => exact hk.elim

theorem run_idx_sl {t e : Nat} {ti : TI} (ht : P.underlying t = some (.slice e)) (he : TyOk P e ti) (hs : ti.size = 1) {b o n c i : Nat} {k : IntKind} (hi : i < n) (w' : World) :
    (Instr.indexAt t (.slice (some ⟨b, o, none⟩) n c) (.int k i)).run P w' = .ok (.pointer (some ⟨b, o + i, none⟩)) w' := by
  have h1 : (0 : Int) ≤ i ∧ (i : Int) < n := ⟨by omega, by omega⟩
  simp only [Instr.indexAt, run_underlying ht, asIntOf, Sem.run_bind, Sem.run_pure, Result.andThen_ok, h1]
  simp [Addr.add_lit, run_size he, hs]

theorem run_idx_slN {t e : Nat} {ti : TI} (ht : P.underlying t = some (.slice e)) (he : TyOk P e ti) {b o n c i : Nat} {k : IntKind} (hi : i < n) (w' : World) :
    (Instr.indexAt t (.slice (some ⟨b, o, none⟩) n c) (.int k i)).run P w' = .ok (.pointer (some ⟨b, o + i * ti.size, none⟩)) w' := by
  have h1 : (0 : Int) ≤ i ∧ (i : Int) < n := ⟨by omega, by omega⟩
  simp only [Instr.indexAt, run_underlying ht, asIntOf, Sem.run_bind, Sem.run_pure, Result.andThen_ok, h1]
  simp [Addr.add_lit, run_size he]

theorem aidx_recs {t e : Nat} {ti : TI} (ht : P.underlying t = some (.slice e)) (hei : TyOk P e ti) {s : Nat} {L : List (List Int × List (List Int))} {u : Value} (hx : VR w ob st η (.t (.recs s L)) u) (hs : ti.size = stp s) {kk : IntKind} {n : Int} {K : AVal → Prop}
    (hk : ∃ i : Nat, n = (i : Int) ∧ i < L.length ∧ K (.adr (.recs s L) i)) : ∃ z q, K q ∧ VR w ob st η q z ∧ QAll P (Instr.indexAt t u (.int kk n)) z := by
  obtain ⟨i, hn, hi, hk⟩ := hk
  obtain ⟨b, c, hu, _, _, hc⟩ := hx
  obtain ⟨b, o, cs, rfl, hbad, hcl, hcell⟩ := hc i _ (List.getElem?_eq_getElem hi)
  subst hu hn
  refine ⟨_, _, hk, ⟨b, o + i * stp s, _, cs, rfl, List.getElem?_eq_getElem hi, hbad, hcl, hcell⟩, fun w' => ?_⟩
  rw [← hs]
  exact run_idx_slN ht hei hi w'

theorem aidx_sound (hΓ : TysOk P Γ) (h : SRep w0 ob st a w η) {t : Nat} {x y : AVal} {u v : Value} (hx : VR w ob st η x u) (hy : VR w ob st η y v) {K : AVal → Prop} (hk : aidx Γ st t x y K) :
    ∃ z q, K q ∧ VR w ob st η q z ∧ QAll P (Instr.indexAt t u v) z := by
  unfold aidx at hk
  split at hk
  case h_2 => exact hk.elim
  case h_1 kk n =>
    obtain ⟨rfl, _⟩ := hy
    split at hk
    case h_3 => exact hk.elim
    case h_1 e s1 s2 s3 hti =>
      have ht := (hΓ.at hti).desc
      simp only [TD.is] at ht
      split at hk
      case h_3 => exact hk.elim
      case h_2 d1 sz d2 d3 _ hei =>
        have hte := hΓ.at hei
        split at hk
        case h_2 => exact hk.elim
        case h_1 s L =>
          split at hk
          case h_2 => exact hk.elim
          case h_1 hsz => exact aidx_recs ht hte hx (Nat.eq_of_beq_eq_true hsz) hk
      case h_1 d1 d2 d3 hei =>
        have hte := hΓ.at hei
        have fin : ∀ {b o n' c i : Nat}, n = (i : Int) → i < n' → QAll P (Instr.indexAt t (.slice (some ⟨b, o, none⟩) n' c) (.int kk n)) (.pointer (some ⟨b, o + i, none⟩)) := by
          intro b o n' c i hn hi w'
          rw [hn]
          exact run_idx_sl ht hte rfl hi w'
        split at hk
        case h_1 k l =>
          obtain ⟨i, hn, hi, hk⟩ := hk
          obtain ⟨b, c, hu, _, _, hc⟩ := hx
          obtain ⟨b, o, rfl, hbad, hcl⟩ := hc i _ (List.getElem?_eq_getElem hi)
          subst hu
          exact ⟨_, _, hk, ⟨b, o + i, _, rfl, List.getElem?_eq_getElem hi, hbad, hcl⟩, fin hn hi⟩
        case h_2 m =>
          obtain ⟨i, hn, hi, hk⟩ := hk
          obtain ⟨b, c, hu, _, _, hc⟩ := hx
          obtain ⟨b, o, z, rfl, hbad, hcl, hs⟩ := hc i _ (List.getElem?_eq_getElem hi)
          subst hu
          exact ⟨_, _, hk, ⟨b, o + i, _, z, rfl, List.getElem?_eq_getElem hi, hbad, hcl, hs⟩, fin hn hi⟩
        case h_3 L => exact aidx_recs ht hte hx rfl hk
        case h_4 k =>
          simp only [VR, VRep] at hx
          have own : ∀ {e' n' i : Nat} {r : ARow} {xs : List Value}, look st.hp k = some r → w.ownsRow w0.B e' 1 (η.val k) n' xs → (η.cel k).length = n' → n = (i : Int) → i < n' → u = η.val k →
              VR w ob st η (.ptr k i) (.pointer (some ⟨(blk (η.val k)).headD 0, 0 + i, none⟩)) ∧ QAll P (Instr.indexAt t u (.int kk n)) (.pointer (some ⟨(blk (η.val k)).headD 0, 0 + i, none⟩)) := by
            intro e' n' i r xs hr ho hl hn hi hu
            rcases ho.2 with ⟨hv, h0⟩ | ⟨g, cap, cur, hv, _⟩
            · omega
            · rw [hu, hv]
              refine ⟨?_, by simpa [blk] using fin (b := g) (o := 0) (c := cap) hn hi⟩
              refine ⟨hx.1, fun r' hr' => ⟨by omega, g, by rw [hv]; simp [blk], by simp [blk]⟩⟩
          split at hk
          case h_1 e' kd l hr =>
            obtain ⟨i, hn, hi, hk⟩ := hk
            have hrow := h.heap.row k _ hr
            obtain ⟨_, hu⟩ := hx.2 _ hr
            obtain ⟨h1, h2⟩ := own hr hrow.1 (row_len hrow) hn hi hu
            exact ⟨_, _, hk, h1, h2⟩
          case h_2 e' e1 ub m hr =>
            obtain ⟨i, hn, hi, hk⟩ := hk
            have hrow := h.heap.row k _ hr
            obtain ⟨_, hu⟩ := hx.2 _ hr
            have ho : w.ownsRow w0.B e' 1 (η.val k) m.length (η.cel k) := by cases ub <;> exact hrow.1
            obtain ⟨h1, h2⟩ := own hr ho (row_len hrow) hn hi hu
            exact ⟨_, _, hk, h1, h2⟩
          case h_3 e' L hr =>
            obtain ⟨i, hn, hi, hk⟩ := hk
            have hrow := h.heap.row k _ hr
            obtain ⟨_, hu⟩ := hx.2 _ hr
            obtain ⟨h1, h2⟩ := own (n' := L.length) hr hrow.1 (by have := row_len hrow; simp only [stp] at this; simpa using this) hn hi hu
            exact ⟨_, _, hk, h1, h2⟩
          case h_4 => exact hk.elim
        case h_5 k j =>
          split at hk
          case h_2 => exact hk.elim
          case h_1 e' e1 m hr =>
            obtain ⟨i, hn, hi, hk⟩ := hk
            simp only [VR, VRep] at hx
            have hrow := h.heap.row k _ hr
            obtain ⟨_, hcel⟩ := hx.2 _ hr
            obtain ⟨l, hl, ho⟩ := F2.at' hrow.2 hcel
            rw [getD_of hl] at hi
            rcases ho.2 with ⟨hv, h0⟩ | ⟨g, cap, cur, hv, _⟩
            · omega
            · subst hv
              refine ⟨_, _, hk, ⟨hx.1, fun r' hr' => ?_⟩, fin (b := g) (o := 0) (c := cap) hn hi⟩
              rw [hr] at hr'
              obtain rfl := Option.some.inj hr'
              exact ⟨rfl, g, l.length, cap, hcel, hi, by simp⟩
        case h_6 => exact hk.elim
    case h_2 len e s1 s2 s3 hti =>
      have ht := (hΓ.at hti).desc
      simp only [TD.is] at ht
      split at hk
      case h_2 => exact hk.elim
      case h_1 d1 sz d2 d3 hei =>
        have hte := hΓ.at hei
        have fin : ∀ {b o i : Nat}, n = (i : Int) → i < len → QAll P (Instr.indexAt t (.pointer (some ⟨b, o, none⟩)) (.int kk n)) (.pointer (some ⟨b, o + i * sz, none⟩)) := by
          intro b o i hn hi w'
          have h1 : (0 : Int) ≤ i ∧ (i : Int) < len := ⟨by omega, by omega⟩
          rw [hn]
          simp only [Instr.indexAt, run_underlying ht, asIntOf, Instr.sureAddr, Sem.run_bind, Sem.run_pure, Result.andThen_ok, h1]
          simp [Addr.add_lit, run_size hte]
        split at hk
        case h_1 k off =>
          split at hk
          case h_2 => exact hk.elim
          case h_1 e' l hr =>
            obtain ⟨i, hn, hi, ho, hk⟩ := hk
            simp only [VR, VRep] at hx
            obtain ⟨_, b, hb, rfl⟩ := hx.2 _ hr
            have hlen := row_len (h.heap.row k _ hr)
            refine ⟨_, _, hk, ⟨hx.1, fun r' hr' => ?_⟩, fin hn hi⟩
            rw [hr] at hr'
            obtain rfl := Option.some.inj hr'
            exact ⟨by simp only at hlen; omega, b, hb, rfl⟩
        case h_2 l off =>
          obtain ⟨i, hn, hi, ho, hk⟩ := hk
          obtain ⟨b, cs, rfl, hr, hc⟩ := hx
          exact ⟨_, _, hk, ⟨b, cs, rfl, hr, hc⟩, fin hn hi⟩
        case h_3 => exact hk.elim
end
end Go.Aw
/- All quiet operations together. -/
namespace Go.Aw
open Go.RowKit

section
variable {P : Program} {Γ : Tys} {w0 : Base} {w : World} {ob : Nat → Prop} {st : St} {a : Act} {η : Env}

theorem nth_map {α β : Type} (f : α → β) : ∀ (l : List α) (n : Nat), nth (l.map f) n = (nth l n).map f
  | [], _ => rfl
  | _ :: _, 0 => rfl
  | _ :: r, n + 1 => nth_map f r n

theorem struct_field {F : Array Field} {fs : List (Nat × Nat)} (hF : F.toList.map (fun f => (f.offset, f.type)) = fs) {f o ft : Nat} (h : nth fs f = some (o, ft)) :
    ∃ fd, F[f]? = some fd ∧ fd.offset = o ∧ fd.type = ft := by
  rw [← hF, nth_map, nth_eq] at h
  obtain ⟨fd, h1, h2⟩ := Option.map_eq_some_iff.1 h
  simp only [Prod.mk.injEq] at h2
  exact ⟨fd, by simpa using h1, h2.1, h2.2⟩

theorem run_faddr {s f o ft b off n : Nat} {fs : List (Nat × Nat)} {ti : TI} (hs : TD.is P s (.struct fs)) (hf : nth fs f = some (o, ft)) (ht : TyOk P ft ti) (hn : ti.size = n + 1) (w' : World) :
    (Instr.fieldAt s (.pointer (some ⟨b, off, none⟩)) f).run P w' = .ok (.pointer (some ⟨b, off + o, none⟩)) w' := by
  obtain ⟨F, hF, hm⟩ := hs
  obtain ⟨fd, h1, h2, h3⟩ := struct_field hm hf
  subst h2 h3
  simp [Instr.fieldAt, run_underlying hF, h1, Instr.sureAddr, fieldPlace, run_size ht, hn, Addr.add_lit]

theorem afaddr_sound (hΓ : TysOk P Γ) (h : SRep w0 ob st a w η) {s f : Nat} {x : AVal} {u : Value} (hx : VR w ob st η x u) {K : AVal → Prop} (hk : afaddr Γ st s x f K) :
    ∃ z q, K q ∧ VR w ob st η q z ∧ QAll P (Instr.fieldAt s u f) z := by
  unfold afaddr at hk
  split at hk
  case h_2 => exact hk.elim
  case h_1 fs s1 s2 s3 hs =>
    have hd := (hΓ.at hs).desc
    split at hk
    case h_2 => exact hk.elim
    case h_1 o ft hf =>
      split at hk
      case h_2 => exact hk.elim
      case h_1 d1 n d2 d3 hft =>
        have hrun := fun b off w' => run_faddr (P := P) (b := b) (off := off) hd hf (hΓ.at hft) (n := n) rfl w'
        split at hk
        case h_1 k off =>
          split at hk
          case h_2 => exact hk.elim
          case h_1 e l hr =>
            split at hk
            case h_2 => exact hk.elim
            case h_1 hlt =>
              have hlt' := Nat.le_of_ble_eq_true hlt
              simp only [VR, VRep] at hx
              obtain ⟨_, b, hb, rfl⟩ := hx.2 _ hr
              have hlen := row_len (h.heap.row k _ hr)
              refine ⟨_, _, hk, ⟨hx.1, fun r' hr' => ?_⟩, fun w' => hrun b off w'⟩
              rw [hr] at hr'
              obtain rfl := Option.some.inj hr'
              exact ⟨by simp only at hlen; omega, b, hb, rfl⟩
        case h_2 l off =>
          obtain ⟨b, cs, rfl, hr, hc⟩ := hx
          exact ⟨_, _, hk, ⟨b, cs, rfl, hr, hc⟩, fun w' => hrun b off w'⟩
        case h_3 => exact hk.elim

theorem run_part {t : Nat} {ti : TI} (ht : TyOk P t ti) {l : List AVal} {cs : List Value} {bad : Nat → Prop} {hp : List (Nat × ARow)} {nx o : Nat} (hr : VReps w bad hp nx η l cs) {K : AVal → Prop} (hk : acell ti l o K) :
    ∃ v x, K x ∧ VRep w bad hp nx η x v ∧ ∀ w' : World, (part t cs.toArray o).run P w' = .ok v w' := by
  unfold acell at hk
  cases ha : ti.d.agg with
  | true =>
    rw [ha] at hk
    cases hl : Nat.ble (o + ti.size) l.length with
    | false => rw [hl] at hk; exact hk.elim
    | true =>
      rw [hl] at hk
      refine ⟨_, _, hk, ⟨_, rfl, (hr.drop o).take ti.size⟩, fun w' => ?_⟩
      simp only [part, Sem.run_bind, run_isAgg ht, Result.andThen_ok, ha, if_true, run_size ht]
      simp [List.extract_eq_take_drop]
  | false =>
    rw [ha] at hk
    cases hn : nth l o with
    | none => rw [hn] at hk; exact hk.elim
    | some x =>
      rw [hn] at hk
      obtain ⟨v, hv, hx⟩ := hr.nth hn
      refine ⟨v, x, hk, hx, fun w' => ?_⟩
      simp only [part, Sem.run_bind, run_isAgg ht, Result.andThen_ok, ha, Bool.false_eq_true, if_false]
      simp [hv]

theorem afield_sound (hΓ : TysOk P Γ) {s f : Nat} {x : AVal} {u : Value} (hx : VR w ob st η x u) {K : AVal → Prop} (hk : afield Γ s x f K) :
    ∃ z q, K q ∧ VR w ob st η q z ∧ QOk P w (Instr.field s u f) z := by
  unfold afield at hk
  split at hk
  case h_2 => exact hk.elim
  case h_1 fs s1 s2 s3 hs =>
    have hd := (hΓ.at hs).desc
    obtain ⟨F, hF, hm⟩ := hd
    split at hk
    case h_2 => exact hk.elim
    case h_1 o ft hf =>
      obtain ⟨fd, h1, h2, h3⟩ := struct_field hm hf
      subst h2 h3
      split at hk
      case h_2 => exact hk.elim
      case h_1 ti hft =>
        split at hk
        case h_2 => exact hk.elim
        case h_1 l =>
          obtain ⟨cs, rfl, hr⟩ := hx
          obtain ⟨v, q, hq, hv, hrun⟩ := run_part (hΓ.at hft) hr hk
          refine ⟨v, q, hq, hv, fun w' _ => ?_⟩
          simp [Instr.field, run_underlying hF, h1, asAgg, hrun w']

theorem bind_some {α β : Type} {x : Option α} {f : α → Option β} {b : β} (h : x.bind f = some b) : ∃ a, x = some a ∧ f a = some b := by
  cases x with
  | none => cases h
  | some a => exact ⟨a, rfl, h⟩

theorem oAll_spec {α β : Type} {f : α → Option β} : ∀ {l : List α} {r : List β}, oAll f l = some r → l.mapM f = some r
  | [], r, h => by simp [oAll] at h; simp [h]
  | a :: l, r, h => by
    simp only [oAll] at h
    cases hf : f a with
    | none => simp [hf] at h
    | some b =>
      cases hl : oAll f l with
      | none => simp [hf, hl] at h
      | some s =>
        simp [hf, hl] at h
        subst h
        simp [List.mapM_cons, hf, oAll_spec hl]

theorem places_eq (hΓ : TysOk P Γ) : ∀ {F : List Field} {ps : List (Nat × Nat)}, oAll (aplace Γ) (F.map fun f => (f.offset, f.type)) = some ps →
    F.mapM (fun f => (P.info? f.type).map fun i => (f.offset, i.size)) = some ps
  | [], ps, h => by simp [oAll] at h; simp [h]
  | f :: F, ps, h => by
    simp only [List.map_cons, oAll, aplace] at h
    cases hl : look Γ f.type with
    | none => simp [hl] at h
    | some ti =>
      cases hr : oAll (aplace Γ) (F.map fun f => (f.offset, f.type)) with
      | none => simp [hl, hr] at h
      | some rest =>
        simp [hl, hr] at h
        subst h
        obtain ⟨i, z, h1, h2, _⟩ := (hΓ.at hl).info
        simp [List.mapM_cons, h1, h2, places_eq hΓ hr]

theorem one_cell {B : Nat} {hp : List (Nat × ARow)} {nx : Nat} (hh : HRep w B ob hp nx η) {x : AVal} {v : Value} (ho : one hp x = true) (hx : VRep w (badOf ob hp η) hp nx η x v) :
    v.oneCell' = true ∧ v.cells = #[v] := by
  have key : ∀ {v : Value}, v.oneCell' = true → v.oneCell' = true ∧ v.cells = #[v] := fun {v} h1 => ⟨h1, by cases v <;> first | rfl | (simp [Value.oneCell'] at h1)⟩
  have isk : ∀ k, isKey hp k = true → ∃ r, look hp k = some r := fun k hk => by
    unfold isKey at hk
    cases hr : look hp k with
    | none => rw [hr] at hk; cases hk
    | some r => exact ⟨r, rfl⟩
  cases x with
  | c y => obtain ⟨rfl, h1⟩ := hx; exact key h1
  | t tr => cases tr <;> (obtain ⟨_, _, rfl, _⟩ := hx; exact key rfl)
  | adr tr i => cases tr <;> (obtain ⟨_, _, _, h⟩ := hx) <;> first | (rw [h.1]; exact key rfl) | (obtain ⟨_, h, _⟩ := h; rw [h]; exact key rfl)
  | rp l o => obtain ⟨_, _, rfl, _⟩ := hx; exact key rfl
  | clo f l => obtain ⟨_, rfl, _⟩ := hx; exact key rfl
  | knot f l n => obtain ⟨_, _, rfl, _⟩ := hx; exact key rfl
  | nul => obtain ⟨_, rfl⟩ := hx; exact key rfl
  | un => cases ho
  | ag l => cases ho
  | tu l => cases ho
  | own k =>
    obtain ⟨r, hr⟩ := isk k ho
    obtain ⟨hk4, rfl⟩ := hx.2 r hr
    have hrow := hh.row k r hr
    match r, hk4 with
    | .ints _ _ _, _ => obtain ⟨b, c, hu⟩ := len_own hrow.1; rw [hu]; exact key rfl
    | .rows _ _ true _, _ => obtain ⟨b, c, hu⟩ := len_own hrow.1; rw [hu]; exact key rfl
    | .rows _ _ false _, _ => obtain ⟨b, c, hu⟩ := len_own hrow.1; rw [hu]; exact key rfl
    | .recs _ _ _, _ => obtain ⟨b, c, hu⟩ := len_own hrow.1; rw [hu]; exact key rfl
  | ptr k o =>
    obtain ⟨r, hr⟩ := isk k ho
    obtain ⟨_, b, _, rfl⟩ := hx.2 r hr
    exact key rfl
  | sub k i =>
    obtain ⟨r, hr⟩ := isk k ho
    obtain ⟨hk2, hc⟩ := hx.2 r hr
    have hrow := hh.row k r hr
    match r, hk2 with
    | .rows _ _ true _, _ =>
      obtain ⟨l, _, ho⟩ := F2.at' hrow.2 hc
      obtain ⟨b, c, hu⟩ := len_own ho
      rw [hu]; exact key rfl
  | subp k i j =>
    obtain ⟨r, hr⟩ := isk k ho
    obtain ⟨_, b, n, c, _, _, rfl⟩ := hx.2 r hr
    exact key rfl

theorem setL_len {α : Type} : ∀ (as l : List α) (o : Nat), (setL l o as).length = l.length
  | [], _, _ => rfl
  | a :: r, l, o => by show (setL (l.set o a) (o + 1) r).length = _; rw [setL_len r, List.length_set]
theorem fold_setL : ∀ (cs l : List Value) (o n : Nat), (cs.zipIdx n).foldl (fun b (p : Value × Nat) => b.setIfInBounds (o + p.2) p.1) l.toArray = (setL l (o + n) cs).toArray
  | [], l, o, n => rfl
  | c :: cs, l, o, n => by
    simp only [List.zipIdx_cons, List.foldl_cons]
    have e : l.toArray.setIfInBounds (o + n) c = (l.set (o + n) c).toArray := by simp
    rw [e, fold_setL cs (l.set (o + n) c) o (n + 1)]
    rfl
theorem VReps.setL {bad : Nat → Prop} {hp : List (Nat × ARow)} {nx : Nat} : ∀ {as : List AVal} {vs : List Value} {l : List AVal} {cs : List Value} (o : Nat), VReps w bad hp nx η as vs → VReps w bad hp nx η l cs → VReps w bad hp nx η (Go.Aw.setL l o as) (Go.Aw.setL cs o vs)
  | [], [], _, _, _, _, h => h
  | a :: as, v :: vs, l, cs, o, h, hl => VReps.setL (as := as) (vs := vs) (o + 1) h.2 (hl.set o h.1)
  | [], _ :: _, _, _, _, h, _ => h.elim
  | _ :: _, [], _, _, _, h, _ => h.elim
theorem put1_sound {B : Nat} {hp : List (Nat × ARow)} {nx : Nat} (hh : HRep w B ob hp nx η) {l l' : List AVal} {cs : List Value} {o n : Nat} {x : AVal} {v : Value} (hl : VReps w (badOf ob hp η) hp nx η l cs)
    (hx : VRep w (badOf ob hp η) hp nx η x v) (h : put1 hp l o n x = some l') : ∃ cs' : List Value, v.cells.size = n ∧ o + n ≤ cs.length ∧ v.cells.zipIdx.foldl (fun b (p : Value × Nat) => b.setIfInBounds (o + p.2) p.1) cs.toArray = cs'.toArray ∧ VReps w (badOf ob hp η) hp nx η l' cs' := by
  have hlen := VReps.length hl
  unfold put1 at h
  split at h
  case h_1 as =>
    split at h
    case h_2 => cases h
    case h_1 hn =>
      split at h
      case h_2 => cases h
      case h_1 ho =>
        simp only [Option.some.injEq] at h
        subst h
        obtain ⟨us, rfl, hr⟩ := hx
        have hn := Nat.eq_of_beq_eq_true hn
        have ho := Nat.le_of_ble_eq_true ho
        have hul := VReps.length hr
        refine ⟨Go.Aw.setL cs o us, by simp [Value.cells]; omega, by omega, ?_, VReps.setL o hr hl⟩
        simp only [Value.cells]
        rw [← Array.foldl_toList, Array.toList_zipIdx]
        exact fold_setL us cs o 0
  case h_2 =>
    split at h
    case h_2 => cases h
    case h_1 hn =>
      split at h
      case h_2 => cases h
      case h_1 ho =>
        split at h
        case h_2 => cases h
        case h_1 hlt =>
          simp only [Option.some.injEq] at h
          subst h
          have hn := Nat.eq_of_beq_eq_true hn
          have hlt := Nat.le_of_ble_eq_true hlt
          have hc := (one_cell hh ho hx).2
          refine ⟨cs.set o v, by rw [hc]; simp; omega, by omega, ?_, hl.set o hx⟩
          rw [hc, ← Array.foldl_toList, Array.toList_zipIdx]
          exact fold_setL [v] cs o 0

theorem afill_sound {B : Nat} {hp : List (Nat × ARow)} {nx : Nat} (hh : HRep w B ob hp nx η) {ps : List (Nat × Nat)} : ∀ {r : List (Nat × AVal)} {l l' : List AVal} {cs : List Value} {vs : List (Nat × Value)}, VReps w (badOf ob hp η) hp nx η l cs →
    F2 (fun (p : Nat × AVal) (q : Nat × Value) => p.1 = q.1 ∧ VRep w (badOf ob hp η) hp nx η p.2 q.2) r vs → afill hp ps l r = some l' →
    ∃ cs' : List Value, Instr.fill (ps.toArray[·]?) cs.toArray vs = some cs'.toArray ∧ VReps w (badOf ob hp η) hp nx η l' cs'
  | [], l, l', cs, [], hl, _, h => by simp [afill] at h; subst h; exact ⟨cs, rfl, hl⟩
  | (i, x) :: r, l, l', cs, (j, v) :: vs, hl, hv, h => by
    obtain ⟨⟨hij, hxv⟩, hrest⟩ := hv
    simp only at hij hxv
    subst hij
    simp only [afill] at h
    split at h
    case h_2 => cases h
    case h_1 o n hn =>
      split at h
      case h_2 => cases h
      case h_1 l1 hp1 =>
        obtain ⟨cs1, g1, g2, g3, g4⟩ := put1_sound hh hl hxv hp1
        obtain ⟨cs', h1, h2⟩ := afill_sound hh g4 hrest h
        refine ⟨cs', ?_, h2⟩
        rw [nth_eq] at hn
        have hn' : ps.toArray[i]? = some (o, n) := by simpa using hn
        simp only [Instr.fill, hn']
        rw [if_neg (by simp [g1]; omega), g3]
        exact h1
  | [], _, _, _, _ :: _, _, h, _ => h.elim
  | _ :: _, _, _, _, [], _, h, _ => h.elim

theorem afillA_sound {B : Nat} {hp : List (Nat × ARow)} {nx : Nat} (hh : HRep w B ob hp nx η) {sz : Nat} : ∀ {r : List (Nat × AVal)} {l l' : List AVal} {cs : List Value} {vs : List (Nat × Value)}, VReps w (badOf ob hp η) hp nx η l cs →
    F2 (fun (p : Nat × AVal) (q : Nat × Value) => p.1 = q.1 ∧ VRep w (badOf ob hp η) hp nx η p.2 q.2) r vs → afillA hp sz l r = some l' →
    ∃ cs' : List Value, Instr.fill (fun i => some (i * sz, sz)) cs.toArray vs = some cs'.toArray ∧ VReps w (badOf ob hp η) hp nx η l' cs'
  | [], l, l', cs, [], hl, _, h => by simp [afillA] at h; subst h; exact ⟨cs, rfl, hl⟩
  | (i, x) :: r, l, l', cs, (j, v) :: vs, hl, hv, h => by
    obtain ⟨⟨hij, hxv⟩, hrest⟩ := hv
    simp only at hij hxv
    subst hij
    simp only [afillA] at h
    split at h
    case h_2 => cases h
    case h_1 l1 hp1 =>
      obtain ⟨cs1, g1, g2, g3, g4⟩ := put1_sound hh hl hxv hp1
      obtain ⟨cs', h1, h2⟩ := afillA_sound hh g4 hrest h
      refine ⟨cs', ?_, h2⟩
      simp only [Instr.fill]
      rw [if_neg (by simp [g1]; omega), g3]
      exact h1
  | [], _, _, _, _ :: _, _, h, _ => h.elim
  | _ :: _, _, _, _, [], _, h, _ => h.elim

theorem aindexV_sound (hΓ : TysOk P Γ) {t : Nat} {x y : AVal} {u v : Value} (hx : VR w ob st η x u) (hy : VR w ob st η y v) {K : AVal → Prop} (hk : aindexV Γ t x y K) :
    ∃ z q, K q ∧ VR w ob st η q z ∧ QOk P w (Instr.index t u v) z := by
  unfold aindexV at hk
  split at hk
  case h_2 => exact hk.elim
  case h_1 len e s1 s2 s3 hti =>
    have ht := (hΓ.at hti).desc
    simp only [TD.is] at ht
    split at hk
    case h_2 => exact hk.elim
    case h_1 ti hei =>
      split at hk
      case h_2 => exact hk.elim
      case h_1 l =>
        split at hk
        case h_2 => exact hk.elim
        case h_1 kk n =>
          obtain ⟨i, rfl, hi, hk⟩ := hk
          obtain ⟨cs, rfl, hr⟩ := hx
          obtain ⟨rfl, _⟩ := hy
          obtain ⟨z, q, hq, hv, hrun⟩ := run_part (hΓ.at hei) hr hk
          refine ⟨z, q, hq, hv, fun w' _ => ?_⟩
          have h1 : (0 : Int) ≤ i ∧ (i : Int) < len := ⟨by omega, by omega⟩
          simp [Instr.index, asIntOf, run_underlying ht, h1, run_size (hΓ.at hei), hrun w']
          exact fun hc => absurd hc (by omega)

theorem parts_sound (h : SRep w0 ob st a w η) : ∀ {l : List (Nat × Operand)} {y : List (Nat × AVal)}, parts st l = some y →
    F2 (fun (p : Nat × AVal) (q : Nat × Value) => p.1 = q.1 ∧ VR w ob st η p.2 q.2) y (l.map fun (i, x) => (i, a.eval x))
  | [], y, he => by simp only [parts, Option.some.injEq] at he; subst he; trivial
  | (i, x) :: r, y, he => by
    simp only [parts] at he
    cases hx : ev st x with
    | none => rw [hx] at he; simp at he
    | some z =>
      rw [hx] at he
      cases hr : parts st r with
      | none => rw [hr] at he; simp at he
      | some l =>
        rw [hr] at he
        simp only [Option.some.injEq] at he
        subst he
        exact ⟨⟨rfl, ev_sound h hx⟩, parts_sound h hr⟩

theorem abuild_sound (hΓ : TysOk P Γ) (h : SRep w0 ob st a w η) {t : Nat} {ps : Array (Nat × Operand)} {l : List (Nat × AVal)} (hp : parts st ps.toList = some l) {K : AVal → Prop} (hk : abuild Γ st t l K) :
    ∃ z q, K q ∧ VR w ob st η q z ∧ QOk P w (Instr.build t (ps.map fun (i, x) => (i, a.eval x))) z := by
  have zs : ∀ (zz : List Value), zz.all Value.oneCell' = true → VRs w ob st η (zz.map AVal.c) zz := by
    intro zz
    induction zz with
    | nil => intro _; trivial
    | cons y r ih =>
      intro hz
      simp only [List.all_cons, Bool.and_eq_true] at hz
      exact ⟨⟨rfl, hz.1⟩, ih hz.2⟩
  unfold abuild at hk
  split at hk
  case h_3 => exact hk.elim
  case h_2 len e s1 s2 zz hti =>
    split at hk
    case h_2 => exact hk.elim
    case h_1 d2 b2 z2 hte =>
      split at hk
      case h_2 => exact hk.elim
      case h_1 hz =>
        split at hk
        case h_2 => exact hk.elim
        case h_1 l' hl' =>
          have ht := hΓ.at hti
          have hF : P.underlying t = some (.array len e) := ht.desc
          obtain ⟨i, z, h1, h2, h3, h4, h5⟩ := ht.info
          obtain ⟨i2, _, g1, g2, _⟩ := (hΓ.at hte).info
          obtain ⟨cs', hf, hr⟩ := afillA_sound h.heap (zs zz hz) (parts_sound h hp) hl'
          refine ⟨.agg cs'.toArray, _, hk, ⟨cs', rfl, hr⟩, fun w' _ => ?_⟩
          refine run_build w' t _ _ ?_
          simp only [Program.built, h1, hF, h4, g1, g2, h5]
          simpa using hf
  case h_1 fs s1 s2 zz hti =>
    split at hk
    case h_2 => exact hk.elim
    case h_1 pl hpl =>
      split at hk
      case h_2 => exact hk.elim
      case h_1 hz =>
        split at hk
        case h_2 => exact hk.elim
        case h_1 l' hl' =>
          have ht := hΓ.at hti
          obtain ⟨F, hF, hm⟩ := ht.desc
          obtain ⟨i, z, h1, h2, h3, h4, h5⟩ := ht.info
          have hzr : VRs w ob st η (zz.map AVal.c) zz := by
            have : ∀ (zz : List Value), zz.all Value.oneCell' = true → VRs w ob st η (zz.map AVal.c) zz := by
              intro zz
              induction zz with
              | nil => intro _; trivial
              | cons y r ih =>
                intro hz
                simp only [List.all_cons, Bool.and_eq_true] at hz
                exact ⟨⟨rfl, hz.1⟩, ih hz.2⟩
            exact this zz hz
          obtain ⟨cs', hf, hr⟩ := afill_sound h.heap hzr (parts_sound h hp) hl'
          refine ⟨.agg cs'.toArray, _, hk, ⟨cs', rfl, hr⟩, fun w' _ => ?_⟩
          refine run_build w' t _ _ ?_
          rw [← hm] at hpl
          have hpl' := places_eq hΓ hpl
          simp only [Program.built, h1, hF, h4, hpl', h5]
          simpa using hf
end
end Go.Aw
/- All quiet operations together, in one statement. -/
namespace Go.Aw
open Go.RowKit

section
variable {P : Program} {Γ : Tys} {w0 : Base} {w : World} {ob : Nat → Prop} {st : St} {a : Act} {η : Env}

theorem run_bound {k : IntKind} {i y : Nat} {code : BoundsCode} (hi : i ≤ y) (w' : World) : (Instr.sliceBound (.int k (i : Int)) y code).run P w' = .ok i w' := by
  have h : (0 : Int) ≤ i ∧ (i : Int) ≤ y := ⟨by omega, by omega⟩
  simp [Instr.sliceBound, asIntOf, h]

theorem run_slice {t e : Nat} {te : TI} (ht : P.underlying t = some (.slice e)) (he : TyOk P e te) (hs : te.size = 1) {ba : Option Addr} {n c i j : Nat} {lo hi : Option Value}
    (hlo : lo = some (.int .i64 i) ∨ (lo = none ∧ i = 0) ∨ ∃ k, lo = some (.int k i)) (hhi : (hi = none ∧ j = n) ∨ ∃ k, hi = some (.int k j)) (hij : i ≤ j) (hjn : j ≤ n) (hnc : n ≤ c) (w' : World) :
    (Instr.sliceAt t (.slice ba n c) lo hi none).run P w' = .ok (.slice (if c = i then ba else ba.map (·.add i)) (j - i) (c - i)) w' := by
  have hlo' : (lo = none ∧ i = 0) ∨ ∃ k, lo = some (.int k i) := by
    rcases hlo with h | h | h
    · exact .inr ⟨_, h⟩
    · exact .inl h
    · exact .inr h
  have hsz := run_size he
  rw [hs] at hsz
  simp only [Instr.sliceAt, Sem.run_bind, run_underlying ht, Result.andThen_ok, Instr.slice, Instr.sliceBounds]
  rcases hlo' with ⟨rfl, rfl⟩ | ⟨k, rfl⟩ <;> rcases hhi with ⟨rfl, rfl⟩ | ⟨k', rfl⟩
  · simp [hsz]
  · simp [hsz, run_bound (P := P) (show j ≤ c by omega)]
  · simp [hsz, run_bound (P := P) hij]
  · simp [hsz, run_bound (P := P) (show j ≤ c by omega), run_bound (P := P) hij]

theorem SInts.slice {bad : Nat → Prop} {k : IntKind} {l : List Int} {ba : Option Addr} {n c i j : Nat} (h : SInts w bad k l (.slice ba n c)) (hij : i ≤ j) (hjn : j ≤ l.length) :
    SInts w bad k ((l.take j).drop i) (.slice (if c = i then ba else ba.map (·.add i)) (j - i) (c - i)) := by
  obtain ⟨a', c', hv, h1, h2, h3⟩ := h
  simp only [Value.slice.injEq] at hv
  obtain ⟨rfl, rfl, rfl⟩ := hv
  have hl : ((l.take j).drop i).length = j - i := by simp; omega
  refine ⟨_, c - i, by rw [hl], by rw [hl]; omega, by omega, fun m x hm => ?_⟩
  rw [List.getElem?_drop, List.getElem?_take] at hm
  split at hm
  case isFalse => cases hm
  case isTrue hlt =>
    obtain ⟨b, o, rfl, hb, hc⟩ := h3 (i + m) x hm
    refine ⟨b, o + i, ?_, hb, by rw [Nat.add_assoc]; exact hc⟩
    rw [if_neg (by omega)]
    simp [Addr.add_lit]

theorem aslice_sound (hΓ : TysOk P Γ) {t : Nat} {x : AVal} {u : Value} (hx : VR w ob st η x u) {lo hi : Option AVal} {vlo vhi : Option Value}
    (hlo : (lo = none ∧ vlo = none) ∨ ∃ y v, lo = some y ∧ vlo = some v ∧ VR w ob st η y v) (hhi : (hi = none ∧ vhi = none) ∨ ∃ y v, hi = some y ∧ vhi = some v ∧ VR w ob st η y v)
    {K : AVal → Prop} (hk : aslice Γ t x lo hi K) : ∃ z q, K q ∧ VR w ob st η q z ∧ QOk P w (Instr.sliceAt t u vlo vhi none) z := by
  unfold aslice at hk
  split at hk
  case h_2 => exact hk.elim
  case h_1 e s1 s2 s3 hti =>
    have ht := (hΓ.at hti).desc
    simp only [TD.is] at ht
    split at hk
    case h_2 => exact hk.elim
    case h_1 d1 d2 d3 hei =>
      have hte := hΓ.at hei
      split at hk
      case h_2 => exact hk.elim
      case h_1 k l =>
        have hx' := hx
        obtain ⟨ba, c, hu, h1, h2, h3⟩ := hx
        subst hu
        split at hk
        case h_1 kk n =>
          obtain ⟨i, hn, hi', hk⟩ := hk
          rcases hlo with ⟨h, _⟩ | ⟨y, v, h, hv, hy⟩
          · cases h
          simp only [Option.some.injEq] at h
          subst h hv
          obtain ⟨rfl, _⟩ := hy
          rcases hhi with ⟨_, rfl⟩ | ⟨y, v, h, hv, hy⟩
          · have hs := SInts.slice (i := i) (j := l.length) hx' hi' (Nat.le_refl _)
            rw [List.take_length] at hs
            exact ⟨_, _, hk, hs, fun w' _ => by rw [hn]; exact run_slice ht hte rfl (.inr (.inr ⟨_, rfl⟩)) (.inl ⟨rfl, rfl⟩) hi' (Nat.le_refl _) h1 w'⟩
          · cases h
        case h_2 kk n =>
          obtain ⟨j, hn, hj, hk⟩ := hk
          rcases hhi with ⟨h, _⟩ | ⟨y, v, h, hv, hy⟩
          · cases h
          simp only [Option.some.injEq] at h
          subst h hv
          obtain ⟨rfl, _⟩ := hy
          rcases hlo with ⟨_, rfl⟩ | ⟨y, v, h, hv, hy⟩
          · have hs := SInts.slice (i := 0) (j := j) hx' (Nat.zero_le _) hj
            rw [List.drop_zero] at hs
            exact ⟨_, _, hk, hs, fun w' _ => by rw [hn]; exact run_slice ht hte rfl (.inr (.inl ⟨rfl, rfl⟩)) (.inr ⟨_, rfl⟩) (Nat.zero_le _) hj h1 w'⟩
          · cases h
        case h_3 ka n kb m =>
          obtain ⟨i, j, hn, hm, hij, hj, hk⟩ := hk
          rcases hlo with ⟨h, _⟩ | ⟨y, v, h, hv, hy⟩
          · cases h
          simp only [Option.some.injEq] at h
          subst h hv
          obtain ⟨rfl, _⟩ := hy
          rcases hhi with ⟨h, _⟩ | ⟨y, v, h, hv, hy⟩
          · cases h
          simp only [Option.some.injEq] at h
          subst h hv
          obtain ⟨rfl, _⟩ := hy
          exact ⟨_, _, hk, SInts.slice hx' hij hj, fun w' _ => by rw [hn, hm]; exact run_slice ht hte rfl (.inr (.inr ⟨_, rfl⟩)) (.inr ⟨_, rfl⟩) hij hj h1 w'⟩
        case h_4 => exact hk.elim

theorem amm_sound {mx : Bool} {k : IntKind} : ∀ {r : List AVal} {vs : List Value} {n m : Int}, VRs w ob st η r vs → amm mx n r = some m → ∀ w' : World,
    (vs.foldlM (if mx then Builtin.max2 else Builtin.min2) (.int k n)).run P w' = .ok (.int k m) w'
  | [], [], n, m, _, h, w' => by simp [amm] at h; subst h; simp
  | x :: r, v :: vs, n, m, hr, h, w' => by
    obtain ⟨hx, hr⟩ := hr
    unfold amm at h
    split at h
    case h_1 heq => cases heq
    case h_2 kk b r' heq =>
      simp only [List.cons.injEq] at heq
      obtain ⟨rfl, rfl⟩ := heq
      obtain ⟨rfl, _⟩ := hx
      have ih := amm_sound (mx := mx) (k := k) hr h w'
      cases mx
      · simp only [Bool.false_eq_true, if_false] at ih ⊢
        simp only [List.foldlM_cons, Builtin.min2, Sem.run_bind, Sem.run_pure, Result.andThen_ok]
        exact ih
      · simp only [if_true] at ih ⊢
        simp only [List.foldlM_cons, Builtin.max2, Sem.run_bind, Sem.run_pure, Result.andThen_ok]
        exact ih
    case h_3 => cases h
  | [], _ :: _, _, _, h, _, _ => h.elim
  | _ :: _, [], _, _, h, _, _ => h.elim

theorem ammx_sound {mx : Bool} {l : List AVal} {vs : List Value} (hl : VRs w ob st η l vs) {K : AVal → Prop} (hk : ammx mx l K) :
    ∃ z q, K q ∧ VR w ob st η q z ∧ ∀ w' : World, ∃ x rest, vs = x :: rest ∧ (rest.foldlM (if mx then Builtin.max2 else Builtin.min2) x).run P w' = .ok z w' := by
  unfold ammx at hk
  split at hk
  case h_2 => exact hk.elim
  case h_1 k n r =>
    split at hk
    case h_2 => exact hk.elim
    case h_1 m hm =>
      match vs, hl with
      | v :: vs, ⟨⟨hv, _⟩, hr⟩ =>
        subst hv
        exact ⟨_, _, hk, ⟨rfl, rfl⟩, fun w' => ⟨_, _, rfl, amm_sound hr hm w'⟩⟩

theorem optEv_sound (h : SRep w0 ob st a w η) {o : Option Operand} {y : Option AVal} (he : optEv st o = some y) :
    (y = none ∧ o.map a.eval = none) ∨ ∃ z v, y = some z ∧ o.map a.eval = some v ∧ VR w ob st η z v := by
  cases o with
  | none => simp only [optEv, Option.some.injEq] at he; subst he; exact .inl ⟨rfl, rfl⟩
  | some x =>
    simp only [optEv] at he
    cases hx : ev st x with
    | none => rw [hx] at he; cases he
    | some z => rw [hx] at he; simp only [Option.some.injEq] at he; subst he; exact .inr ⟨z, _, rfl, rfl, ev_sound h hx⟩

theorem abin_int {op : BinOp} {p q : AVal} {K : AVal → Prop} (hk : abin op p q K) : ∃ k n, p = .c (.int k n) := by
  unfold abin at hk
  split at hk
  case h_1 k n k' m => exact ⟨k, n, rfl⟩
  case h_2 => exact hk.elim

theorem run_eql_nil {t e : Nat} (h : P.underlying t = some (.slice e)) {a : Option Addr} {n c : Nat} (w : World) :
    (binOp .eql t (.slice a n c) (.slice none 0 0)).run P w = .ok (.bool a.isNone) w := by
  have h1 : ∀ d, (Op.equalIn (d + 1) t (.slice a n c) (.slice none 0 0)).run P w = .ok a.isNone w := fun d => by
    cases a <;> simp [Op.equalIn, run_underlying h]
  simp only [binOp]
  simp [Op.equal, Op.maxDepth, h1 9999]

theorem abin2_sound (hΓ : TysOk P Γ) {t : Nat} {op : BinOp} {p q : AVal} {u v : Value} (hx : VR w ob st η p u) (hy : VR w ob st η q v) {K : AVal → Prop} (hk : abin2 Γ t op p q K) (x y : Operand) :
    ∃ z r, K r ∧ VR w ob st η r z ∧ QOk P w (binOp op t u v) z ∧ eqGuard op t x y u v = Pure.pure () := by
  unfold abin2 at hk
  split at hk
  case h_1 a b =>
    obtain ⟨rfl, _⟩ := hx
    obtain ⟨rfl, _⟩ := hy
    split at hk
    case h_2 => exact hk.elim
    case h_1 s1 s2 s3 hs =>
      have ht : P.underlying t = some .bool := (hΓ.at hs).desc
      split at hk
      case h_1 => exact ⟨_, _, hk, ⟨rfl, rfl⟩, fun w' _ => by simp [binOp, run_equal_bool w' t a b ht], by rfl⟩
      case h_2 => exact ⟨_, _, hk, ⟨rfl, rfl⟩, fun w' _ => by simp [binOp, run_equal_bool w' t a b ht, bne], by rfl⟩
      case h_3 => exact hk.elim
  case h_2 kk l =>
    obtain ⟨ba, c, rfl, _, _, hc⟩ := hx
    obtain ⟨rfl, _⟩ := hy
    split at hk
    case h_2 => exact hk.elim
    case h_1 e s1 s2 s3 hs =>
      have ht : P.underlying t = some (.slice e) := (hΓ.at hs).desc
      split at hk
      case h_2 => exact hk.elim
      case h_1 =>
        refine ⟨.bool ba.isNone, _, hk ba.isNone (fun hb => ?_), ⟨rfl, rfl⟩, fun w' _ => run_eql_nil ht w', rfl⟩
        cases l with
        | nil => rfl
        | cons x r =>
          obtain ⟨b, o, h, _⟩ := hc 0 x rfl
          rw [h] at hb; cases hb
  case h_3 =>
    obtain ⟨z, r, h1, h2, h3⟩ := abin_sound (P := P) (t := t) hx hy hk
    refine ⟨z, r, h1, h2, h3, ?_⟩
    obtain ⟨k, n, rfl⟩ := abin_int hk
    rw [hx.1]; exact eqGuard_flat

/-- the value that a quiet operation yields, in every world that goes on from here -/
def Yields1 (P : Program) (w : World) (a : Act) (o : Oper) (v : Value) : Prop := ∀ w', Below w.heap.size w w' → (execOp a.eval o).run P w' = .ok (.value v) w'

theorem Yields1.of {o : Oper} {v : Value} {s : Sem Value} (hs : QOk P w s v) (he : execOp a.eval o = (do Pure.pure (Next.value (← s)))) : Yields1 P w a o v := fun w' hb => by
  rw [he]; simp [hs w' hb]

theorem aq_sound (hΓ : TysOk P Γ) (h : SRep w0 ob st a w η) {o : Oper} {K : AVal → Prop} (hk : aq Γ st o K) : ∃ v x, K x ∧ VR w ob st η x v ∧ Yields1 P w a o v := by
  unfold aq at hk
  obtain ⟨dst, op, type, pos, after, guard⟩ := o
  simp only at hk
  split at hk
  case h_1 x =>
    cases hx : ev st x with
    | none => rw [hx] at hk; exact hk.elim
    | some y => rw [hx] at hk; exact ⟨_, y, hk, ev_sound h hx, fun _ _ => rfl⟩
  case h_2 x =>
    cases hx : ev st x with
    | none => rw [hx] at hk; exact hk.elim
    | some y => rw [hx] at hk; exact ⟨_, y, hk, ev_sound h hx, fun _ _ => rfl⟩
  case h_3 t x =>
    cases hx : ev st x with
    | none => rw [hx] at hk; exact hk.elim
    | some y =>
      rw [hx] at hk
      obtain ⟨v, q, h1, h2, h3⟩ := aload_sound hΓ h (ev_sound h hx) hk
      exact ⟨v, q, h1, h2, .of h3 rfl⟩
  case h_4 x =>
    cases hx : ev st x with
    | none => rw [hx] at hk; exact hk.elim
    | some y =>
      rw [hx] at hk
      have hv := ev_sound h hx
      split at hk
      case h_1 k o heq =>
        simp only [Option.some.injEq] at heq
        subst heq
        cases hik : isKey st.hp k with
        | false => rw [hik] at hk; exact hk.elim
        | true =>
          rw [hik] at hk
          refine ⟨_, _, hk, hv, fun w' _ => ?_⟩
          unfold isKey at hik
          cases hr : look st.hp k with
          | none => rw [hr] at hik; cases hik
          | some r =>
            obtain ⟨_, b, _, he⟩ := hv.2 r hr
            simp [execOp, he]
      case h_2 f l heq =>
        simp only [Option.some.injEq] at heq
        subst heq
        obtain ⟨cs, he, hr⟩ := hv
        exact ⟨_, _, hk, ⟨cs, rfl, hr⟩, fun w' _ => by simp [execOp, he]⟩
      case h_3 l o heq =>
        simp only [Option.some.injEq] at heq
        subst heq
        obtain ⟨b, cs, he, hr⟩ := hv
        exact ⟨_, _, hk, ⟨b, cs, rfl, hr⟩, fun w' _ => by simp [execOp, he]⟩
      case h_4 f l n heq =>
        simp only [Option.some.injEq] at heq
        subst heq
        have hv' := hv
        obtain ⟨b, cs, he, hr⟩ := hv
        exact ⟨_, _, hk, hv', fun w' _ => by simp [execOp, he]⟩
      case h_5 => exact hk.elim
  case h_5 op t x y ty =>
    cases hx : ev st x with
    | none => rw [hx] at hk; exact hk.elim
    | some p =>
      rw [hx] at hk
      cases hy : ev st y with
      | none => rw [hy] at hk; exact hk.elim
      | some q =>
        rw [hy] at hk
        simp only at hk
        obtain ⟨v, z, h1, h2, h3, hg⟩ := abin2_sound hΓ (ev_sound h hx) (ev_sound h hy) hk x y
        refine ⟨v, z, h1, h2, fun w' hb => ?_⟩
        simp [execOp, hg, h3 w' hb]
  case h_6 op t x =>
    cases hx : ev st x with
    | none => rw [hx] at hk; exact hk.elim
    | some p =>
      rw [hx] at hk
      obtain ⟨v, z, h1, h2, h3⟩ := aun_sound (P := P) (ev_sound h hx) hk
      exact ⟨v, z, h1, h2, .of h3 rfl⟩
  case h_7 s d x =>
    split at hk
    case h_2 => exact hk.elim
    case h_1 ks s1 s2 s3 hs =>
      split at hk
      case h_2 => exact hk.elim
      case h_1 kd d1 d2 d3 hd =>
        split at hk
        case h_2 => exact hk.elim
        case h_1 k0 n hx =>
          obtain ⟨he, _⟩ := ev_sound h hx
          have hs' := (hΓ.at hs).desc
          have hd' := (hΓ.at hd).desc
          simp only [TD.is] at hs' hd'
          exact ⟨_, _, hk, ⟨rfl, rfl⟩, fun w' _ => by simp [execOp, he, convert, run_underlying hs', run_underlying hd', Conv.intToInt]⟩
  case h_8 s x f =>
    cases hx : ev st x with
    | none => rw [hx] at hk; exact hk.elim
    | some p =>
      rw [hx] at hk
      obtain ⟨v, z, h1, h2, h3⟩ := afaddr_sound hΓ h (ev_sound h hx) hk
      exact ⟨v, z, h1, h2, .of (fun w' _ => h3 w') rfl⟩
  case h_9 s x f =>
    cases hx : ev st x with
    | none => rw [hx] at hk; exact hk.elim
    | some p =>
      rw [hx] at hk
      obtain ⟨v, z, h1, h2, h3⟩ := afield_sound hΓ (ev_sound h hx) hk
      exact ⟨v, z, h1, h2, .of h3 rfl⟩
  case h_10 t x ix =>
    cases hx : ev st x with
    | none => rw [hx] at hk; exact hk.elim
    | some p =>
      rw [hx] at hk
      cases hy : ev st ix with
      | none => rw [hy] at hk; exact hk.elim
      | some q =>
        rw [hy] at hk
        obtain ⟨v, z, h1, h2, h3⟩ := aidx_sound hΓ h (ev_sound h hx) (ev_sound h hy) hk
        exact ⟨v, z, h1, h2, .of (fun w' _ => h3 w') rfl⟩
  case h_11 x i =>
    split at hk
    case h_2 => exact hk.elim
    case h_1 l hx =>
      obtain ⟨cs, he, hr⟩ := ev_sound h hx
      cases hn : nth l i with
      | none => rw [hn] at hk; exact hk.elim
      | some q =>
        rw [hn] at hk
        obtain ⟨v, hv, hq⟩ := hr.nth hn
        exact ⟨v, q, hk, hq, fun w' _ => by simp [execOp, he, Instr.extract, hv]⟩
  case h_12 t x lo hi =>
    cases hx : ev st x with
    | none => rw [hx] at hk; exact hk.elim
    | some p =>
      rw [hx] at hk
      cases hlo : optEv st lo with
      | none => rw [hlo] at hk; exact hk.elim
      | some l =>
        rw [hlo] at hk
        cases hhi : optEv st hi with
        | none => rw [hhi] at hk; exact hk.elim
        | some m =>
          rw [hhi] at hk
          obtain ⟨v, z, h1, h2, h3⟩ := aslice_sound hΓ (ev_sound h hx) (optEv_sound h hlo) (optEv_sound h hhi) hk
          exact ⟨v, z, h1, h2, .of h3 rfl⟩
  case h_13 t ps =>
    cases hp : parts st ps.toList with
    | none => rw [hp] at hk; exact hk.elim
    | some l =>
      rw [hp] at hk
      obtain ⟨v, z, h1, h2, h3⟩ := abuild_sound hΓ h hp hk
      exact ⟨v, z, h1, h2, .of h3 rfl⟩
  case h_14 f first caps =>
    split at hk
    case h_2 => exact hk.elim
    case h_1 hfirst =>
      cases hc : evs st caps.toList with
      | none => rw [hc] at hk; exact hk.elim
      | some l =>
        rw [hc] at hk
        have hr := evs_sound h hc
        have hf : first = #[] := by simpa using hfirst
        refine ⟨.func (.func f) #[] (caps.toList.map a.eval).toArray, _, hk, ⟨_, rfl, hr⟩, fun w' _ => ?_⟩
        subst hf
        obtain ⟨cl⟩ := caps
        simp [execOp, Instr.makeFunc]
  case h_15 args tys =>
    split at hk
    case h_2 => exact hk.elim
    case h_1 p hp =>
      split at hk
      case h_2 => exact hk.elim
      case h_1 t htys =>
        have hargs := evs_sound h hp
        obtain ⟨al⟩ := args
        obtain ⟨tl⟩ := tys
        simp only at htys hargs hp
        subst htys
        match al, hargs with
        | [x], ⟨hx, _⟩ =>
          split at hk
          case h_3 => exact hk.elim
          case h_1 e s1 s2 s3 hti =>
            have ht := (hΓ.at hti).desc
            simp only [TD.is] at ht
            obtain ⟨v, z, h1, h2, h3⟩ := alen_sound (ty := type) h hx hk ht
            exact ⟨v, z, h1, h2, fun w' hb => by simp [execOp, resolve, invoke, builtin, h3 w' hb]⟩
          case h_2 s1 s2 s3 hti =>
            have ht := (hΓ.at hti).desc
            simp only [TD.is] at ht
            split at hk
            case h_2 => exact hk.elim
            case h_1 s =>
              obtain ⟨he, _⟩ := hx
              exact ⟨_, _, hk, ⟨rfl, rfl⟩, fun w' _ => by simp [execOp, resolve, invoke, builtin, he, Builtin.len_, run_underlying ht, goInt]⟩
  case h_16 args tys =>
    cases hp : evs st args.toList with
    | none => rw [hp] at hk; exact hk.elim
    | some l =>
      rw [hp] at hk
      have hargs := evs_sound h hp
      obtain ⟨v, z, h1, h2, h3⟩ := ammx_sound (P := P) hargs hk
      refine ⟨v, z, h1, h2, fun w' _ => ?_⟩
      obtain ⟨x, rest, e1, e2⟩ := h3 w'
      simp only [if_true] at e2
      simp [execOp, resolve, invoke, builtin, Builtin.max_, e1, e2]
  case h_17 args tys =>
    cases hp : evs st args.toList with
    | none => rw [hp] at hk; exact hk.elim
    | some l =>
      rw [hp] at hk
      have hargs := evs_sound h hp
      obtain ⟨v, z, h1, h2, h3⟩ := ammx_sound (P := P) hargs hk
      refine ⟨v, z, h1, h2, fun w' _ => ?_⟩
      obtain ⟨x, rest, e1, e2⟩ := h3 w'
      simp only [Bool.false_eq_true, if_false] at e2
      simp [execOp, resolve, invoke, builtin, Builtin.min_, e1, e2]
  case h_18 t x hh m =>
    split at hk
    case h_2 => exact hk.elim
    case h_1 l hx =>
      split at hk
      case h_2 => exact hk.elim
      case h_1 e s1 s2 s3 hti =>
        have ht := (hΓ.at hti).desc
        simp only [TD.is] at ht
        split at hk
        case h_2 => exact hk.elim
        case h_1 d1 d2 d3 hei =>
          have hte := hΓ.at hei
          split at hk
          case h_2 => exact hk.elim
          case h_1 hh0 =>
            split at hk
            case h_2 => exact hk.elim
            case h_1 hm0 =>
              obtain ⟨ba, c, hu, h1, h2, h3⟩ := ev_sound h hx
              obtain ⟨e1, _⟩ := ev_sound h hh0
              obtain ⟨e2, _⟩ := ev_sound h hm0
              refine ⟨.slice ba 0 0, .nul, hk, ⟨ba, rfl⟩, fun w' _ => ?_⟩
              have hsz := run_size hte
              simp [execOp, hu, e1, e2, Instr.sliceAt, run_underlying ht, Instr.slice, Instr.sliceBounds, Instr.sliceBound, asIntOf, hsz]
  case h_19 t x ix =>
    cases hx : ev st x with
    | none => rw [hx] at hk; exact hk.elim
    | some p =>
      rw [hx] at hk
      cases hy : ev st ix with
      | none => rw [hy] at hk; exact hk.elim
      | some q =>
        rw [hy] at hk
        obtain ⟨v, z, h1, h2, h3⟩ := aindexV_sound hΓ (ev_sound h hx) (ev_sound h hy) hk
        exact ⟨v, z, h1, h2, .of h3 rfl⟩
  case h_20 => exact hk.elim
end
end Go.Aw
/- Operations that make memory. -/
namespace Go.Aw
open Go.RowKit

def Env.upd (η : Env) (k : Nat) (v : Value) (cs : List Value) : Env := ⟨fun j => if j = k then v else η.val j, fun j => if j = k then cs else η.cel j⟩

theorem upd_val (η : Env) (k : Nat) (v : Value) (cs : List Value) : (η.upd k v cs).val k = v := by simp [Env.upd]
theorem upd_cel (η : Env) (k : Nat) (v : Value) (cs : List Value) : (η.upd k v cs).cel k = cs := by simp [Env.upd]
theorem upd_ne (η : Env) (k : Nat) (v : Value) (cs : List Value) (j : Nat) (h : j ≠ k) : (η.upd k v cs).val j = η.val j ∧ (η.upd k v cs).cel j = η.cel j := by simp [Env.upd, h]

section
variable {P : Program} {Γ : Tys} {w0 : Base} {w w' : World} {ob : Nat → Prop} {st : St} {a : Act} {η : Env}

/-- a row is made; rows that are gone from the state may have gone over into it -/
theorem SRep.newRow (h : SRep w0 ob st a w η) {hp1 : List (Nat × ARow)} (hsub : ∀ j r, look hp1 j = some r → look st.hp j = some r) {r : ARow} {v : Value} {cs : List Value} (hw : Below w.heap.size w w')
    (hnd : (bsOf (η.upd st.nx v cs) st.nx r).Nodup)
    (hfr : ∀ b, b ∈ bsOf (η.upd st.nx v cs) st.nx r → (∃ j r0, look st.hp j = some r0 ∧ b ∈ bsOf η j r0 ∧ look hp1 j = none) ∨ w.heap.size ≤ b)
    (hrow : Keeps w (badOf ob st.hp η) w' (badOf ob ((st.nx, r) :: hp1) (η.upd st.nx v cs)) →
      RowRep w' w0.B (badOf ob ((st.nx, r) :: hp1) (η.upd st.nx v cs)) ((st.nx, r) :: hp1) (st.nx + 1) (η.upd st.nx v cs) st.nx r) :
    SRep w0 ob { st with hp := (st.nx, r) :: hp1, nx := st.nx + 1 } a w' (η.upd st.nx v cs) := by
  have hl : ∀ j r1, j ≠ st.nx → look ((st.nx, r) :: hp1) j = some r1 → look st.hp j = some r1 := fun j r1 hj hr => by
    rw [look_cons, if_neg (Ne.symm hj)] at hr; exact hsub j r1 hr
  have hok : ∀ j, j < st.nx → OwnOk st.hp η ((st.nx, r) :: hp1) (η.upd st.nx v cs) j := fun j hj =>
    OwnOk.of (fun r' hr' => ⟨r', hl j r' (by omega) hr', rfl⟩) (upd_ne _ _ _ _ j (by omega)).1 (upd_ne _ _ _ _ j (by omega)).2
  have hsk : ∀ j, j < st.nx → SubOk st.hp η ((st.nx, r) :: hp1) (η.upd st.nx v cs) j := fun j hj =>
    SubOk.of (fun r' hr' => ⟨r', hl j r' (by omega) hr', rfl⟩) (upd_ne _ _ _ _ j (by omega)).2
  obtain ⟨hh, hk⟩ := HRep.step (k := st.nx) (hp' := (st.nx, r) :: hp1) (nx' := st.nx + 1) (η' := η.upd st.nx v cs) (w' := w') h.heap (fun _ => true) (fun _ => true) r (by omega) (by omega)
    (fun j r1 hj hr => ⟨r1, hl j r1 hj hr, (rowflt_true r1).symm⟩) (by rw [look_cons, if_pos rfl]) (fun j hj => upd_ne _ _ _ _ j hj)
    (fun b hb _ => hw.block b hb) (fun j hj _ => hok j hj) (fun j hj _ => hsk j hj) hnd
    (fun b hb => by
      rcases hfr b hb with ⟨j, r0, h1, h2, h3⟩ | h1
      · refine .inl ⟨j, r0, h1, h2, .inr ?_⟩
        have := h.heap.lt j r0 h1
        rw [look_cons, if_neg (by omega)]; exact h3
      · exact .inr h1) hrow
  have := h.heapStep (fun _ => true) (fun _ => true) (hw.mono h.wB) hh hk (by omega) (fun j hj _ => hok j hj) (fun j hj _ => hsk j hj)
  rwa [fltS_true] at this

theorem below_alloc (w : World) (o : Obj) : Below w.heap.size w (w.alloc o) := (Below.refl _ _).alloc (Nat.le_refl _) o

theorem own_new {w : World} {B e : Nat} {cs : List Value} (hB : B ≤ w.heap.size) (hm : cs.length ≤ maxLen) :
    (w.alloc (.cells cs.toArray e)).ownsRow B e 1 (.slice (some ⟨w.heap.size, 0, none⟩) cs.length cs.length) cs.length cs :=
  ⟨by simp, .inr ⟨w.heap.size, cs.length, cs.toArray, rfl, hB, Go.heap_alloc_new w _, Nat.le_refl _, hm, by simp, by simp⟩⟩

theorem heap_new (w : World) (o : Obj) : (w.alloc o).heap[w.heap.size]? = some o := Go.heap_alloc_new w o

theorem blk_new {B : Nat} {n c : Nat} : blk (.slice (some ⟨B, 0, none⟩) n c) = [B] := rfl

theorem wB (h : SRep w0 ob st a w η) : w0.B ≤ w.heap.size := h.wB

/-- a row of integers is made -/
theorem SRep.newInts (h : SRep w0 ob st a w η) {e : Nat} {k : IntKind} {l : List Int} (hm : l.length ≤ maxLen) :
    ∃ η', SRep w0 ob (st.new (.ints e k l)) a (w.alloc (.cells (l.map (Value.int k)).toArray e)) η' ∧
      VR (w.alloc (.cells (l.map (Value.int k)).toArray e)) ob (st.new (.ints e k l)) η' (.own st.nx) (.slice (some ⟨w.heap.size, 0, none⟩) l.length l.length) := by
  have hs := h.newRow (r := .ints e k l) (v := .slice (some ⟨w.heap.size, 0, none⟩) l.length l.length) (cs := l.map (Value.int k)) (w' := w.alloc (.cells (l.map (Value.int k)).toArray e)) (hp1 := st.hp)
    (fun _ _ h => h) (below_alloc _ _) (by simp [bsOf, upd_val, ARow.kind, blk]) (fun b hb => by simp [bsOf, upd_val, ARow.kind, blk] at hb; exact .inr (by omega))
    (fun _ => by
      refine ⟨?_, upd_cel _ _ _ _⟩
      rw [upd_val]
      have := own_new (e := e) (cs := l.map (Value.int k)) (wB h) (by simpa using hm)
      simp only [List.length_map] at this
      exact this)
  refine ⟨_, hs, by simp only [St.new]; omega, fun r hr => ?_⟩
  simp only [St.new, look_cons, if_true, Option.some.injEq] at hr
  subst hr
  exact ⟨by simp [ARow.kind], by rw [upd_val]⟩

/-- a variable's cells are made -/
theorem SRep.newCells (h : SRep w0 ob st a w η) {e : Nat} {l : List AVal} {cs : List Value} (hr : VRs w ob st η l cs) (hpos : 0 < l.length) :
    ∃ η', SRep w0 ob (st.new (.cells e l)) a (w.alloc (.cells cs.toArray e)) η' ∧
      VR (w.alloc (.cells cs.toArray e)) ob (st.new (.cells e l)) η' (.ptr st.nx 0) (.pointer (some ⟨w.heap.size, 0, none⟩)) := by
  have hlen := VReps.length hr
  have hs := h.newRow (r := .cells e l) (v := .pointer (some ⟨w.heap.size, 0, none⟩)) (cs := cs) (w' := w.alloc (.cells cs.toArray e)) (hp1 := st.hp)
    (fun _ _ h => h) (below_alloc _ _) (by simp [bsOf, upd_val, ARow.kind, blk]) (fun b hb => by simp [bsOf, upd_val, ARow.kind, blk] at hb; exact .inr (by omega))
    (fun hk => by
      refine ⟨w.heap.size, upd_val _ _ _ _, wB h, by rw [upd_cel]; exact heap_new _ _, ?_⟩
      rw [upd_cel]
      refine VReps.frame hk (by omega) (fun j hj => ?_) (fun j hj => ?_) hr
      · exact OwnOk.of (fun r' hr' => ⟨r', by rw [look_cons, if_neg (by omega)] at hr'; exact hr', rfl⟩) (upd_ne _ _ _ _ j (by omega)).1 (upd_ne _ _ _ _ j (by omega)).2
      · exact SubOk.of (fun r' hr' => ⟨r', by rw [look_cons, if_neg (by omega)] at hr'; exact hr', rfl⟩) (upd_ne _ _ _ _ j (by omega)).2)
  refine ⟨_, hs, by simp only [St.new]; omega, fun r hr => ?_⟩
  rw [upd_cel, upd_val]
  exact ⟨by omega, w.heap.size, rfl, rfl⟩

/-- a row of rows is made -/
theorem SRep.newRows (h : SRep w0 ob st a w η) {hp1 : List (Nat × ARow)} (hsub : ∀ j r, look hp1 j = some r → look st.hp j = some r) {e e1 : Nat} {m : List (List Int)} {cs : List Value} (hm : m.length ≤ maxLen) (hF : F2 (OwnInts w w0.B e1 .i64) m cs)
    (hnd : (cs.flatMap blk).Nodup) (hfr : ∀ b, b ∈ cs.flatMap blk → ∃ j r0, look st.hp j = some r0 ∧ b ∈ bsOf η j r0 ∧ look hp1 j = none) :
    ∃ η', SRep w0 ob { st with hp := (st.nx, .rows e e1 true m) :: hp1, nx := st.nx + 1 } a (w.alloc (.cells cs.toArray e)) η' ∧
      VR (w.alloc (.cells cs.toArray e)) ob { st with hp := (st.nx, .rows e e1 true m) :: hp1, nx := st.nx + 1 } η' (.own st.nx) (.slice (some ⟨w.heap.size, 0, none⟩) m.length m.length) := by
  have hlen := F2.length hF
  have hlt : ∀ b, b ∈ cs.flatMap blk → b < w.heap.size := fun b hb => by
    obtain ⟨j, r0, h1, h2, _⟩ := hfr b hb
    exact ((h.heap.row j r0 h1).lt b h2).2
  have hbs : bsOf (η.upd st.nx (.slice (some ⟨w.heap.size, 0, none⟩) m.length m.length) cs) st.nx (.rows e e1 true m) = w.heap.size :: cs.flatMap blk := by
    simp [bsOf, upd_val, upd_cel, ARow.kind, blk]
  have hs := h.newRow (r := .rows e e1 true m) (v := .slice (some ⟨w.heap.size, 0, none⟩) m.length m.length) (cs := cs) (w' := w.alloc (.cells cs.toArray e)) (hp1 := hp1)
    hsub (below_alloc _ _) (by rw [hbs]; exact List.nodup_cons.2 ⟨fun hb => by have := hlt _ hb; omega, hnd⟩)
    (fun b hb => by
      rw [hbs] at hb
      rcases List.mem_cons.1 hb with rfl | hb
      · exact .inr (Nat.le_refl _)
      · exact .inl (hfr b hb))
    (fun _ => by
      refine ⟨?_, ?_⟩
      · rw [upd_val, upd_cel, hlen]
        exact own_new (wB h) (by omega)
      · rw [upd_cel]
        refine F2.imp (fun l v hv ho => ownsRow_same ho (fun b hb => ?_)) hF
        exact (below_alloc w _).block b (ownsRow_lt ho b hb).2)
  refine ⟨_, hs, by simp only; omega, fun r hr => ?_⟩
  simp only [look_cons, if_true, Option.some.injEq] at hr
  subst hr
  exact ⟨by simp [ARow.kind], by rw [upd_val]⟩

/-- a row of shared rows is made -/
theorem SRep.newShared (h : SRep w0 ob st a w η) {e e1 : Nat} {m : List (List Int)} {cs : List Value} (hm : m.length ≤ maxLen) (hF : F2 (SInts w (badOf ob st.hp η) .i64) m cs) :
    ∃ η', SRep w0 ob (st.new (.rows e e1 false m)) a (w.alloc (.cells cs.toArray e)) η' ∧
      VR (w.alloc (.cells cs.toArray e)) ob (st.new (.rows e e1 false m)) η' (.own st.nx) (.slice (some ⟨w.heap.size, 0, none⟩) m.length m.length) := by
  have hlen := F2.length hF
  have hs := h.newRow (r := .rows e e1 false m) (v := .slice (some ⟨w.heap.size, 0, none⟩) m.length m.length) (cs := cs) (w' := w.alloc (.cells cs.toArray e)) (hp1 := st.hp)
    (fun _ _ h => h) (below_alloc _ _) (by simp [bsOf, upd_val, ARow.kind, blk]) (fun b hb => by simp [bsOf, upd_val, ARow.kind, blk] at hb; exact .inr (by omega))
    (fun hk => by
      refine ⟨?_, ?_⟩
      · rw [upd_val, upd_cel, hlen]
        exact own_new (wB h) (by omega)
      · rw [upd_cel]
        exact F2.imp (fun l v hv ho => ho.keeps hk) hF)
  refine ⟨_, hs, by simp only [St.new]; omega, fun r hr => ?_⟩
  simp only [St.new, look_cons, if_true, Option.some.injEq] at hr
  subst hr
  exact ⟨by simp [ARow.kind], by rw [upd_val]⟩

theorem own_newN {w : World} {B e n sz : Nat} {cs : List Value} (hB : B ≤ w.heap.size) (hm : n ≤ maxLen) (hl : cs.length = n * sz) :
    (w.alloc (.cells cs.toArray e)).ownsRow B e sz (.slice (some ⟨w.heap.size, 0, none⟩) n n) n cs :=
  ⟨hl, .inr ⟨w.heap.size, n, cs.toArray, rfl, hB, Go.heap_alloc_new w _, Nat.le_refl _, hm, by simpa using hl, by rw [← hl]; simp⟩⟩

theorem flat_len {s : Nat} {bad : Nat → Prop} : ∀ {L : List (List Int × List (List Int))} {css : List (List Value)}, F2 (SRec w bad s) L css → css.flatten.length = L.length * stp s
  | [], [], _ => by simp
  | r :: L, cs :: css, h => by
    obtain ⟨h1, h3⟩ := h
    have := flat_len h3
    rw [List.flatten_cons, List.length_append, this, h1.len, List.length_cons, Nat.add_mul]; omega
  | [], _ :: _, h => h.elim
  | _ :: _, [], h => h.elim

/-- a row of structs is made -/
theorem SRep.newRecs (h : SRep w0 ob st a w η) {e s : Nat} {L : List (List Int × List (List Int))} {css : List (List Value)} (hm : L.length ≤ maxLen) (hF : F2 (SRec w (badOf ob st.hp η) s) L css) :
    ∃ η', SRep w0 ob (st.new (.recs e s L)) a (w.alloc (.cells css.flatten.toArray e)) η' ∧
      VR (w.alloc (.cells css.flatten.toArray e)) ob (st.new (.recs e s L)) η' (.own st.nx) (.slice (some ⟨w.heap.size, 0, none⟩) L.length L.length) := by
  have hs := h.newRow (r := .recs e s L) (v := .slice (some ⟨w.heap.size, 0, none⟩) L.length L.length) (cs := css.flatten) (w' := w.alloc (.cells css.flatten.toArray e)) (hp1 := st.hp)
    (fun _ _ h => h) (below_alloc _ _) (by simp [bsOf, upd_val, ARow.kind, blk]) (fun b hb => by simp [bsOf, upd_val, ARow.kind, blk] at hb; exact .inr (by omega))
    (fun hk => by
      refine ⟨?_, css, upd_cel _ _ _ _, F2.imp (fun l v hv ho => ho.keeps hk) hF⟩
      rw [upd_val, upd_cel]
      exact own_newN (wB h) hm (flat_len hF))
  refine ⟨_, hs, by simp only [St.new]; omega, fun r hr => ?_⟩
  simp only [St.new, look_cons, if_true, Option.some.injEq] at hr
  subst hr
  exact ⟨by simp [ARow.kind], by rw [upd_val]⟩

/-- inner rows handed over -/
theorem takeRows_spec : ∀ {ps : List (Nat × AVal)} {st st' : St} {n e1 : Nat} {m : List (List Int)}, takeRows st e1 n ps = some (st', m) →
    ∃ ks : List Nat, st'.sz = st.sz ∧ st'.sl = st.sl ∧ st'.nx = st.nx ∧ (∀ j r, look st'.hp j = some r → look st.hp j = some r) ∧ (∀ j, j ∈ ks → look st'.hp j = none) ∧ ks.Nodup ∧
      F2 (fun k l => look st.hp k = some (.ints e1 .i64 l)) ks m ∧ ps = (ks.zipIdx n).map fun (k, i) => (i, AVal.own k)
  | [], st, st', n, e1, m, h => by
    simp only [takeRows, Option.some.injEq, Prod.mk.injEq] at h
    obtain ⟨rfl, rfl⟩ := h
    exact ⟨[], rfl, rfl, rfl, fun _ _ h => h, fun _ h => by simp at h, List.nodup_nil, trivial, rfl⟩
  | (i, .own k) :: r, st, st', n, e1, m, h => by
    simp only [takeRows] at h
    split at h
    case h_2 => cases h
    case h_1 hi =>
      have hi' := Nat.eq_of_beq_eq_true hi
      subst hi'
      split at h
      case h_2 => cases h
      case h_1 e2 l hl =>
        split at h
        case h_2 => cases h
        case h_1 he =>
          have he' := Nat.eq_of_beq_eq_true he
          subst he'
          split at h
          case h_2 => cases h
          case h_1 st1 m1 h1 =>
            simp only [Option.some.injEq, Prod.mk.injEq] at h
            obtain ⟨rfl, rfl⟩ := h
            obtain ⟨ks, a1, a2, a3, a4, a5, a6, a7, a8⟩ := takeRows_spec h1
            have a4' : ∀ j r, look st1.hp j = some r → look st.hp j = some r ∧ j ≠ k := fun j r hj => by
              have := a4 j r hj
              simp only [St.del] at this
              by_cases hjk : j = k
              · subst hjk; rw [look_rem] at this; cases this
              · rw [look_rem_ne _ _ _ hjk] at this; exact ⟨this, hjk⟩
            have hk : look st1.hp k = none := by
              cases hx : look st1.hp k with
              | none => rfl
              | some r => exact absurd rfl (a4' k r hx).2
            have hnk : k ∉ ks := fun hmem => by
              have : ∀ {ks : List Nat} {m : List (List Int)}, F2 (fun k l => look (st.del k).hp k = some (ARow.ints e2 .i64 l)) ks m → True := fun _ => trivial
              obtain ⟨idx, hidx⟩ := List.getElem?_of_mem hmem
              obtain ⟨l', _, hl'⟩ := F2.at a7 hidx
              simp only [St.del, look_rem] at hl'
              cases hl'
            refine ⟨k :: ks, a1, a2, a3, fun j r hj => (a4' j r hj).1, fun j hj => ?_, List.nodup_cons.2 ⟨hnk, a6⟩, ⟨hl, F2.imp' (fun a b ha hb => ?_) a7⟩, ?_⟩
            · rcases List.mem_cons.1 hj with rfl | hj
              · exact hk
              · exact a5 j hj
            · have hne : a ≠ k := fun e => hnk (e ▸ ha)
              simp only [St.del] at hb
              rwa [look_rem_ne _ _ _ hne] at hb
            · simp only [List.zipIdx_cons, List.map_cons]
              rw [a8]
  | (i, .un) :: r, _, _, _, _, _, h => by simp [takeRows] at h
  | (i, .c _) :: r, _, _, _, _, _, h => by simp [takeRows] at h
  | (i, .t _) :: r, _, _, _, _, _, h => by simp [takeRows] at h
  | (i, .ag _) :: r, _, _, _, _, _, h => by simp [takeRows] at h
  | (i, .tu _) :: r, _, _, _, _, _, h => by simp [takeRows] at h
  | (i, .sub _ _) :: r, _, _, _, _, _, h => by simp [takeRows] at h
  | (i, .ptr _ _) :: r, _, _, _, _, _, h => by simp [takeRows] at h
  | (i, .subp _ _ _) :: r, _, _, _, _, _, h => by simp [takeRows] at h
  | (i, .adr _ _) :: r, _, _, _, _, _, h => by simp [takeRows] at h
  | (i, .rp _ _) :: r, _, _, _, _, _, h => by simp [takeRows] at h
  | (i, .clo _ _) :: r, _, _, _, _, _, h => by simp [takeRows] at h
  | (i, .knot _ _ _) :: r, _, _, _, _, _, h => by simp [takeRows] at h
  | (i, .nul) :: r, _, _, _, _, _, h => by simp [takeRows] at h
end
end Go.Aw
/- Operations that make memory, as the model runs them. -/
namespace Go.Aw
open Go.RowKit

section
variable {P : Program} {Γ : Tys} {w0 : Base} {w w' : World} {ob : Nat → Prop} {st : St} {a : Act} {η : Env}

theorem init_cells (zv : Value) (n : Nat) : (Array.range n).map (fun i => (#[zv] : Array Value)[i % (#[zv] : Array Value).size]!) = (List.replicate n zv).toArray := by
  apply Array.ext
  · simp
  · intro i h1 h2
    simp [Nat.mod_one]

theorem fill_cons {i : Nat} {v : Value} {cs : List Value} {vs : List (Nat × Value)} (hv : v.cells = #[v]) (hi : i < cs.length) :
    Instr.fill (fun i => some (i * 1, 1)) cs.toArray ((i, v) :: vs) = Instr.fill (fun i => some (i * 1, 1)) (cs.set i v).toArray vs := by
  simp only [Instr.fill, hv]
  simp
  intro h
  omega

/-- what 'buildSlice' makes -/
theorem run_buildSlice {t e len : Nat} {ti : TI} {zv : Value} (ht : P.underlying t = some (.slice e)) (he : TyOk P e ti) (h1 : ti.size = 1) (hz : ti.zero = [zv]) (hlen : len ≤ 65536) {vs : Array (Nat × Value)} {cs : List Value}
    (hf : Instr.fill (fun i => some (i * 1, 1)) (List.replicate len zv).toArray vs.toList = some cs.toArray) :
    (Instr.buildSlice t len vs).run P w = .ok (.slice (some ⟨w.heap.size, 0, none⟩) len len) (w.alloc (.cells cs.toArray e)) := by
  obtain ⟨i, z, g1, g2, g3, g4, g5, g6, g7, g8⟩ := run_typeInfo he
  rw [hz] at g5
  rw [h1] at g7
  have hle : ¬ (len * 1 > 2 ^ 24) := by omega
  by_cases h0 : len = 0
  · subst h0
    have hc : (Array.range 0).map (fun _ => (default : Value)) = #[] := by simp [Array.range]
    simp only [List.replicate_zero, Nat.mul_one] at hf
    simp [Instr.buildSlice, run_underlying ht, g7, newRow, hc, hf]
  · have hc := init_cells zv len
    have hl1 : len * 1 = len := Nat.mul_one _
    simp only [Instr.buildSlice, Sem.run_bind, run_underlying ht, Result.andThen_ok, g7]
    rw [if_neg hle, if_neg (by omega)]
    simp only [Sem.run_bind, g8, Result.andThen_ok, Sem.run_pure, g5, hl1]
    have hc' : (Array.range len).map (fun i => ([zv].toArray : Array Value)[i % ([zv].toArray : Array Value).size]!) = (List.replicate len zv).toArray := hc
    rw [hc', hf]
    simp [newRow]

theorem setInts_head {l l' : List Int} {i : Nat} {x : AVal} {r : List (Nat × AVal)} {k : IntKind} (h : setInts l ((i, x) :: r) k = some l') : ∃ k1 n, x = .c (.int k1 n) := by
  cases x with
  | c v => cases v <;> first | exact ⟨_, _, rfl⟩ | (simp [setInts] at h)
  | _ => simp [setInts] at h

theorem setInts_sound {k : IntKind} {bad : Nat → Prop} {hp : List (Nat × ARow)} {nx : Nat} : ∀ {ps : List (Nat × AVal)} {l l' : List Int} {vs : List (Nat × Value)},
    F2 (fun (p : Nat × AVal) (q : Nat × Value) => p.1 = q.1 ∧ VRep w bad hp nx η p.2 q.2) ps vs → setInts l ps k = some l' →
    l'.length = l.length ∧ Instr.fill (fun i => some (i * 1, 1)) (l.map (Value.int k)).toArray vs = some (l'.map (Value.int k)).toArray
  | [], l, l', [], _, h => by simp only [setInts, Option.some.injEq] at h; subst h; exact ⟨rfl, rfl⟩
  | (i, x) :: ps, l, l', (j, v) :: vs, ⟨⟨hij, hv⟩, hr⟩, h => by
    simp only at hij hv
    subst hij
    obtain ⟨k1, n1, rfl⟩ := setInts_head h
    · simp only [setInts] at h
      split at h
      case h_2 => cases h
      case h_1 hq =>
        have hk := keq_spec hq
        subst hk
        split at h
        case h_2 => cases h
        case h_1 hlt =>
          have hlt' : i < l.length := Nat.le_of_ble_eq_true hlt
          obtain ⟨rfl, _⟩ := hv
          obtain ⟨h1, h2⟩ := setInts_sound hr h
          refine ⟨by simpa using h1, ?_⟩
          rw [fill_cons rfl (by simpa using hlt')]
          simpa [List.map_set] using h2
  | [], _, _, _ :: _, h, _ => h.elim
  | _ :: _, _, _, [], h, _ => h.elim

/-- parts that come in their order fill the row -/
theorem fill_seq {zv : Value} : ∀ {vs : List (Nat × Value)} {pre : List Value} {us : List Value}, vs = (us.zipIdx pre.length).map (fun (u, i) => (i, u)) → (∀ u, u ∈ us → u.cells = #[u]) →
    Instr.fill (fun i => some (i * 1, 1)) (pre ++ List.replicate us.length zv).toArray vs = some (pre ++ us).toArray
  | [], pre, us, h, _ => by
    have : us = [] := by cases us with | nil => rfl | cons u r => simp at h
    subst this
    simp [Instr.fill]
  | (i, v) :: vs, pre, us, h, hc => by
    cases us with
    | nil => simp at h
    | cons u r =>
      simp only [List.zipIdx_cons, List.map_cons, List.cons.injEq, Prod.mk.injEq] at h
      obtain ⟨⟨rfl, rfl⟩, h2⟩ := h
      rw [fill_cons (hc v (by simp)) (by simp)]
      have ih := fill_seq (zv := zv) (vs := vs) (pre := pre ++ [v]) (us := r) (by simpa using h2) (fun u hu => hc u (by simp [hu]))
      have e : (pre ++ List.replicate (v :: r).length zv).set pre.length v = pre ++ [v] ++ List.replicate r.length zv := by
        rw [List.set_append_right _ _ (Nat.le_refl _)]
        simp [List.replicate_succ]
      rw [e, ih]
      simp

theorem fold_set : ∀ (cs pre rest : List Value), rest.length = cs.length →
    (cs.zipIdx pre.length).foldl (fun (a : Array Value) (p : Value × Nat) => a.setIfInBounds (0 + p.2) p.1) (pre ++ rest).toArray = (pre ++ cs).toArray
  | [], pre, rest, h => by
    have : rest = [] := List.eq_nil_of_length_eq_zero (by simpa using h)
    subst this; rfl
  | c :: cs, pre, rest, h => by
    cases rest with
    | nil => simp at h
    | cons y r =>
      simp only [List.zipIdx_cons, List.foldl_cons]
      have e : (pre ++ y :: r).toArray.setIfInBounds (0 + pre.length) c = (pre ++ [c] ++ r).toArray := by
        simp [List.set_append_right]
      rw [e]
      have := fold_set cs (pre ++ [c]) r (by simpa using h)
      simpa using this

theorem fill_one {sz : Nat} {base cs : List Value} (hb : base.length = sz) (hc : cs.length = sz) : Instr.fill (fun i => some (i * sz, sz)) base.toArray [(0, .agg cs.toArray)] = some cs.toArray := by
  have h := fold_set cs [] base (by omega)
  simp only [List.nil_append, List.length_nil] at h
  have hs : ¬ ((Value.agg cs.toArray).cells.size ≠ sz || 0 * sz + (Value.agg cs.toArray).cells.size > base.toArray.size) = true := by
    simp [Value.cells, hb, hc]
  simp only [Instr.fill]
  rw [if_neg hs]
  simp only [Value.cells, Nat.zero_mul]
  rw [← Array.foldl_toList, Array.toList_zipIdx]
  exact congrArg some h

theorem run_buildSlice0 {t e : Nat} {ti : TI} (ht : P.underlying t = some (.slice e)) (he : TyOk P e ti) :
    (Instr.buildSlice t 0 #[]).run P w = .ok (.slice (some ⟨w.heap.size, 0, none⟩) 0 0) (w.alloc (.cells #[] e)) := by
  obtain ⟨i, z, g1, g2, g3, g4, g5, g6, g7, g8⟩ := run_typeInfo he
  have hc : (Array.range 0).map (fun _ => (default : Value)) = #[] := by simp [Array.range]
  simp [Instr.buildSlice, run_underlying ht, g7, newRow, Instr.fill, hc]

theorem run_buildSlice1 {t e : Nat} {ti : TI} (ht : P.underlying t = some (.slice e)) (he : TyOk P e ti) (hpos : 0 < ti.size) (hle : ti.size ≤ 64) (hz : ti.zero.length = ti.size) {cs : List Value} (hc : cs.length = ti.size) :
    (Instr.buildSlice t 1 #[(0, .agg cs.toArray)]).run P w = .ok (.slice (some ⟨w.heap.size, 0, none⟩) 1 1) (w.alloc (.cells cs.toArray e)) := by
  obtain ⟨i, z, g1, g2, g3, g4, g5, g6, g7, g8⟩ := run_typeInfo he
  have hle' : ¬ (1 * ti.size > 2 ^ 24) := by omega
  simp only [Instr.buildSlice, Sem.run_bind, run_underlying ht, Result.andThen_ok, g7]
  rw [if_neg hle', if_neg (by omega)]
  simp only [Sem.run_bind, g8, Result.andThen_ok, Sem.run_pure, g5]
  generalize hbase : (Array.range (1 * ti.size)).map (fun x => ti.zero.toArray[x % ti.zero.toArray.size]!) = base
  have hb : base.toList.length = ti.size := by rw [← hbase]; simp
  have := fill_one (base := base.toList) hb hc
  simp only [Array.toArray_toList] at this
  rw [this]
  simp [newRow]

theorem recOf_spec {w : World} {bad : Nat → Prop} {hp : List (Nat × ARow)} {nx : Nat} {η : Env} : ∀ {l : List AVal} {xs : List Int} {m : List (List Int)} {cs : List Value}, recOf l = some (xs, m) → VReps w bad hp nx η l cs → ∃ u, cs = xs.map (Value.int .i64) ++ [u] ∧ SRows w bad m u
  | [.t (.rows m0)], xs, m, [u], h, hv => by
    simp only [recOf, Option.some.injEq, Prod.mk.injEq] at h
    obtain ⟨rfl, rfl⟩ := h
    exact ⟨u, rfl, hv.1⟩
  | .c (.int .i64 n) :: y :: r, xs, m, u :: cs, h, hv => by
    simp only [recOf] at h
    split at h
    case h_2 => cases h
    case h_1 xs' m' hr =>
      simp only [Option.some.injEq, Prod.mk.injEq] at h
      obtain ⟨rfl, rfl⟩ := h
      obtain ⟨u', h2, h3⟩ := recOf_spec hr hv.2
      obtain ⟨rfl, _⟩ := hv.1
      exact ⟨u', by rw [h2]; rfl, h3⟩
  | [], _, _, _, h, _ => by simp [recOf] at h
  | [.c (.int .i64 n)], _, _, _, h, _ => by simp [recOf] at h
  | [.t (.rows _)], _, _, [], _, hv => hv.elim
  | [.t (.rows _)], _, _, _ :: _ :: _, _, hv => hv.2.elim
  | .c (.int .i64 n) :: _ :: _, _, _, [], _, hv => hv.elim

/-- does it write where something was? -/
def nbOp (o : Oper) : Bool :=
  match o.op with
  | .store .. => true
  | .call ⟨.builtin .append, _, _⟩ => true
  | _ => false

def ANOut (P : Program) (w0 : Base) (ob : Nat → Prop) (st : St) (a : Act) (w : World) (o : Oper) (K : AVal → St → Prop) : Prop :=
  ∃ v x st' w' η', K x st' ∧ st'.sz = st.sz ∧ SRep w0 ob st' a w' η' ∧ VR w' ob st' η' x v ∧
    ((execOp a.eval o).run P w = .ok (.value v) w' ∨ ((execOp a.eval o).run P w = .ok .skip w' ∧ v = undef)) ∧ (nbOp o = false → Below w.heap.size w w')

theorem intsOf_spec {w : World} {bad : Nat → Prop} {hp : List (Nat × ARow)} {nx : Nat} {η : Env} : ∀ {l : List AVal} {xs : List Int} {cs : List Value}, intsOf l = some xs → VReps w bad hp nx η l cs → cs = xs.map (Value.int .i64)
  | [], xs, [], h, _ => by simp only [intsOf, Option.some.injEq] at h; subst h; rfl
  | .c (.int .i64 n) :: r, xs, u :: cs, h, hv => by
    simp only [intsOf] at h
    split at h
    case h_2 => cases h
    case h_1 xs' hr =>
      simp only [Option.some.injEq] at h
      subst h
      have := intsOf_spec hr hv.2
      obtain ⟨rfl, _⟩ := hv.1
      rw [this]; rfl
  | [], _, _ :: _, _, hv => hv.elim
  | .c (.int .i64 n) :: _, _, [], _, hv => hv.elim

theorem own_intsC {w : World} {B e : Nat} {k : IntKind} {l : List Int} {v : Value} {bad : Nat → Prop} (h : OwnInts w B e k l v) (hb : ∀ b, b ∈ blk v → ¬ bad b) : SInts w bad k l v := by
  rcases h.2 with ⟨hv, h0⟩ | ⟨g, cap, cur, hv, hg, hh, hnc, hcm, r⟩
  · have : l = [] := List.eq_nil_of_length_eq_zero h0
    subst this
    exact ⟨none, 0, by simpa using hv, by simp, by unfold maxLen; omega, fun i x hi => by simp at hi⟩
  · refine ⟨some ⟨g, 0, none⟩, cap, hv, hnc, hcm, fun i x hi => ⟨g, 0, rfl, hb g (by rw [hv]; simp [blk]), ?_⟩⟩
    rw [Nat.zero_add]
    exact own_ptr h (by rw [hv]; rfl) (by rw [List.getElem?_map, hi]; rfl)
theorem own_rowsC {w : World} {B e : Nat} {m : List (List Int)} {cs : List Value} {v : Value} {bad : Nat → Prop} (h : w.ownsRow B e 1 v m.length cs) (hF : F2 (SInts w bad .i64) m cs) (hb : ∀ b, b ∈ blk v → ¬ bad b) : SRows w bad m v := by
  rcases h.2 with ⟨hv, h0⟩ | ⟨g, cap, cur, hv, hg, hh, hnc, hcm, r⟩
  · have : m = [] := List.eq_nil_of_length_eq_zero h0
    subst this
    exact ⟨none, 0, by simpa using hv, by simp, by unfold maxLen; omega, fun i x hi => by simp at hi⟩
  · refine ⟨some ⟨g, 0, none⟩, cap, hv, hnc, hcm, fun i x hi => ?_⟩
    obtain ⟨u, hu, hs⟩ := F2.at hF hi
    refine ⟨g, 0, u, rfl, hb g (by rw [hv]; simp [blk]), ?_, hs⟩
    rw [Nat.zero_add]
    exact own_ptr h (by rw [hv]; rfl) hu
theorem SRep.giveUpC (h : SRep w0 ob st a w η) (k : Nat) : SRep w0 ob (st.del k) a w η := by
  have hs : ∀ j r, look (rem k st.hp) j = some r → look st.hp j = some r := fun j r hj => by
    by_cases e : j = k
    · subst e; rw [look_rem] at hj; cases hj
    · rwa [look_rem_ne _ _ _ e] at hj
  obtain ⟨hh, hk⟩ := h.heap.forget (hp' := rem k st.hp) (nx' := st.nx) hs (fun j r hj => h.heap.lt j r (hs j r hj)) (Nat.le_refl _)
  refine ⟨h.defers, h.size, h.below, h.base, h.frame, fun b ⟨j, r, hj, hm⟩ => h.src b ⟨j, r, hs j r hj, hm⟩, hh, fun i x hi => ?_⟩
  exact VRep.frame hk (Nat.le_refl _) (fun j _ => OwnOk.of (fun r' hr' => ⟨r', hs j r' hr', rfl⟩) rfl rfl) (fun j _ => SubOk.of (fun r' hr' => ⟨r', hs j r' hr', rfl⟩) rfl) (h.slot i x hi)

theorem Keeps.of_sub {w : World} {bad bad' : Nat → Prop} (h : ∀ b, bad' b → bad b) : Keeps w bad w bad' := fun b _ _ hb hc => ⟨fun h' => hb (h b h'), hc⟩
/-- slices of slices given away -/
theorem takeMats_spec : ∀ {ps : List (Nat × AVal)} {st st' : St} {n : Nat} {L : List (List Int × List (List Int))} {vs : List (Nat × Value)}, takeMats st n ps = some (st', L) → SRep w0 ob st a w η →
    F2 (fun (p : Nat × AVal) (q : Nat × Value) => p.1 = q.1 ∧ VR w ob st η p.2 q.2) ps vs →
    ∃ us : List Value, vs = (us.zipIdx n).map (fun (u, i) => (i, u)) ∧ F2 (SRec w (badOf ob st'.hp η) 0) L (us.map fun u => [u]) ∧ (∀ u, u ∈ us → u.cells = #[u]) ∧ SRep w0 ob st' a w η ∧ st'.sz = st.sz ∧ st'.nx = st.nx ∧ (∀ b, ownB st'.hp η b → ownB st.hp η b)
  | [], st, st', n, L, vs, h, hs, hf => by
    simp only [takeMats, Option.some.injEq, Prod.mk.injEq] at h
    obtain ⟨rfl, rfl⟩ := h
    match vs, hf with
    | [], _ => exact ⟨[], rfl, trivial, fun u hu => by simp at hu, hs, rfl, rfl, fun b hb => hb⟩
  | (i, x) :: r, st, st', n, L, [], h, hs, hf => hf.elim
  | (i, x) :: r, st, st', n, L, q :: vs, h, hs, hf => by
    obtain ⟨⟨h1, h2⟩, h3⟩ := hf
    unfold takeMats at h
    split at h
    case h_1 heq => cases heq
    case h_3 => cases h
    case h_2 i' k r' heq =>
      simp only [List.cons.injEq, Prod.mk.injEq] at heq
      obtain ⟨⟨rfl, rfl⟩, rfl⟩ := heq
      split at h
      case h_2 => cases h
      case h_1 hin =>
        have := Nat.eq_of_beq_eq_true hin
        subst this
        split at h
        case h_2 => cases h
        case h_1 e e1 ub m hr =>
          split at h
          case h_2 => cases h
          case h_1 st2 L2 ht =>
            simp only [Option.some.injEq, Prod.mk.injEq] at h
            obtain ⟨rfl, rfl⟩ := h
            have hsub : ∀ j r, look (st.del k).hp j = some r → look st.hp j = some r := fun j r hj => by
              by_cases e : j = k
              · subst e; simp only [St.del] at hj; rw [look_rem] at hj; cases hj
              · simp only [St.del] at hj; rwa [look_rem_ne _ _ _ e] at hj
            have hgone : ∀ b, b ∈ bsOf η k (.rows e e1 ub m) → ¬ (badOf ob (st.del k).hp η) b := fun b hb => by
              rintro (h4 | ⟨j', r', hj', hm'⟩)
              · exact hs.free ⟨k, _, hr, hb⟩ h4
              · by_cases e3 : j' = k
                · subst e3; simp only [St.del] at hj'; rw [look_rem] at hj'; cases hj'
                · exact hs.heap.apart j' r' k _ (hsub j' r' hj') hr e3 b hm' hb
            have hS : SRows w (badOf ob (st.del k).hp η) m (η.val k) := by
              have hrow := hs.heap.row k _ hr
              cases ub with
              | true =>
                refine own_rowsC hrow.1 (F2.imp (fun l u hu ho => own_intsC ho (fun b hb => hgone b ?_)) hrow.2) (fun b hb => hgone b ?_)
                · simp only [bsOf, ARow.kind, if_true]; exact List.mem_append.2 (.inr (List.mem_flatMap.2 ⟨u, hu, hb⟩))
                · simp only [bsOf]; exact List.mem_append.2 (.inl hb)
              | false =>
                refine own_rowsC hrow.1 (F2.imp (fun l u hu ho => ho.keeps (Keeps.of_sub (fun b hbad => by
                  rcases hbad with h4 | ⟨j', r', hj', hm'⟩
                  · exact .inl h4
                  · exact .inr ⟨j', r', hsub j' r' hj', hm'⟩))) hrow.2) (fun b hb => hgone b ?_)
                simp only [bsOf]; exact List.mem_append.2 (.inl hb)
            obtain ⟨us, g1, g2, g3, g4, g5, g6, g7⟩ := takeMats_spec ht (hs.giveUpC k) (F2.imp (fun p q _ hpq => ⟨hpq.1, VRep.frame (Keeps.of_sub (fun b hb => by
                rcases hb with h4 | ⟨j', r', hj', hm'⟩
                · exact .inl h4
                · exact .inr ⟨j', r', hsub j' r' hj', hm'⟩)) (Nat.le_refl _) (fun j _ => OwnOk.of (fun r' hr' => ⟨r', hsub j r' hr', rfl⟩) rfl rfl) (fun j _ => SubOk.of (fun r' hr' => ⟨r', hsub j r' hr', rfl⟩) rfl) hpq.2⟩) h3)
            have e2 := (h2.2 _ hr).2
            have hq : q.2 = η.val k := e2
            refine ⟨q.2 :: us, ?_, ⟨?_, g2⟩, fun u hu => ?_, g4, g5, g6, fun b hb => ?_⟩
            · simp only [List.zipIdx_cons, List.map_cons, List.cons.injEq]
              exact ⟨Prod.ext h1.symm rfl, g1⟩
            · refine SRec.mk (by omega) rfl ⟨q.2, rfl, ?_⟩
              rw [hq]
              exact hS.keeps (Keeps.of_sub (fun b hb => by
                rcases hb with h4 | h4
                · exact .inl h4
                · exact .inr (g7 b h4)))
            · rcases List.mem_cons.1 hu with rfl | hu
              · obtain ⟨b, c, hu', _⟩ := hS
                rw [hq, hu']; rfl
              · exact g3 u hu
            · obtain ⟨j', r', hj', hm'⟩ := g7 b hb
              exact ⟨j', r', hsub j' r' hj', hm'⟩

theorem abuildSlice_sound (hΓ : TysOk P Γ) (h : SRep w0 ob st a w η) {t len : Nat} {ps : List (Nat × AVal)} {vs : Array (Nat × Value)}
    (hps : F2 (fun (p : Nat × AVal) (q : Nat × Value) => p.1 = q.1 ∧ VR w ob st η p.2 q.2) ps vs.toList) {K : AVal → St → Prop} (hk : abuildSlice Γ st t len ps K) :
    ∃ v x st' w' η', K x st' ∧ st'.sz = st.sz ∧ SRep w0 ob st' a w' η' ∧ VR w' ob st' η' x v ∧ (Instr.buildSlice t len vs).run P w = .ok v w' ∧ Below w.heap.size w w' := by
  unfold abuildSlice at hk
  split at hk
  case h_2 => exact hk.elim
  case h_1 e s1 s2 s3 hti =>
    have ht := (hΓ.at hti).desc
    simp only [TD.is] at ht
    split at hk
    case h_5 => exact hk.elim
    case h_4 ln el sz d2 z hei =>
      have hte := hΓ.at hei
      split at hk
      case h_2 => exact hk.elim
      case h_1 hzl =>
        have hzl' := Nat.eq_of_beq_eq_true hzl
        split at hk
        case h_2 => exact hk.elim
        case h_1 h64 =>
          have h64' := Nat.le_of_ble_eq_true h64
          split at hk
          case h_2 => exact hk.elim
          case h_1 h1s =>
            have h1s' := Nat.le_of_ble_eq_true h1s
            split at hk
            case h_3 => exact hk.elim
            case h_1 =>
              split at hk
              case h_2 => exact hk.elim
              case h_1 =>
                have hvs : vs = #[] := by
                  obtain ⟨vl⟩ := vs
                  cases vl with
                  | nil => rfl
                  | cons _ _ => exact hps.elim
                subst hvs
                obtain ⟨η', hs, hv⟩ := h.newRecs (e := e) (s := sz + 99) (L := []) (css := []) (by simp) trivial
                exact ⟨_, _, _, _, η', hk, rfl, hs, hv, run_buildSlice0 ht hte, below_alloc _ _⟩
            case h_2 l =>
              split at hk
              case h_2 => exact hk.elim
              case h_1 =>
                split at hk
                case h_2 => exact hk.elim
                case h_1 xs hro =>
                  split at hk
                  case h_2 => exact hk.elim
                  case h_1 hsz =>
                    have hsz' := Nat.eq_of_beq_eq_true hsz
                    obtain ⟨vl⟩ := vs
                    match vl, hps with
                    | [(j, v)], ⟨⟨hj, hv⟩, _⟩ =>
                      simp only at hj hv
                      subst hj
                      obtain ⟨cs, rfl, hr⟩ := hv
                      have hcs := intsOf_spec hro hr
                      have hcl : cs.length = sz := by rw [hcs]; simp; omega
                      obtain ⟨η', hs, hv⟩ := h.newRecs (e := e) (s := sz + 99) (L := [(xs, [])]) (css := [cs]) (by simp; unfold maxLen; omega) ⟨SRec.mkA h1s' hsz' hcs, trivial⟩
                      simp only [List.flatten_cons, List.flatten_nil, List.append_nil, List.length_cons, List.length_nil, Nat.zero_add] at hs hv
                      exact ⟨_, _, _, _, η', hk, rfl, hs, hv, run_buildSlice1 ht hte (by simp only; omega) h64' hzl' hcl, below_alloc _ _⟩
                    | [], hps => exact hps.elim
                    | _ :: _ :: _, hps => exact hps.2.elim
    case h_3 fs sz d2 z hei =>
      have hte := hΓ.at hei
      split at hk
      case h_2 => exact hk.elim
      case h_1 hzl =>
        have hzl' := Nat.eq_of_beq_eq_true hzl
        split at hk
        case h_3 => exact hk.elim
        case h_1 =>
          split at hk
          case h_2 => exact hk.elim
          case h_1 =>
            split at hk
            case h_2 => exact hk.elim
            case h_1 s =>
              split at hk
              case h_2 => exact hk.elim
              case h_1 =>
                have hvs : vs = #[] := by
                  obtain ⟨vl⟩ := vs
                  cases vl with
                  | nil => rfl
                  | cons _ _ => exact hps.elim
                subst hvs
                obtain ⟨η', hs, hv⟩ := h.newRecs (e := e) (s := s) (L := []) (css := []) (by simp) trivial
                exact ⟨_, _, _, _, η', hk, rfl, hs, hv, run_buildSlice0 ht hte, below_alloc _ _⟩
        case h_2 l =>
          split at hk
          case h_2 => exact hk.elim
          case h_1 =>
            split at hk
            case h_2 => exact hk.elim
            case h_1 xs m hro =>
              split at hk
              case h_2 => exact hk.elim
              case h_1 hsz =>
                have hsz' := Nat.eq_of_beq_eq_true hsz
                split at hk
                case h_2 => exact hk.elim
                case h_1 h64 =>
                  have h64' := Nat.le_of_ble_eq_true h64
                  obtain ⟨vl⟩ := vs
                  match vl, hps with
                  | [(j, v)], ⟨⟨hj, hv⟩, _⟩ =>
                    simp only at hj hv
                    subst hj
                    obtain ⟨cs, rfl, hr⟩ := hv
                    have hrec := SRec.mk (r := (xs, m)) (s := xs.length) (by omega) rfl (recOf_spec hro hr)
                    have hcl : cs.length = sz := by
                      obtain ⟨u, h2, _⟩ := recOf_spec hro hr
                      rw [h2]; simp; omega
                    obtain ⟨η', hs, hv⟩ := h.newRecs (e := e) (s := xs.length) (L := [(xs, m)]) (css := [cs]) (by simp; unfold maxLen; omega) ⟨hrec, trivial⟩
                    simp only [List.flatten_cons, List.flatten_nil, List.append_nil, List.length_cons, List.length_nil, Nat.zero_add] at hs hv
                    exact ⟨_, _, _, _, η', hk, rfl, hs, hv, run_buildSlice1 ht hte (by simp only; omega) h64' hzl' hcl, below_alloc _ _⟩
                  | [], hps => exact hps.elim
                  | _ :: _ :: _, hps => exact hps.2.elim
    case h_1 k d2 k2 hei =>
      have hte := hΓ.at hei
      split at hk
      case h_2 => exact hk.elim
      case h_1 hq =>
        have hkk := keq_spec hq
        subst hkk
        split at hk
        case h_2 => exact hk.elim
        case h_1 hle =>
          have hle' := Nat.le_of_ble_eq_true hle
          split at hk
          case h_2 => exact hk.elim
          case h_1 l hl =>
            obtain ⟨h1, h2⟩ := setInts_sound hps hl
            simp only [List.length_replicate] at h1
            have hrun := run_buildSlice (w := w) ht hte rfl rfl hle' (vs := vs) (by simpa using h2)
            obtain ⟨η', hs, hv⟩ := h.newInts (e := e) (k := k) (l := l) (by unfold maxLen; omega)
            rw [h1] at hv
            exact ⟨_, _, _, _, η', hk, rfl, hs, hv, hrun, below_alloc _ _⟩
    case h_2 e1 d2 hei =>
      have hte := hΓ.at hei
      split at hk
      case h_2 => exact hk.elim
      case h_1 hle =>
        have hle' := Nat.le_of_ble_eq_true hle
        split at hk
        case h_1 st' m htk =>
          split at hk
          case h_2 => exact hk.elim
          case h_1 hml =>
            have hml' := Nat.eq_of_beq_eq_true hml
            obtain ⟨ks, a1, a2, a3, a4, a5, a6, a7, a8⟩ := takeRows_spec htk
            have hkl : ks.length = m.length := F2.length a7
            -- the parts' values are the rows' own
            have hval : ∀ {ks : List Nat} {n : Nat} {vs : List (Nat × Value)}, (∀ k, k ∈ ks → ∃ r, look st.hp k = some r) →
                F2 (fun (p : Nat × AVal) (q : Nat × Value) => p.1 = q.1 ∧ VR w ob st η p.2 q.2) ((ks.zipIdx n).map fun (k, i) => (i, AVal.own k)) vs → vs = ((ks.map η.val).zipIdx n).map (fun (u, i) => (i, u)) := by
              intro ks
              induction ks with
              | nil => intro n vs _ hf; cases vs with | nil => rfl | cons _ _ => exact hf.elim
              | cons k ks ih =>
                intro n vs hl hf
                cases vs with
                | nil => exact hf.elim
                | cons q vs =>
                  obtain ⟨⟨h1, h2⟩, h3⟩ := hf
                  obtain ⟨r, hr⟩ := hl k (by simp)
                  have := (h2.2 r hr).2
                  simp only [List.map_cons, List.zipIdx_cons, List.cons.injEq]
                  exact ⟨Prod.ext h1.symm this, ih (fun j hj => hl j (by simp [hj])) h3⟩
            have hlk : ∀ k, k ∈ ks → ∃ r, look st.hp k = some r := fun k hk => by
              obtain ⟨i, hi⟩ := List.getElem?_of_mem hk
              obtain ⟨l, _, hl⟩ := F2.at a7 hi
              exact ⟨_, hl⟩
            have hvs := hval hlk (a8 ▸ hps)
            have hrow : ∀ k l, look st.hp k = some (.ints e1 .i64 l) → OwnInts w w0.B e1 .i64 l (η.val k) := fun k l hr => (h.heap.row k _ hr).1
            have hF : F2 (OwnInts w w0.B e1 .i64) m (ks.map η.val) := by
              have : ∀ {ks : List Nat} {m : List (List Int)}, F2 (fun k l => look st.hp k = some (.ints e1 .i64 l)) ks m → F2 (OwnInts w w0.B e1 .i64) m (ks.map η.val) := by
                intro ks
                induction ks with
                | nil => intro m hf; cases m with | nil => trivial | cons _ _ => exact hf.elim
                | cons k ks ih => intro m hf; cases m with | nil => exact hf.elim | cons l m => exact ⟨hrow k l hf.1, ih hf.2⟩
              exact this a7
            have hcell : ∀ u, u ∈ ks.map η.val → u.cells = #[u] := fun u hu => by
              obtain ⟨i, hi⟩ := List.getElem?_of_mem hu
              obtain ⟨l, _, ho⟩ := F2.at' hF hi
              obtain ⟨b, c, hu'⟩ := len_own ho
              rw [hu']; rfl
            have hfill := fill_seq (zv := .slice none 0 0) (pre := []) (us := ks.map η.val) hvs hcell
            simp only [List.nil_append, List.length_map] at hfill
            have hrun := run_buildSlice (w := w) ht hte rfl rfl hle' (vs := vs) (cs := ks.map η.val) (by rw [← hml', ← hkl]; exact hfill)
            have hmem : ∀ b, b ∈ (ks.map η.val).flatMap blk → ∃ k l, k ∈ ks ∧ look st.hp k = some (.ints e1 .i64 l) ∧ b ∈ blk (η.val k) := fun b hb => by
              obtain ⟨u, hu, hb⟩ := List.mem_flatMap.1 hb
              obtain ⟨k, hk, rfl⟩ := List.mem_map.1 hu
              obtain ⟨i, hi⟩ := List.getElem?_of_mem hk
              obtain ⟨l, _, hl⟩ := F2.at a7 hi
              exact ⟨k, l, hk, hl, hb⟩
            have hbs : ∀ k l, look st.hp k = some (.ints e1 .i64 l) → bsOf η k (.ints e1 .i64 l) = blk (η.val k) := fun k l _ => by simp [bsOf, ARow.kind]
            have hnd : ((ks.map η.val).flatMap blk).Nodup := by
              have : ∀ {ks : List Nat} {m : List (List Int)}, ks.Nodup → F2 (fun k l => look st.hp k = some (.ints e1 .i64 l)) ks m → ((ks.map η.val).flatMap blk).Nodup ∧ ∀ b, b ∈ (ks.map η.val).flatMap blk → ∃ k l, k ∈ ks ∧ look st.hp k = some (.ints e1 .i64 l) ∧ b ∈ blk (η.val k) := by
                intro ks
                induction ks with
                | nil => intro m _ _; simp
                | cons k ks ih =>
                  intro m hn hf
                  cases m with
                  | nil => exact hf.elim
                  | cons l m =>
                    obtain ⟨hn1, hn2⟩ := List.nodup_cons.1 hn
                    obtain ⟨i1, i2⟩ := ih hn2 hf.2
                    have hb1 := hbs k l hf.1
                    simp only [List.map_cons, List.flatMap_cons]
                    refine ⟨?_, fun b hb => ?_⟩
                    · rw [List.nodup_append]
                      refine ⟨hb1 ▸ h.heap.nodup k _ hf.1, i1, fun b hb b' hb' e => ?_⟩
                      subst e
                      obtain ⟨k', l', hk', hl', hbb⟩ := i2 b hb'
                      exact h.heap.apart k _ k' _ hf.1 hl' (fun e => hn1 (e ▸ hk')) b (hb1 ▸ hb) (hbs k' l' hl' ▸ hbb)
                    · rcases List.mem_append.1 hb with hb | hb
                      · exact ⟨k, l, by simp, hf.1, hb⟩
                      · obtain ⟨k', l', hk', rest⟩ := i2 b hb
                        exact ⟨k', l', by simp [hk'], rest⟩
              exact (this a6 a7).1
            obtain ⟨η', hs, hv⟩ := h.newRows (hp1 := st'.hp) a4 (e := e) (e1 := e1) (m := m) (cs := ks.map η.val) (by unfold maxLen; omega) hF hnd (fun b hb => by
              obtain ⟨k, l, hk, hl, hbb⟩ := hmem b hb
              exact ⟨k, _, hl, (hbs k l hl).symm ▸ hbb, a5 k hk⟩)
            have hst : st'.new (.rows e e1 true m) = { st with hp := (st.nx, .rows e e1 true m) :: st'.hp, nx := st.nx + 1 } := by
              simp only [St.new, a1, a2, a3]
            rw [hst, a3] at hk
            rw [hml'] at hv
            exact ⟨_, _, _, _, η', hk, rfl, hs, hv, hrun, below_alloc _ _⟩
        case h_2 htk =>
          split at hk
          case h_2 =>
            split at hk
            case h_2 =>
              split at hk
              case h_2 => exact hk.elim
              case h_1 st' L htm =>
                split at hk
                case h_2 => exact hk.elim
                case h_1 hml =>
                  have hml' := Nat.eq_of_beq_eq_true hml
                  obtain ⟨us, hvs, hF, hcell, hs2, z1, z2, _⟩ := takeMats_spec htm h hps
                  have hul : L.length = us.length := by have := F2.length hF; simpa using this
                  have hfill := fill_seq (zv := .slice none 0 0) (pre := []) (us := us) hvs hcell
                  simp only [List.nil_append] at hfill
                  have hrun := run_buildSlice (w := w) ht hte rfl rfl hle' (vs := vs) (cs := us) (by rw [← hml', hul]; exact hfill)
                  obtain ⟨η', hs, hv⟩ := hs2.newRecs (e := e) (s := 0) (L := L) (css := us.map fun u => [u]) (by unfold maxLen; omega) hF
                  have hfl : (us.map fun u => [u]).flatten = us := by
                    clear hvs hF hcell hul hfill hrun hs hv
                    induction us with
                    | nil => rfl
                    | cons u r ih => simp [ih]
                  rw [hfl] at hs hv
                  rw [hml'] at hv
                  exact ⟨_, _, _, _, η', hk, z1, hs, hv, hrun, below_alloc _ _⟩
            case h_1 L hmat =>
              split at hk
              case h_2 => exact hk.elim
              case h_1 hml =>
                have hml' := Nat.eq_of_beq_eq_true hml
                have spec : ∀ {ps : List (Nat × AVal)} {n : Nat} {L : List (List Int × List (List Int))} {vs : List (Nat × Value)}, shMats n ps = some L → F2 (fun (p : Nat × AVal) (q : Nat × Value) => p.1 = q.1 ∧ VR w ob st η p.2 q.2) ps vs →
                    ∃ us : List Value, vs = (us.zipIdx n).map (fun (u, i) => (i, u)) ∧ F2 (SRec w (badOf ob st.hp η) 0) L (us.map fun u => [u]) ∧ ∀ u, u ∈ us → u.cells = #[u] := by
                  intro ps
                  induction ps with
                  | nil =>
                    intro n L vs hs hf
                    cases vs with
                    | cons _ _ => exact hf.elim
                    | nil => simp only [shMats, Option.some.injEq] at hs; subst hs; exact ⟨[], rfl, trivial, fun u hu => by simp at hu⟩
                  | cons p ps ih =>
                    intro n L vs hs hf
                    cases vs with
                    | nil => exact hf.elim
                    | cons q vs =>
                      obtain ⟨⟨h1, h2⟩, h3⟩ := hf
                      obtain ⟨i, x⟩ := p
                      unfold shMats at hs
                      split at hs
                      case h_1 heq => cases heq
                      case h_2 i' l r heq =>
                        simp only [List.cons.injEq, Prod.mk.injEq] at heq
                        obtain ⟨⟨rfl, rfl⟩, rfl⟩ := heq
                        split at hs
                        case h_2 => cases hs
                        case h_1 hin =>
                          have := Nat.eq_of_beq_eq_true hin
                          subst this
                          split at hs
                          case h_2 => cases hs
                          case h_1 m' hm' =>
                            simp only [Option.some.injEq] at hs
                            subst hs
                            obtain ⟨us, e1, e2, e3⟩ := ih hm' h3
                            refine ⟨q.2 :: us, ?_, ⟨⟨rfl, q.2, rfl, h2⟩, e2⟩, fun u hu => ?_⟩
                            · simp only [List.zipIdx_cons, List.map_cons, List.cons.injEq]
                              exact ⟨Prod.ext h1.symm rfl, e1⟩
                            · rcases List.mem_cons.1 hu with rfl | hu
                              · obtain ⟨b, c, hu', _⟩ := h2
                                rw [hu']; rfl
                              · exact e3 u hu
                      case h_3 => cases hs
                obtain ⟨us, hvs, hF, hcell⟩ := spec hmat hps
                have hul : L.length = us.length := by have := F2.length hF; simpa using this
                have hfill := fill_seq (zv := .slice none 0 0) (pre := []) (us := us) hvs hcell
                simp only [List.nil_append] at hfill
                have hrun := run_buildSlice (w := w) ht hte rfl rfl hle' (vs := vs) (cs := us) (by rw [← hml', hul]; exact hfill)
                obtain ⟨η', hs, hv⟩ := h.newRecs (e := e) (s := 0) (L := L) (css := us.map fun u => [u]) (by unfold maxLen; omega) hF
                have hfl : (us.map fun u => [u]).flatten = us := by
                  clear hvs hF hcell hul hfill hrun hs hv
                  induction us with
                  | nil => rfl
                  | cons u r ih => simp [ih]
                rw [hfl] at hs hv
                rw [hml'] at hv
                exact ⟨_, _, _, _, η', hk, rfl, hs, hv, hrun, below_alloc _ _⟩
          case h_1 m hsh =>
            split at hk
            case h_2 => exact hk.elim
            case h_1 hml =>
              have hml' := Nat.eq_of_beq_eq_true hml
              have spec : ∀ {ps : List (Nat × AVal)} {n : Nat} {m : List (List Int)} {vs : List (Nat × Value)}, shRows st n ps = some m → F2 (fun (p : Nat × AVal) (q : Nat × Value) => p.1 = q.1 ∧ VR w ob st η p.2 q.2) ps vs →
                  ∃ us : List Value, vs = (us.zipIdx n).map (fun (u, i) => (i, u)) ∧ F2 (SInts w (badOf ob st.hp η) .i64) m us := by
                intro ps
                induction ps with
                | nil =>
                  intro n m vs hs hf
                  cases vs with
                  | cons _ _ => exact hf.elim
                  | nil => simp only [shRows, Option.some.injEq] at hs; subst hs; exact ⟨[], rfl, trivial⟩
                | cons p ps ih =>
                  intro n m vs hs hf
                  cases vs with
                  | nil => exact hf.elim
                  | cons q vs =>
                    obtain ⟨⟨h1, h2⟩, h3⟩ := hf
                    obtain ⟨i, x⟩ := p
                    unfold shRows at hs
                    split at hs
                    case h_1 heq => cases heq
                    case h_2 i' l r heq =>
                      simp only [List.cons.injEq, Prod.mk.injEq] at heq
                      obtain ⟨⟨rfl, rfl⟩, rfl⟩ := heq
                      split at hs
                      case h_2 => cases hs
                      case h_1 hin =>
                        have := Nat.eq_of_beq_eq_true hin
                        subst this
                        split at hs
                        case h_2 => cases hs
                        case h_1 m' hm' =>
                          simp only [Option.some.injEq] at hs
                          subst hs
                          obtain ⟨us, e1, e2⟩ := ih hm' h3
                          refine ⟨q.2 :: us, ?_, h2, e2⟩
                          simp only [List.zipIdx_cons, List.map_cons, List.cons.injEq]
                          exact ⟨Prod.ext h1.symm rfl, e1⟩
                    case h_3 => cases hs
              obtain ⟨us, hvs, hF⟩ := spec hsh hps
              have hul := F2.length hF
              have hfill := fill_seq (zv := .slice none 0 0) (pre := []) (us := us) hvs (fun u hu => by
                obtain ⟨i, hi⟩ := List.getElem?_of_mem hu
                obtain ⟨l, _, ho⟩ := F2.at' hF hi
                obtain ⟨b, c, hu', _⟩ := ho
                rw [hu']; rfl)
              simp only [List.nil_append] at hfill
              have hrun := run_buildSlice (w := w) ht hte rfl rfl hle' (vs := vs) (cs := us) (by rw [← hml', hul]; exact hfill)
              obtain ⟨η', hs, hv⟩ := h.newShared (e := e) (e1 := e1) (m := m) (cs := us) (by unfold maxLen; omega) hF
              rw [hml'] at hv
              exact ⟨_, _, _, _, η', hk, rfl, hs, hv, hrun, below_alloc _ _⟩
end
end Go.Aw
