/- The abstract states of a small weakest-precondition engine: what the slots of a frame and the rows of the call's own hold. Nothing here speaks of one program. -/
import Derived.WalkKit
import Derived.Deep.Quiet
import Derived.StillTail
import Derived.KernelRfl
namespace Go.Aw
open Go.RowKit

def look {α : Type} : List (Nat × α) → Nat → Option α
  | [], _ => none
  | (i, x) :: r, k => match Nat.beq i k with
    | true => some x
    | false => look r k

def nth {α : Type} : List α → Nat → Option α
  | [], _ => none
  | x :: _, 0 => some x
  | _ :: r, n + 1 => nth r n

theorem nth_eq {α : Type} : ∀ (l : List α) (n : Nat), nth l n = l[n]?
  | [], _ => by simp [nth]
  | _ :: _, 0 => by simp [nth]
  | _ :: r, n + 1 => by simp [nth, nth_eq r n]

/-- read-only slices -/
inductive T where
  | ints (k : IntKind) (l : List Int)
  | rows (m : List (List Int))
  | recs (s : Nat) (L : List (List Int × List (List Int)))

inductive AVal where
  | un
  | c (v : Value)
  | t (t : T)
  | ag (l : List AVal)
  | tu (l : List AVal)
  | own (k : Nat)
  | sub (k i : Nat)
  | ptr (k off : Nat)
  | subp (k i j : Nat)
  | adr (t : T) (i : Nat)
  | rp (l : List AVal) (off : Nat)
  | clo (f : FuncId) (l : List AVal)
  | knot (f : FuncId) (l : List AVal) (n : Nat)
  | nul

/-- rows of the call's own: a slice of integers; a slice of slices of integers (u: the inner ones its own too); a variable's cells -/
inductive ARow where
  | ints (e : Nat) (k : IntKind) (l : List Int)
  | rows (e e1 : Nat) (u : Bool) (m : List (List Int))
  | cells (e : Nat) (l : List AVal)
  | recs (e s : Nat) (L : List (List Int × List (List Int)))

def ARow.kind : ARow → Nat
  | .ints .. => 1
  | .rows _ _ true _ => 2
  | .rows _ _ false _ => 3
  | .cells .. => 4
  | .recs .. => 0

structure St where
  sz : Nat
  sl : List (Nat × AVal)
  hp : List (Nat × ARow)
  nx : Nat

structure Env where
  val : Nat → Value
  cel : Nat → List Value

def blk : Value → List Nat
  | .slice (some a) _ _ => [a.block]
  | .pointer (some a) => [a.block]
  | _ => []

def SInts (w : World) (bad : Nat → Prop) (k : IntKind) (l : List Int) (v : Value) : Prop :=
  ∃ a c, v = .slice a l.length c ∧ l.length ≤ c ∧ c ≤ maxLen ∧
    ∀ i x, l[i]? = some x → ∃ b o, a = some ⟨b, o, none⟩ ∧ ¬ bad b ∧ w.cell? ⟨b, o + i, none⟩ = some (.int k x)

def SRows (w : World) (bad : Nat → Prop) (m : List (List Int)) (v : Value) : Prop :=
  ∃ a c, v = .slice a m.length c ∧ m.length ≤ c ∧ c ≤ maxLen ∧
    ∀ i l, m[i]? = some l → ∃ b o u, a = some ⟨b, o, none⟩ ∧ ¬ bad b ∧ w.cell? ⟨b, o + i, none⟩ = some u ∧ SInts w bad .i64 l u

/-- the cells of a struct: s integers, then a slice of slices -/
def SRec (w : World) (bad : Nat → Prop) (s : Nat) (r : List Int × List (List Int)) (cs : List Value) : Prop :=
  r.1.length = s ∧ ∃ u, cs = r.1.map (Value.int .i64) ++ [u] ∧ SRows w bad r.2 u

def SRecs (w : World) (bad : Nat → Prop) (s : Nat) (L : List (List Int × List (List Int))) (v : Value) : Prop :=
  ∃ a c, v = .slice a L.length c ∧ L.length ≤ c ∧ c ≤ maxLen ∧
    ∀ i r, L[i]? = some r → ∃ b o cs, a = some ⟨b, o, none⟩ ∧ ¬ bad b ∧ SRec w bad s r cs ∧ ∀ j u, cs[j]? = some u → w.cell? ⟨b, o + i * (s + 1) + j, none⟩ = some u

def TRep (w : World) (bad : Nat → Prop) : T → Value → Prop
  | .ints k l, v => SInts w bad k l v
  | .rows m, v => SRows w bad m v
  | .recs s L, v => SRecs w bad s L v

/-- a pointer to the i-th element of a read-only slice -/
def ARep (w : World) (bad : Nat → Prop) : T → Nat → Value → Prop
  | .ints k l, i, v => ∃ b o x, v = .pointer (some ⟨b, o, none⟩) ∧ l[i]? = some x ∧ ¬ bad b ∧ w.cell? ⟨b, o, none⟩ = some (.int k x)
  | .rows m, i, v => ∃ b o l u, v = .pointer (some ⟨b, o, none⟩) ∧ m[i]? = some l ∧ ¬ bad b ∧ w.cell? ⟨b, o, none⟩ = some u ∧ SInts w bad .i64 l u
  | .recs s L, i, v => ∃ b o r cs, v = .pointer (some ⟨b, o, none⟩) ∧ L[i]? = some r ∧ ¬ bad b ∧ SRec w bad s r cs ∧ ∀ j u, cs[j]? = some u → w.cell? ⟨b, o + j, none⟩ = some u

def F2 {α β : Type} (R : α → β → Prop) : List α → List β → Prop
  | [], [] => True
  | a :: l, b :: r => R a b ∧ F2 R l r
  | _, _ => False

section
variable (w : World) (bad : Nat → Prop) (hp : List (Nat × ARow)) (nx : Nat) (η : Env)
mutual
def VRep : AVal → Value → Prop
  | .un, _ => True
  | .c y, v => v = y ∧ y.oneCell' = true
  | .t t, v => TRep w bad t v
  | .ag l, v => ∃ cs : List Value, v = .agg cs.toArray ∧ VReps l cs
  | .tu l, v => ∃ cs : List Value, v = .tuple cs.toArray ∧ VReps l cs
  | .own k, v => k < nx ∧ ∀ r, look hp k = some r → r.kind < 4 ∧ v = η.val k
  | .sub k i, v => k < nx ∧ ∀ r, look hp k = some r → r.kind = 2 ∧ (η.cel k)[i]? = some v
  | .ptr k off, v => k < nx ∧ ∀ r, look hp k = some r → off < (η.cel k).length ∧ ∃ b, blk (η.val k) = [b] ∧ v = .pointer (some ⟨b, off, none⟩)
  | .subp k i j, v => k < nx ∧ ∀ r, look hp k = some r → r.kind = 2 ∧ ∃ b n c, (η.cel k)[i]? = some (.slice (some ⟨b, 0, none⟩) n c) ∧ j < n ∧ v = .pointer (some ⟨b, j, none⟩)
  | .adr t i, v => ARep w bad t i v
  | .rp l off, v => ∃ (b : Nat) (cs : List Value), v = .pointer (some ⟨b, off, none⟩) ∧ VReps l cs ∧ ∀ i u, cs[i]? = some u → ¬ bad b ∧ w.cell? ⟨b, i, none⟩ = some u
  | .clo f l, v => ∃ cs : List Value, v = .func (.func f) #[] cs.toArray ∧ VReps l cs
  | .knot f l n, v => ∃ (b : Nat) (cs : List Value), v = .pointer (some ⟨b, 0, none⟩) ∧ VReps l cs ∧ ¬ bad b ∧ w.cell? ⟨b, 0, none⟩ = some (.func (.func f) #[] (cs.take n ++ v :: cs.drop n).toArray)
  | .nul, v => ∃ ba : Option Addr, v = .slice ba 0 0
def VReps : List AVal → List Value → Prop
  | [], [] => True
  | a :: l, v :: vs => VRep a v ∧ VReps l vs
  | _, _ => False
end
end

def OwnInts (w : World) (B e : Nat) (k : IntKind) (l : List Int) (v : Value) : Prop := w.ownsRow B e 1 v l.length (l.map (Value.int k))

def RowRep (w : World) (B : Nat) (bad : Nat → Prop) (hp : List (Nat × ARow)) (nx : Nat) (η : Env) (k : Nat) : ARow → Prop
  | .ints e kd l => OwnInts w B e kd l (η.val k) ∧ η.cel k = l.map (Value.int kd)
  | .rows e e1 true m => w.ownsRow B e 1 (η.val k) m.length (η.cel k) ∧ F2 (OwnInts w B e1 .i64) m (η.cel k)
  | .rows e _ false m => w.ownsRow B e 1 (η.val k) m.length (η.cel k) ∧ F2 (SInts w bad .i64) m (η.cel k)
  | .cells e l => ∃ b, η.val k = .pointer (some ⟨b, 0, none⟩) ∧ B ≤ b ∧ w.heap[b]? = some (.cells (η.cel k).toArray e (0, 0)) ∧ VReps w bad hp nx η l (η.cel k)
  | .recs e s L => w.ownsRow B e (s + 1) (η.val k) L.length (η.cel k) ∧ ∃ css : List (List Value), η.cel k = css.flatten ∧ F2 (SRec w bad s) L css

def bsOf (η : Env) (k : Nat) (r : ARow) : List Nat := blk (η.val k) ++ (if r.kind = 2 then (η.cel k).flatMap blk else [])

def ownB (hp : List (Nat × ARow)) (η : Env) (b : Nat) : Prop := ∃ k r, look hp k = some r ∧ b ∈ bsOf η k r

structure HRep (w : World) (B : Nat) (obad : Nat → Prop) (hp : List (Nat × ARow)) (nx : Nat) (η : Env) : Prop where
  row : ∀ k r, look hp k = some r → RowRep w B (fun b => obad b ∨ ownB hp η b) hp nx η k r
  nodup : ∀ k r, look hp k = some r → (bsOf η k r).Nodup
  apart : ∀ k r k' r', look hp k = some r → look hp k' = some r' → k ≠ k' → ∀ b, b ∈ bsOf η k r → b ∉ bsOf η k' r'
  lt : ∀ k r, look hp k = some r → k < nx

/-- where a call began: the world; the number from which blocks are its own to write; the blocks of its caller that it may write; values that lie in no slot of its own -/
structure Base where
  w : World
  B : Nat
  may : Nat → Prop
  γ : Nat → Value

structure BaseOk (w0 : Base) (obad : Nat → Prop) : Prop where
  le : w0.B ≤ w0.w.heap.size
  obl : ∀ b, obad b → b < w0.w.heap.size
  may : ∀ b, w0.may b → ¬ obad b

structure SRep (w0 : Base) (obad : Nat → Prop) (st : St) (a : Act) (w : World) (η : Env) : Prop where
  defers : a.defers = []
  size : a.tmps.size = st.sz
  below : Below w0.B w0.w w
  base : BaseOk w0 obad
  frame : ∀ b, b < w0.w.heap.size → ¬ w0.may b → w.heap[b]? = w0.w.heap[b]?
  src : ∀ b, ownB st.hp η b → w0.may b ∨ w0.w.heap.size ≤ b
  heap : HRep w w0.B obad st.hp st.nx η
  slot : ∀ i x, look st.sl i = some x → VRep w (fun b => obad b ∨ ownB st.hp η b) st.hp st.nx η x (a.tmps.getD i (w0.γ i))

def StRep (w0 : Base) (obad : Nat → Prop) (st : St) (a : Act) (w : World) : Prop := ∃ η, SRep w0 obad st a w η

end Go.Aw
