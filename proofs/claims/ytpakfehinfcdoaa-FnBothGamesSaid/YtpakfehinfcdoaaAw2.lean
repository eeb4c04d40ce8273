/- The engine's reckoning, continued: operations that make or write memory, calls, regions, code. -/
import Derived.Test.YtpakfehinfcdoaaAw1
namespace Go.Aw
open Go.RowKit

/-- the empty valuation of rows -/
def η0 : Env := ⟨fun _ => undef, fun _ => []⟩

/-- WHAT A FUNCTION DOES: called with values that read as 'args', in whatever world, it returns what reads as 'x' over new rows 'h' of its own, and leaves all old memory as it was. -/
structure FOk (P : Program) (f : FuncId) : Prop where
  ok : ∃ fn, P.funcs[f]? = some fn ∧ (fn.name == "runtime.NumGoroutine") = false ∧ fn.body.isNone = false

def FSpec (P : Program) (f : FuncId) (args : List AVal) (post : AVal → List (Nat × ARow) → Prop) : Prop := FOk P f ∧
  ∀ (w : World) (bad : Nat → Prop) (vs : List Value), (∀ b, bad b → b < w.heap.size) → VReps w bad [] 0 η0 args vs →
    Calls P f vs.toArray w fun e w' => ∃ v x h η, e = .returned v ∧ post x h ∧ Below w.heap.size w w' ∧
      HRep w' w.heap.size bad h h.length η ∧ VRep w' (fun b => bad b ∨ ownB h η b) h h.length η x v

def ex (x0 : AVal) (h0 : List (Nat × ARow)) : AVal → List (Nat × ARow) → Prop := fun x h => x = x0 ∧ h = h0

structure ACall (P : Program) (f : FuncId) (args : List AVal) (K : AVal → List (Nat × ARow) → Prop) : Prop where
  run : ∃ post, FSpec P f args post ∧ ∀ x h, post x h → K x h

theorem ACall.useR {P : Program} {f : FuncId} {args : List AVal} {K : AVal → List (Nat × ARow) → Prop} {x : AVal} {h : List (Nat × ARow)}
    (hs : FSpec P f args (ex x h)) (hk : K x h) : ACall P f args K := ⟨_, hs, fun _ _ e => by obtain ⟨rfl, rfl⟩ := e; exact hk⟩

theorem ACall.useR' {P : Program} {f : FuncId} {args : List AVal} {K : AVal → List (Nat × ARow) → Prop} {post : AVal → List (Nat × ARow) → Prop}
    (hs : FSpec P f args post) (hk : ∀ x h, post x h → K x h) : ACall P f args K := ⟨_, hs, hk⟩

/-- a scalar result -/
def scal : AVal → Bool
  | .c _ => true
  | _ => false

structure QCall (P : Program) (f : FuncId) (args : List AVal) (K : AVal → Prop) : Prop where
  run : ∃ v, v.oneCell' = true ∧ FSpec P f args (ex (.c v) []) ∧ K (.c v)

theorem QCall.use {P : Program} {f : FuncId} {args : List AVal} {K : AVal → Prop} {v : Value}
    (hs : FSpec P f args (ex (.c v) [])) (hk : K (.c v)) (h1 : v.oneCell' = true := by rfl) : QCall P f args K := ⟨_, h1, hs, hk⟩

def callee (st : St) (c : Call) : Option (FuncId × List AVal) :=
  match c.callee with
  | .value f => match ev st f with
    | some (.clo g caps) => match evs st c.args.toList with
      | some l => some (g, l ++ caps)
      | none => none
    | _ => none
  | _ => none

def parts (st : St) : List (Nat × Operand) → Option (List (Nat × AVal))
  | [] => some []
  | (i, x) :: r => match ev st x with
    | none => none
    | some a => match parts st r with
      | none => none
      | some l => some ((i, a) :: l)

def optEv (st : St) : Option Operand → Option (Option AVal)
  | none => some none
  | some x => match ev st x with
    | some a => some (some a)
    | none => none

/-- a quiet operation: it reads alone -/
def aq (Γ : Tys) (st : St) (o : Oper) (K : AVal → Prop) : Prop :=
  match o.op with
  | .move x => match ev st x with | some a => K a | none => False
  | .assign x => match ev st x with | some a => K a | none => False
  | .load t x => match ev st x with | some a => aload Γ st t a K | none => False
  | .nilCheck x => match ev st x with
    | some (.ptr k o) => match isKey st.hp k with | true => K (.ptr k o) | false => False
    | some (.clo f l) => K (.clo f l)
    | some (.rp l o) => K (.rp l o)
    | some (.knot f l n) => K (.knot f l n)
    | _ => False
  | .binOp op t x y _ => match ev st x with
    | some a => match ev st y with | some b => abin2 Γ t op a b K | none => False
    | none => False
  | .unOp op _ x => match ev st x with | some a => aun op a K | none => False
  | .convert s d x => match look Γ s with
    | some ⟨.int _, _, _, _⟩ => match look Γ d with
      | some ⟨.int k, _, _, _⟩ => match ev st x with
        | some (.c (.int _ n)) => K (.c (.int k (k.wrap n)))
        | _ => False
      | _ => False
    | _ => False
  | .fieldAddr s x f => match ev st x with | some a => afaddr Γ st s a f K | none => False
  | .field s x f => match ev st x with | some a => afield Γ s a f K | none => False
  | .indexAddr t x ix => match ev st x with
    | some a => match ev st ix with | some b => aidx Γ st t a b K | none => False
    | none => False
  | .extract x i => match ev st x with
    | some (.tu l) => match nth l i with | some a => K a | none => False
    | _ => False
  | .slice t x lo hi none => match ev st x with
    | some a => match optEv st lo with
      | some l => match optEv st hi with | some h => aslice Γ t a l h K | none => False
      | none => False
    | none => False
  | .build t ps => match parts st ps.toList with | some l => abuild Γ st t l K | none => False
  | .makeFunc (.func f) first caps => match first.toList with
    | [] => match evs st caps.toList with | some l => K (.clo f l) | none => False
    | _ => False
  | .call ⟨.builtin .len, args, tys⟩ => match evs st args.toList with
    | some [a] => match tys.toList with
      | [t] => match look Γ t with
        | some ⟨.slice _, _, _, _⟩ => alen st a K
        | some ⟨.str, _, _, _⟩ => match a with
          | .c (.string s) => K (.c (.int .i64 (s.size : Int)))
          | _ => False
        | _ => False
      | _ => False
    | _ => False
  | .call ⟨.builtin .max, args, _⟩ => match evs st args.toList with | some l => ammx true l K | none => False
  | .call ⟨.builtin .min, args, _⟩ => match evs st args.toList with | some l => ammx false l K | none => False
  | .slice t x none (some h) (some m) => match ev st x with
    | some (.t (.ints .i64 _)) => match look Γ t with
      | some ⟨.slice e, _, _, _⟩ => match look Γ e with
        | some ⟨_, 1, _, _⟩ => match ev st h with
          | some (.c (.int .i64 0)) => match ev st m with
            | some (.c (.int .i64 0)) => K .nul
            | _ => False
          | _ => False
        | _ => False
      | _ => False
    | _ => False
  | _ => False

def isScal (Γ : Tys) (t : Nat) : Bool :=
  match look Γ t with
  | some ⟨.int _, _, _, _⟩ => true
  | some ⟨.bool, _, _, _⟩ => true
  | _ => false

/-- may this operation stand in a quiet head? -/
def qop (Γ : Tys) (o : Oper) : Bool :=
  match o.op with
  | .alloc _ | .box .. | .buildSlice .. | .store .. | .makeSlice .. => false
  | .call ⟨.builtin .append, _, _⟩ | .call ⟨.builtin .copy, _, _⟩ => false
  | .call ⟨.value _, _, _⟩ => isScal Γ o.type
  | _ => true

def headLen (Γ : Tys) : List Oper → Nat
  | [] => 0
  | o :: r => match qop Γ o with | true => headLen Γ r + 1 | false => 0

def setInts : List Int → List (Nat × AVal) → IntKind → Option (List Int)
  | l, [], _ => some l
  | l, (i, .c (.int k x)) :: r, k' => match keq k k' with
    | true => match Nat.blt i l.length with | true => setInts (l.set i x) r k' | false => none
    | false => none
  | _, _, _ => none

/-- inner rows handed over, in their order, from place n on -/
def takeRows (st : St) (e1 n : Nat) : List (Nat × AVal) → Option (St × List (List Int))
  | [] => some (st, [])
  | (i, .own k) :: r => match Nat.beq i n with
    | true => match look st.hp k with
      | some (.ints e .i64 l) => match Nat.beq e e1 with
        | true => match takeRows (st.del k) e1 (n + 1) r with
          | some (st', m) => some (st', l :: m)
          | none => none
        | false => none
      | _ => none
    | false => none
  | _ => none

/-- inner rows that are shared -/
def shRows (st : St) (n : Nat) : List (Nat × AVal) → Option (List (List Int))
  | [] => some []
  | (i, .t (.ints .i64 l)) :: r => match Nat.beq i n with
    | true => match shRows st (n + 1) r with
      | some m => some (l :: m)
      | none => none
    | false => none
  | _ => none

/-- slices of slices that are shared -/
def shMats (n : Nat) : List (Nat × AVal) → Option (List (List Int × List (List Int)))
  | [] => some []
  | (i, .t (.rows m)) :: r => match Nat.beq i n with
    | true => match shMats (n + 1) r with
      | some L => some (([], m) :: L)
      | none => none
    | false => none
  | _ => none

/-- a struct of integers and a shared slice of slices -/
def recOf : List AVal → Option (List Int × List (List Int))
  | [.t (.rows m)] => some ([], m)
  | .c (.int .i64 n) :: r => match recOf r with
    | some (xs, m) => some (n :: xs, m)
    | none => none
  | _ => none

def room : Nat := 1099511627776

def abuildSlice (Γ : Tys) (st : St) (t len : Nat) (ps : List (Nat × AVal)) (K : AVal → St → Prop) : Prop :=
  match look Γ t with
  | some ⟨.slice e, _, _, _⟩ => match look Γ e with
    | some ⟨.int k, 1, _, [.int k2 0]⟩ => match keq k k2 with
      | true => match Nat.ble len 65536 with
        | true => match setInts (List.replicate len 0) ps k with
          | some l => K (.own st.nx) (st.new (.ints e k l))
          | none => False
        | false => False
      | false => False
    | some ⟨.slice e1, 1, _, [.slice none 0 0]⟩ => match Nat.ble len 65536 with
      | true => match takeRows st e1 0 ps with
        | some (st', m) => match Nat.beq m.length len with
          | true => K (.own st'.nx) (st'.new (.rows e e1 true m))
          | false => False
        | none => match shRows st 0 ps with
          | some m => match Nat.beq m.length len with
            | true => K (.own st.nx) (st.new (.rows e e1 false m))
            | false => False
          | none => match shMats 0 ps with
            | some L => match Nat.beq L.length len with
              | true => K (.own st.nx) (st.new (.recs e 0 L))
              | false => False
            | none => False
      | false => False
    | some ⟨.struct _, sz, _, z⟩ => match Nat.beq z.length sz with
      | true => match ps with
        | [] => match len with
          | 0 => match sz with
            | s + 1 => match Nat.ble sz 64 with
              | true => K (.own st.nx) (st.new (.recs e s []))
              | false => False
            | 0 => False
          | _ => False
        | [(0, .ag l)] => match len with
          | 1 => match recOf l with
            | some (xs, m) => match Nat.beq (xs.length + 1) sz with
              | true => match Nat.ble sz 64 with
                | true => K (.own st.nx) (st.new (.recs e xs.length [(xs, m)]))
                | false => False
              | false => False
            | none => False
          | _ => False
        | _ => False
      | false => False
    | _ => False
  | _ => False

def astore (Γ : Tys) (st : St) (ty : Nat) (x y : AVal) (K : St → Prop) : Prop :=
  match look Γ ty with
  | none => False
  | some ti =>
    match x with
    | .ptr k off => match look st.hp k with
      | some (.ints e kd l) => match y with
        | .c (.int k' n) => match keq k' kd with
          | true => match ti.size with
            | 1 => K (st.upd k (.ints e kd (l.set off n)))
            | _ => False
          | false => False
        | _ => False
      | some (.rows e e1 true m) => match y with
        | .own k2 => match Nat.beq k2 k with
          | true => False
          | false => match look st.hp k2 with
            | some (.ints e2 .i64 l) => match Nat.beq e2 e1 with
              | true => match ti.size with
                | 1 => K (((st.del k2).killSub k).upd k (.rows e e1 true (m.set off l)))
                | _ => False
              | false => False
            | _ => False
        | _ => False
      | some (.cells e l) => match y with
        | .ag l' => match Nat.beq l'.length ti.size with
          | true => match Nat.ble (off + ti.size) l.length with
            | true => match ones st.hp l' with
              | true => K (st.upd k (.cells e (l.take off ++ l' ++ l.drop (off + ti.size))))
              | false => False
            | false => False
          | false => False
        | _ => match one st.hp y with
          | true => match ti.size with
            | 1 => K (st.upd k (.cells e (l.set off y)))
            | _ => False
          | false => False
      | _ => False
    | .subp k i j => match look st.hp k with
      | some (.rows e e1 true m) => match y with
        | .c (.int .i64 n) => match ti.size with
          | 1 => K (st.upd k (.rows e e1 true (m.set i ((m.getD i []).set j n))))
          | _ => False
        | _ => False
      | _ => False
    | _ => False

def aappend (Γ : Tys) (st : St) (t : Nat) (x y : AVal) (K : AVal → St → Prop) : Prop :=
  match look Γ t with
  | some ⟨.slice e, _, _, _⟩ =>
    match look Γ e with
    | some ⟨_, 1, by_, [_]⟩ =>
     match Nat.ble by_ 64 with
     | true =>
      match x with
      | .own k => match look st.hp k with
        | some (.ints e0 kd l) => match Nat.beq e0 e with
          | true => match y with
            | .own k2 => match Nat.beq k2 k with
              | true => False
              | false => match look st.hp k2 with
                | some (.ints _ kd2 l2) => match keq kd2 kd with
                  | true => l.length + l2.length ≤ room ∧ K (.own k) ((st.kill k).upd k (.ints e kd (l ++ l2)))
                  | false => False
                | _ => False
            | .t (.ints kd2 l2) => match keq kd2 kd with
              | true => l.length + l2.length ≤ room ∧ K (.own k) ((st.kill k).upd k (.ints e kd (l ++ l2)))
              | false => False
            | _ => False
          | false => False
        | some (.rows e0 e1 true m) => match Nat.beq e0 e with
          | true => match y with
            | .own k2 => match Nat.beq k2 k with
              | true => False
              | false => match look st.hp k2 with
                | some (.rows _ e2 true m2) => match Nat.beq e2 e1 with
                  | true => m.length + m2.length ≤ room ∧ K (.own k) (((st.del k2).kill k).upd k (.rows e e1 true (m ++ m2)))
                  | false => False
                | _ => False
            | .t (.rows m2) => match m with
              | [] => m2.length ≤ room ∧ K (.own k) ((st.kill k).upd k (.rows e e1 false m2))
              | _ :: _ => False
            | _ => False
          | false => False
        | some (.rows e0 e1 false m) => match Nat.beq e0 e with
          | true => match y with
            | .own k2 => match Nat.beq k2 k with
              | true => False
              | false => match look st.hp k2 with
                | some (.rows _ _ false m2) => m.length + m2.length ≤ room ∧ K (.own k) ((st.kill k).upd k (.rows e e1 false (m ++ m2)))
                | _ => False
            | .t (.rows m2) => m.length + m2.length ≤ room ∧ K (.own k) ((st.kill k).upd k (.rows e e1 false (m ++ m2)))
            | _ => False
          | false => False
        | _ => False
      | _ => False
     | false => False
    | some ⟨_, sz, by_, z⟩ =>
     match Nat.ble by_ 64 with
     | true =>
      match x with
      | .own k => match look st.hp k with
        | some (.recs e0 s L) => match Nat.beq e0 e with
          | true => match Nat.beq sz (s + 1) with
            | true => match Nat.beq z.length sz with
              | true => match y with
                | .own k2 => match Nat.beq k2 k with
                  | true => False
                  | false => match look st.hp k2 with
                    | some (.recs _ s2 L2) => match Nat.beq s2 s with
                      | true => L.length + L2.length ≤ room ∧ K (.own k) ((st.kill k).upd k (.recs e s (L ++ L2)))
                      | false => False
                    | _ => False
                | _ => False
              | false => False
            | false => False
          | false => False
        | _ => False
      | _ => False
     | false => False
    | none => False
  | _ => False

/-- whether the rows of what is appended are the call's own -/
def ownRows (st : St) (y : AVal) : Bool :=
  match y with
  | .own k => match look st.hp k with
    | some (.rows _ _ u _) => u
    | _ => true
  | .t _ => false
  | _ => true

/-- a nil slice may be appended to: it is a row of the call's own, with nothing in it -/
def aappendN (Γ : Tys) (st : St) (t : Nat) (x y : AVal) (K : AVal → St → Prop) : Prop :=
  match x with
  | .c (.slice none 0 0) => match look Γ t with
    | some ⟨.slice e, _, _, _⟩ => match look Γ e with
      | some ⟨.int k, _, _, _⟩ => aappend Γ (st.new (.ints e k [])) t (.own st.nx) y K
      | some ⟨.slice e1, _, _, _⟩ => aappend Γ (st.new (.rows e e1 (ownRows st y) [])) t (.own st.nx) y K
      | _ => False
    | _ => False
  | .nul => match look Γ t with
    | some ⟨.slice e, _, _, _⟩ => match look Γ e with
      | some ⟨_, 1, by_, [_]⟩ => match Nat.ble by_ 64 with
        | true => match y with
          | .t (.ints .i64 l) => (l = [] → K .nul st) ∧ (l ≠ [] → l.length ≤ room ∧ K (.own st.nx) (st.new (.ints e .i64 l)))
          | _ => False
        | false => False
      | _ => False
    | _ => False
  | x => aappend Γ st t x y K

def amake (Γ : Tys) (st : St) (t : Nat) (l c : AVal) (K : AVal → St → Prop) : Prop :=
  match l with
  | .c (.int .i64 a) => match c with
    | .c (.int .i64 b) => match look Γ t with
      | some ⟨.slice e, _, _, _⟩ => match look Γ e with
        | some ⟨.int k, 1, by_, [.int k2 0]⟩ => match keq k k2 with
          | true => match Nat.ble by_ 64 with
            | true => ∃ n : Nat, a = (n : Int) ∧ b = (n : Int) ∧ n ≤ room ∧ K (.own st.nx) (st.new (.ints e k (List.replicate n 0)))
            | false => False
          | false => False
        | some ⟨.slice e1, 1, by_, [.slice none 0 0]⟩ => match Nat.ble by_ 64 with
          | true => ∃ n : Nat, a = (n : Int) ∧ b = (n : Int) ∧ n ≤ room ∧ K (.own st.nx) (st.new (.rows e e1 true (List.replicate n [])))
          | false => False
        | _ => False
      | _ => False
    | _ => False
  | _ => False

/-- an operation that makes or writes memory (its slot's value; what the state is behind it) -/
def an (Γ : Tys) (st : St) (o : Oper) (K : AVal → St → Prop) : Prop :=
  match o.op with
  | .alloc e => match look Γ e with
    | some ti => match ti.zero.all Value.oneCell' with
      | true => match ti.zero with
        | [] => False
        | _ :: _ => K (.ptr st.nx 0) (st.new (.cells e (ti.zero.map .c)))
      | false => False
    | none => False
  | .box e x => match look Γ e with
    | some _ => match ev st x with
      | some (.ag l) => match l with
        | [] => False
        | _ :: _ => K (.ptr st.nx 0) (st.new (.cells e l))
      | some a => match one st.hp a with
        | true => K (.ptr st.nx 0) (st.new (.cells e [a]))
        | false => False
      | none => False
    | none => False
  | .buildSlice t len ps => match parts st ps.toList with
    | some l => abuildSlice Γ st t len l K
    | none => False
  | .store t x y => match ev st x with
    | some a => match ev st y with
      | some b => astore Γ st t a b (K .un)
      | none => False
    | none => False
  | .makeSlice t l c => match ev st l with
    | some a => match ev st c with | some b => amake Γ st t a b K | none => False
    | none => False
  | .call ⟨.builtin .append, args, tys⟩ => match args.toList with
    | [x, y] => match tys.toList with
      | [t, t'] => match Nat.beq t t' with
        | true => match ev st x with
          | some a => match ev st y with | some b => aappendN Γ st t a b K | none => False
          | none => False
        | false => False
      | _ => False
    | _ => False
  | _ => False

/-- where the result goes -/
def putD (st : St) (o : Oper) (a : AVal) (K : St → Prop) : Prop :=
  match o.dst with
  | none => K st
  | some d => match Nat.blt d st.sz with
    | true => K (st.put d a)
    | false => False

def isNQ (o : Oper) : Bool :=
  match o.op with
  | .alloc _ | .box .. | .buildSlice .. | .store .. | .makeSlice .. => true
  | .call ⟨.builtin .append, _, _⟩ => true
  | _ => false

def isCall (o : Oper) : Option Call :=
  match o.op with
  | .call ⟨.value f, a, t⟩ => some ⟨.value f, a, t⟩
  | _ => none

/-- a call that only reads what is there: its contract told of closed arguments -/
def acallR (P : Program) (st : St) (c : Call) (K : AVal → St → Prop) : Prop :=
  match callee st c with
  | none => False
  | some (f, args) => match closeArgs st.hp args with
    | none => False
    | some cargs => match hasOwns args with
      | true => ACall P f cargs fun x h => match noSh x && rowsOwn h with
        | true => K (x.shift st.nx) (st.add h)
        | false => False
      | false => ACall P f cargs fun x h => K (x.shift st.nx) (st.add h)

/-- a call, in whatever way it may be gone on from -/
structure ACallS (P : Program) (st : St) (f : FuncId) (args : List AVal) (K : AVal → St → Prop) : Prop where
  fok : FOk P f
  run : ∀ w0 ob a w η, SRep w0 ob st a w η → ∀ vs, VReps w (fun b => ob b ∨ ownB st.hp η b) st.hp st.nx η args vs →
    Calls P f vs.toArray w fun e w' => ∃ v x st' η', e = .returned v ∧ K x st' ∧ st'.sz = st.sz ∧ SRep w0 ob st' a w' η' ∧ VRep w' (fun b => ob b ∨ ownB st'.hp η' b) st'.hp st'.nx η' x v

/-! ### states in plain form -/
def frN (n : Nat) (K : Nat → Prop) : Prop :=
  @Nat.rec (fun _ => Nat → Prop) (fun acc => K acc) (fun _ ih acc => ih (Nat.succ acc)) n 0

def frA (x : AVal) : (AVal → Prop) → Prop :=
  @AVal.rec (fun _ => (AVal → Prop) → Prop) (fun _ => (List AVal → Prop) → Prop)
    (fun K => K .un) (fun v K => K (.c v)) (fun t K => K (.t t)) (fun _ ih K => ih fun l => K (.ag l)) (fun _ ih K => ih fun l => K (.tu l))
    (fun k K => frN k fun k => K (.own k)) (fun k i K => frN k fun k => K (.sub k i)) (fun k o K => frN k fun k => K (.ptr k o)) (fun k i j K => frN k fun k => K (.subp k i j))
    (fun t i K => K (.adr t i)) (fun _ o ih K => ih fun l => K (.rp l o)) (fun f l _ K => K (.clo f l)) (fun f l n _ K => K (.knot f l n)) (fun K => K .nul)
    (fun K => K []) (fun _ _ iha ihl K => iha fun a => ihl fun l => K (a :: l)) x

def frL (x : List AVal) : (List AVal → Prop) → Prop :=
  @List.rec AVal (fun _ => (List AVal → Prop) → Prop) (fun K => K []) (fun a _ ih K => frA a fun a => ih fun l => K (a :: l)) x

def frR (r : ARow) (K : ARow → Prop) : Prop :=
  match r with
  | .ints e k l => K (.ints e k l)
  | .rows e e1 true m => K (.rows e e1 true m)
  | .rows e e1 false m => K (.rows e e1 false m)
  | .cells e l => frL l fun l => K (.cells e l)
  | .recs e s L => K (.recs e s L)

def memN (i : Nat) : List Nat → Bool
  | [] => false
  | j :: r => match Nat.beq j i with | true => true | false => memN i r

def frS (l : List (Nat × AVal)) : List Nat → (List (Nat × AVal) → Prop) → Prop :=
  @List.rec (Nat × AVal) (fun _ => List Nat → (List (Nat × AVal) → Prop) → Prop) (fun _ K => K [])
    (fun p _ ih seen K => match p with
      | (i, a) => match memN i seen with
        | true => ih seen K
        | false => frA a fun a => ih (i :: seen) fun r => K ((i, a) :: r)) l

/-- slots' numbers too -/
def frG (l : List (Nat × AVal)) : (List (Nat × AVal) → Prop) → Prop :=
  @List.rec (Nat × AVal) (fun _ => (List (Nat × AVal) → Prop) → Prop) (fun K => K [])
    (fun p _ ih K => match p with
      | (i, a) => frN i fun i => frA a fun a => ih fun r => K ((i, a) :: r)) l

def frH (l : List (Nat × ARow)) : (List (Nat × ARow) → Prop) → Prop :=
  @List.rec (Nat × ARow) (fun _ => (List (Nat × ARow) → Prop) → Prop) (fun K => K [])
    (fun p _ ih K => match p with
      | (i, r) => frN i fun i => frR r fun a => ih fun r => K ((i, a) :: r)) l

/-- the frame's size is a number of the text -/
def frV (n : Nat) (K : Nat → Prop) : Prop :=
  match n with
  | 0 => K 0
  | Nat.succ m => K (Nat.succ m)

def frSt (st : St) (K : St → Prop) : Prop :=
  frV st.sz fun sz => frS st.sl [] fun sl => frH st.hp fun hp => frN st.nx fun nx => K ⟨sz, sl, hp, nx⟩

def acall (P : Program) (st : St) (c : Call) (K : AVal → St → Prop) : Prop :=
  match callee st c with
  | none => False
  | some (f, args) => frSt st fun st => frL args fun args => ACallS P st f args K

def qcall (P : Program) (st : St) (c : Call) (K : AVal → Prop) : Prop :=
  match callee st c with
  | none => False
  | some (f, args) => match closeArgs st.hp args with
    | none => False
    | some cargs => QCall P f cargs K

/-- guards: decided ones are remembered by their slots -/
def aguard (ops : List Oper) (st : St) (dec : List (Nat × Bool)) (o : Oper) (yes no : List (Nat × Bool) → Prop) : Prop :=
  match o.guard with
  | none => yes dec
  | some (j, want) => match nth ops j with
    | some oj => match oj.dst with
      | some d => match look dec d with
        | some b => match b, want with
          | true, true | false, false => yes dec
          | _, _ => no dec
        | none => match lk st d with
          | some (.c (.bool b)) => match want with
            | true => (b = true → yes ((d, true) :: dec)) ∧ (b = false → no ((d, false) :: dec))
            | false => (b = false → yes ((d, false) :: dec)) ∧ (b = true → no ((d, true) :: dec))
          | some (.tu []) => no dec
          | _ => False
      | none => False
    | none => False

def decOf (dec : List (Nat × Bool)) (c : Operand) : Option Bool :=
  match c with
  | .tmp t => look dec t
  | _ => none

/-- 'pick', with the decided guards -/
def apick (st : St) (dec : List (Nat × Bool)) (c a b : Operand) (K : AVal → Prop) : Prop :=
  match decOf dec c with
  | some true => match ev st a with | some v => K v | none => False
  | some false => match ev st b with | some v => K v | none => False
  | none => match ev st c with
    | some (.c (.bool t)) => (t = true → match ev st a with | some v => K v | none => False) ∧ (t = false → match ev st b with | some v => K v | none => False)
    | _ => False

def isPick (o : Oper) : Option (Operand × Operand × Operand) :=
  match o.op with
  | .pick c a b => some (c, a, b)
  | _ => none

def decOff (o : Oper) (dec : List (Nat × Bool)) : List (Nat × Bool) :=
  match o.dst with
  | some d => rem d dec
  | none => dec

/-- the quiet head of a region that draws its order ('rec' by hand: the kernel then meets the very terms that the elaborator leaves) -/
def aqlist (P : Program) (Γ : Tys) (ops : List Oper) (l : List Oper) (st : St) (dec : List (Nat × Bool)) (K : St → List (Nat × Bool) → Prop) : Prop :=
  @List.rec Oper (fun _ => St → List (Nat × Bool) → Prop) K
    (fun o _ ih st dec =>
      aguard ops st dec o
        (fun dec => match isPick o with
          | some (c, a, b) => apick st dec c a b fun v => putD st o v fun st' => ih st' (decOff o dec)
          | none => match isCall o with
            | some c => qcall P st c fun v => putD st o v fun st' => ih st' (decOff o dec)
            | none => aq Γ st o fun v => putD st o v fun st' => ih st' (decOff o dec))
        (fun dec => putD st o (.tu []) fun st' => ih st' (decOff o dec))) l st dec

/-- a row of the call's own is cut: its head stays the call's own, its tail is read-only from here on -/
def cutOf (st : St) (o : Oper) : Option (Nat × Nat × Option Operand × Option Operand) :=
  match o.op with
  | .slice t x lo hi none => match ev st x with
    | some (.own k) => some (t, k, lo, hi)
    | _ => none
  | _ => none

def acut (Γ : Tys) (st : St) (t k : Nat) (lo hi : Option Operand) (K : AVal → St → Prop) : Prop :=
  match look Γ t with
  | some ⟨.slice e, _, _, _⟩ => match look Γ e with
    | some ⟨_, 1, _, _⟩ => match lo with
      | none => match hi with
        | some y => match ev st y with
          | some (.c (.int _ n)) => match look st.hp k with
            | some (.ints e0 kd l) => ∃ h : Nat, n = (h : Int) ∧ h ≤ l.length ∧ K (.own k) ((st.kill k).upd k (.ints e0 kd (l.take h)))
            | _ => False
          | _ => False
        | none => False
      | some x => match hi with
        | none => match ev st x with
          | some (.c (.int _ n)) => match look st.hp k with
            | some (.rows _ _ true m) => ∃ h : Nat, n = (h : Int) ∧ h ≤ m.length ∧ K (.t (.rows (m.drop h))) (st.del k)
            | _ => False
          | _ => False
        | some _ => False
    | _ => False
  | _ => False

def alist (P : Program) (Γ : Tys) (ops : List Oper) (l : List Oper) (st : St) (dec : List (Nat × Bool)) (K : St → Prop) : Prop :=
  @List.rec Oper (fun _ => St → List (Nat × Bool) → Prop) (fun st _ => K st)
    (fun o _ ih st dec =>
      aguard ops st dec o
        (fun dec => match isPick o with
          | some (c, a, b) => apick st dec c a b fun v => putD st o v fun st' => ih st' (decOff o dec)
          | none => match isCall o with
            | some c => acall P st c fun v st' => putD st' o v fun st'' => ih st'' (decOff o dec)
            | none => match isNQ o with
              | true => an Γ st o fun v st' => putD st' o v fun st'' => ih st'' (decOff o dec)
              | false => match cutOf st o with
                | some (t, k, lo, hi) => acut Γ st t k lo hi fun v st' => putD st' o v fun st'' => ih st'' (decOff o dec)
                | none => aq Γ st o fun v => putD st o v fun st' => ih st' (decOff o dec))
        (fun dec => putD st o (.tu []) fun st' => ih st' (decOff o dec))) l st dec

theorem aqlist_cons {P : Program} {Γ : Tys} {ops : List Oper} {o : Oper} {r : List Oper} {st : St} {dec : List (Nat × Bool)} {K : St → List (Nat × Bool) → Prop} :
    aqlist P Γ ops (o :: r) st dec K = aguard ops st dec o
        (fun dec => match isPick o with
          | some (c, a, b) => apick st dec c a b fun v => putD st o v fun st' => aqlist P Γ ops r st' (decOff o dec) K
          | none => match isCall o with
            | some c => qcall P st c fun v => putD st o v fun st' => aqlist P Γ ops r st' (decOff o dec) K
            | none => aq Γ st o fun v => putD st o v fun st' => aqlist P Γ ops r st' (decOff o dec) K)
        (fun dec => putD st o (.tu []) fun st' => aqlist P Γ ops r st' (decOff o dec) K) := rfl

theorem alist_cons {P : Program} {Γ : Tys} {ops : List Oper} {o : Oper} {r : List Oper} {st : St} {dec : List (Nat × Bool)} {K : St → Prop} :
    alist P Γ ops (o :: r) st dec K = aguard ops st dec o
        (fun dec => match isPick o with
          | some (c, a, b) => apick st dec c a b fun v => putD st o v fun st' => alist P Γ ops r st' (decOff o dec) K
          | none => match isCall o with
            | some c => acall P st c fun v st' => putD st' o v fun st'' => alist P Γ ops r st'' (decOff o dec) K
            | none => match isNQ o with
              | true => an Γ st o fun v st' => putD st' o v fun st'' => alist P Γ ops r st'' (decOff o dec) K
              | false => match cutOf st o with
                | some (t, k, lo, hi) => acut Γ st t k lo hi fun v st' => putD st' o v fun st'' => alist P Γ ops r st'' (decOff o dec) K
                | none => aq Γ st o fun v => putD st o v fun st' => alist P Γ ops r st' (decOff o dec) K)
        (fun dec => putD st o (.tu []) fun st' => alist P Γ ops r st' (decOff o dec) K) := rfl

/-- a region that draws its order, in the ways that need no thought: all of it only reads; or a head that only reads, then a forced tail -/
def astd (P : Program) (Γ : Tys) (ops : Array Oper) (st : St) (K : St → Prop) : Prop :=
  match Nat.beq (headLen Γ ops.toList) ops.toList.length with
  | true => Region.lexB .any ops = true ∧ aqlist P Γ ops.toList ops.toList st [] fun st' _ => K st'
  | false => Region.lexTailB .any ops (headLen Γ ops.toList) = true ∧
      aqlist P Γ ops.toList (ops.toList.take (headLen Γ ops.toList)) st [] fun st' dec => alist P Γ ops.toList (ops.toList.drop (headLen Γ ops.toList)) st' dec K

structure ADraw (P : Program) (ops : Array Oper) (st : St) (K : St → Prop) : Prop where
  run : ∀ id w0 ob a w, StRep w0 ob st a w → (Code.region id ops true).wp P (fun e a' w' => e = .normal ∧ ∃ st', K st' ∧ StRep w0 ob st' a' w') a w

/-- 'x[i] = append(x[i], ..)': see the text AwU -/
def appSet (l : List Oper) : Bool :=
  match l with
  | [_, _, _, o, _, o1, _, o3] => match o.op with
    | .load .. => match o1.op with
      | .call ⟨.builtin .append, _, _⟩ => match o3.op with
        | .store .. => true
        | _ => false
      | _ => false
    | _ => false
  | _ => false

structure ASet (P : Program) (ops : Array Oper) (st : St) (K : St → Prop) : Prop where
  run : ∀ id w0 ob a w, StRep w0 ob st a w → (Code.region id ops false).wp P (fun e a' w' => e = .normal ∧ ∃ st', K st' ∧ StRep w0 ob st' a' w') a w

def aregion (P : Program) (Γ : Tys) (ops : Array Oper) (draw : Bool) (st : St) (K : St → Prop) : Prop :=
  match draw with
  | false => match appSet ops.toList with
    | false => alist P Γ ops.toList ops.toList st [] K
    | true => ASet P ops st K
  | true => ADraw P ops st K

/-- what is behind code that is run from the states told by 'st' -/
def lift (w0 : Base) (obad : Nat → Prop) (K : Exit → St → Prop) (e : Exit) (a : Act) (w : World) : Prop := ∃ st, K e st ∧ StRep w0 obad st a w

structure ALoop (P : Program) (b : Code) (st : St) (K : Exit → St → Prop) : Prop where
  run : ∀ w0 obad a w, StRep w0 obad st a w → (Code.loop b).wp P (lift w0 obad K) a w

def acode (P : Program) (Γ : Tys) (c : Code) : St → (Exit → St → Prop) → Prop :=
  @Code.rec (fun _ => St → (Exit → St → Prop) → Prop)
    (fun st K => K .normal st)
    (fun _ ops d st K => aregion P Γ ops d st fun st => frSt st (K .normal))
    (fun _ _ iha ihb st K => iha st fun e st' => match e with | .normal => ihb st' K | e => K e st')
    (fun c _ _ iha ihb st K => match ev st c with
      | some (.c (.bool t)) => (t = true → iha st K) ∧ (t = false → ihb st K)
      | _ => False)
    (fun id _ ih st K => ih st fun e st' => match e with
      | .exit id' => match Nat.beq id' id with | true => K .normal st' | false => K (.exit id') st'
      | e => K e st')
    (fun b _ st K => ALoop P b st K)
    (fun _ _ _ _ _ _ _ _ => False)
    (fun id st K => K (.exit id) st)
    (fun _ _ _ _ => False)
    (fun _ st K => K .normal st)
    (fun _ _ _ => False)
    (fun st K => K .ret st)
    (fun _ _ _ => False) c

theorem acode_cond {P : Program} {Γ : Tys} {c : Operand} {x y : Code} {st : St} {K : Exit → St → Prop} : acode P Γ (.cond c x y) st K = (match ev st c with
      | some (.c (.bool t)) => (t = true → acode P Γ x st K) ∧ (t = false → acode P Γ y st K)
      | _ => False) := rfl

end Go.Aw
