/- A region that draws its order, by a plan: what only reads is taken as it comes up, calls in every order. -/
import Derived.Test.YtkjdplglenjijaaM1
import Derived.Test.YtkjdplglenjijaaProg
namespace Go.Aw
open Go.RowKit

/-- an order of going on: 'q' takes one that only reads; 'alt' .. 'last' go through all that may be next -/
inductive Plan where
  | done
  | q (i : Nat) (p : Plan)
  | last (i : Nat) (p : Plan)
  | alt (i : Nat) (p rest : Plan)
  | inl (i : Nat) (p : Plan)
  | alti (i : Nat) (p rest : Plan)
  | ql (i : Nat) (p : Plan)

def Plan.ok (fr : Bool) (xs : List Nat) (ops : Array Oper) : Plan → Array Bool → Option (List Nat) → Bool
  | .done, listed, none => (Region.ready .any ops listed).isEmpty
  | .q i p, listed, none => (Region.ready .any ops listed).contains i && Region.free .any ops listed i && calm xs .any ops i && p.ok fr xs ops (listed.setIfInBounds i true) none
  | .last i p, listed, todo => (match todo.getD (Region.ready .any ops listed) with | [j] => j == i | _ => false) && p.ok fr xs ops (listed.setIfInBounds i true) none
  | .alt i p rest, listed, todo => match todo.getD (Region.ready .any ops listed) with
    | j :: t => j == i && p.ok fr xs ops (listed.setIfInBounds i true) none && rest.ok fr xs ops listed (some t)
    | [] => false
  | .inl i p, listed, todo => xs.contains i && (match todo.getD (Region.ready .any ops listed) with | [j] => j == i | _ => false) && p.ok fr xs ops (listed.setIfInBounds i true) none
  | .alti i p rest, listed, todo => match todo.getD (Region.ready .any ops listed) with
    | j :: t => xs.contains i && j == i && p.ok fr xs ops (listed.setIfInBounds i true) none && rest.ok fr xs ops listed (some t)
    | [] => false
  | .ql i p, listed, none => (Region.ready .any ops listed).contains i && Region.free .any ops listed i && calmC 1 fr xs .any ops i && p.ok fr xs ops (listed.setIfInBounds i true) none
  | _, _, _ => false

def Plan.deep : Plan → Nat
  | .done => 0
  | .q _ p => p.deep + 1
  | .last _ p => p.deep + 1
  | .alt _ p rest => max (p.deep + 1) rest.deep
  | .inl _ p => p.deep + 1
  | .alti _ p rest => max (p.deep + 1) rest.deep
  | .ql _ p => p.deep + 1

/-- a call, in such a region -/
def astep (P : Program) (Γ : Tys) (ops : List Oper) (i : Nat) (st : St) (dec : List (Nat × Bool)) (K : St → List (Nat × Bool) → Prop) : Prop :=
  match nth ops i with
  | none => False
  | some o => aguard ops st dec o
      (fun dec => match isPick o with
        | some (c, a, b) => apick st dec c a b fun v => putD st o v fun st' => K st' (decOff o dec)
        | none => match isCall o with
          | some c => acallR P st c fun v st' => putD st' o v fun st'' => K st'' (decOff o dec)
          | none => match isNQ o with
            | true => an Γ st o fun v st' => putD st' o v fun st'' => K st'' (decOff o dec)
            | false => match cutOf st o with
              | some (t, k, lo, hi) => acut Γ st t k lo hi fun v st' => putD st' o v fun st'' => K st'' (decOff o dec)
              | none => aq Γ st o fun v => putD st o v fun st' => K st' (decOff o dec))
      (fun dec => putD st o (.tu []) fun st' => K st' (decOff o dec))

/-- a call that may write rows of its caller, in such a region -/
def astepI (P : Program) (ops : List Oper) (i : Nat) (st : St) (dec : List (Nat × Bool)) (K : St → List (Nat × Bool) → Prop) : Prop :=
  match nth ops i with
  | none => False
  | some o => match o.guard with
    | some _ => False
    | none => match isCall o with
      | some c => acall P st c fun v st' => putD st' o v fun st'' => K st'' (decOff o dec)
      | none => False

/-- a call that of what is there writes but the row 0 -/
structure ACallT (P : Program) (st : St) (f : FuncId) (args : List AVal) (K : AVal → St → Prop) : Prop where
  fok : FOk P f
  run : ∀ w0 ob a w η, SRep w0 ob st a w η → ∀ vs, VReps w (fun b => ob b ∨ ownB st.hp η b) st.hp st.nx η args vs →
    Calls P f vs.toArray w fun e w' => (∃ v x st' η', e = .returned v ∧ K x st' ∧ st'.sz = st.sz ∧ SRep w0 ob st' a w' η' ∧ VRep w' (fun b => ob b ∨ ownB st'.hp η' b) st'.hp st'.nx η' x v) ∧
      w.heap.size ≤ w'.heap.size ∧ ∀ r, look st.hp 0 = some r → ∀ b, b < w.heap.size → b ∉ bsOf η 0 r → w'.heap[b]? = w.heap[b]?

/-- slot z lies behind the frame and points to row 0 -/
def gho (z : Nat) (st : St) (K : Prop) : Prop :=
  match look st.sl z with
  | some (.ptr 0 0) => match look st.hp 0 with
    | some (.cells _ _) => match Nat.ble st.sz z with
      | true => K
      | false => False
    | _ => False
  | _ => False

def acallT (P : Program) (z : Nat) (st : St) (c : Call) (K : AVal → St → Prop) : Prop :=
  match callee st c with
  | none => False
  | some (f, args) => gho z st (frSt st fun st => frL args fun args => ACallT P st f args K)

def astepT (P : Program) (z : Nat) (ops : List Oper) (i : Nat) (st : St) (dec : List (Nat × Bool)) (K : St → List (Nat × Bool) → Prop) : Prop :=
  match nth ops i with
  | none => False
  | some o => match o.guard with
    | some _ => False
    | none => match isCall o with
      | some c => acallT P z st c fun v st' => putD st' o v fun st'' => K st'' (decOff o dec)
      | none => False

/-- a cell of a row of the call's own (not row 0) is read -/
def aloadC (Γ : Tys) (z : Nat) (st : St) (t : Nat) (x : Operand) (K : AVal → Prop) : Prop :=
  match ev st x with
  | some (.ptr k off) => match k with
    | 0 => False
    | k + 1 => match look st.hp (k + 1) with
      | some (.cells _ l) => match look Γ t with
        | some ti => match ti.d.agg with
          | false => match nth l off with
            | some y => gho z st (K y)
            | none => False
          | true => False
        | none => False
      | _ => False
  | _ => False

def areadL (Γ : Tys) (z : Nat) (ops : List Oper) (i : Nat) (st : St) (dec : List (Nat × Bool)) (K : St → List (Nat × Bool) → Prop) : Prop :=
  match nth ops i with
  | none => False
  | some o => match o.guard with
    | some _ => False
    | none => match o.op with
      | .load t x => aloadC Γ z st t x fun v => putD st o v fun st' => K st' (decOff o dec)
      | _ => False

/-- an operation that only reads -/
def aread (Γ : Tys) (ops : List Oper) (i : Nat) (st : St) (dec : List (Nat × Bool)) (K : St → List (Nat × Bool) → Prop) : Prop :=
  match nth ops i with
  | none => False
  | some o => aguard ops st dec o
      (fun dec => match isPick o with
        | some (c, a, b) => apick st dec c a b fun v => putD st o v fun st' => K st' (decOff o dec)
        | none => match isCall o with
          | some _ => False
          | none => aq Γ st o fun v => putD st o v fun st' => K st' (decOff o dec))
      (fun dec => putD st o (.tu []) fun st' => K st' (decOff o dec))

def apl (P : Program) (Γ : Tys) (tz : Option Nat) (ops : List Oper) (K : St → Prop) (p : Plan) : St → List (Nat × Bool) → Prop :=
  @Plan.rec (fun _ => St → List (Nat × Bool) → Prop)
    (fun st _ => K st)
    (fun i _ ih st dec => aread Γ ops i st dec ih)
    (fun i _ ih st dec => astep P Γ ops i st dec ih)
    (fun i _ _ ih ih' st dec => astep P Γ ops i st dec ih ∧ ih' st dec)
    (fun i _ ih st dec => match tz with | none => astepI P ops i st dec ih | some z => astepT P z ops i st dec ih)
    (fun i _ _ ih ih' st dec => (match tz with | none => astepI P ops i st dec ih | some z => astepT P z ops i st dec ih) ∧ ih' st dec)
    (fun i _ ih st dec => match tz with | none => False | some z => areadL Γ z ops i st dec ih) p

section
variable {P : Program} {Γ : Tys} {w0 : Base} {w w' : World} {ob : Nat → Prop} {st : St} {a : Act} {η : Env} {ops : Array Oper} {xs : List Nat} {fr : Bool} {g : Value}

def Fin (w0 : Base) (ob : Nat → Prop) (K : St → Prop) (a : Act) (w : World) : Prop := ∃ st η, K st ∧ SRep w0 ob st a w η

theorem yields_mf {o : Oper} {v : Value} (hy : Yields1 P w a o v) : ∀ w', (mfOp0 o = true ∨ Below w.heap.size w w') → (execOp a.eval o).run P w' = .ok (.value v) w' := by
  intro w' h
  rcases h with h | h
  · have h0 := hy w (Below.refl _ _)
    obtain ⟨dst, op, type, pos, after, guard⟩ := o
    unfold mfOp0 at h
    split at h
    case h_1 x hx =>
      simp only at hx
      subst hx
      simp only [execOp, Sem.run_pure, Result.ok.injEq] at h0 ⊢
      exact ⟨h0.1, trivial⟩
    case h_2 x hx =>
      simp only at hx
      subst hx
      simp only [execOp, Sem.run_pure, Result.ok.injEq] at h0 ⊢
      exact ⟨h0.1, trivial⟩
    case h_3 x i hx =>
      simp only at hx
      subst hx
      simp only [execOp, Sem.run_bind, Sem.run_pure] at h0 ⊢
      unfold Instr.extract at h0 ⊢
      split at h0
      case h_1 vs =>
        split at h0
        case h_1 u hu =>
          simp only [Sem.run_pure, Result.andThen_ok, Result.ok.injEq] at h0 ⊢
          exact ⟨h0.1, trivial⟩
        case h_2 => simp at h0
      case h_2 => simp at h0
    case h_4 => cases h
  · exact hy w' h

/-- what looks at no memory yields the same in every world -/
theorem aq_mf (hΓ : TysOk P Γ) (h : SRep w0 ob st a w η) {o : Oper} {K : AVal → Prop} (hk : aq Γ st o K) :
    ∃ v x, K x ∧ VR w ob st η x v ∧ ∀ w', (mfOp o = true ∨ Below w.heap.size w w') → (execOp a.eval o).run P w' = .ok (.value v) w' := by
  by_cases h0 : mfOp o = true ∧ mfOp0 o = false
  · obtain ⟨dst, op, type, pos, after, guard⟩ := o
    cases op <;> simp [mfOp, mfOp0] at h0
    case fieldAddr s x f =>
      have hk : (match ev st x with | some a => afaddr Γ st s a f K | none => False) := hk
      cases hx : ev st x with
      | none => rw [hx] at hk; exact hk.elim
      | some p =>
        rw [hx] at hk
        obtain ⟨v, z, h1, h2, h3⟩ := afaddr_sound hΓ h (ev_sound h hx) hk
        exact ⟨v, z, h1, h2, fun w' _ => by simp [execOp, h3 w']⟩
    case indexAddr t x ix =>
      have hk : (match ev st x with
        | some a => match ev st ix with | some b => aidx Γ st t a b K | none => False
        | none => False) := hk
      cases hx : ev st x with
      | none => rw [hx] at hk; exact hk.elim
      | some p =>
        rw [hx] at hk
        cases hy : ev st ix with
        | none => rw [hy] at hk; exact hk.elim
        | some q =>
          rw [hy] at hk
          obtain ⟨v, z, h1, h2, h3⟩ := aidx_sound hΓ h (ev_sound h hx) (ev_sound h hy) hk
          exact ⟨v, z, h1, h2, fun w' _ => by simp [execOp, h3 w']⟩
  · obtain ⟨v, z, h1, h2, h3⟩ := aq_sound hΓ h hk
    refine ⟨v, z, h1, h2, fun w' hw => yields_mf h3 w' (hw.imp (fun hm => ?_) id)⟩
    cases h5 : mfOp0 o with
    | true => rfl
    | false => exact absurd ⟨hm, h5⟩ h0

theorem gho_spec (h : SRep w0 ob st a w η) {z : Nat} {K : Prop} (hk : gho z st K) : K ∧ ∃ e l b, look st.hp 0 = some (.cells e l) ∧ bsOf η 0 (.cells e l) = [b] ∧ blk (w0.γ z) = [b] := by
  unfold gho at hk
  split at hk
  case h_2 => exact hk.elim
  case h_1 hz =>
    split at hk
    case h_2 => exact hk.elim
    case h_1 e l hr =>
      split at hk
      case h_2 => exact hk.elim
      case h_1 hle =>
        have hle := Nat.le_of_ble_eq_true hle
        have hs := h.slot _ _ hz
        rw [Array.getD_eq_getD_getElem?, Array.getElem?_eq_none (by rw [h.size]; exact hle)] at hs
        obtain ⟨_, hs⟩ := (hs : VRep w _ _ _ _ (.ptr 0 0) (w0.γ z))
        obtain ⟨_, b, h1, h2⟩ := hs _ hr
        exact ⟨hk, e, l, b, hr, by simp [bsOf, ARow.kind, h1], by rw [show w0.γ z = _ from h2]; rfl⟩

theorem acallT_sound (h : SRep w0 ob st a w η) {z : Nat} {c : Call} {K : AVal → St → Prop} (hk : acallT P z st c K) {o : Oper} (ho : o.op = .call c) {next : Act → World → Prop} {Q : Exit → Act → World → Prop}
    (hn : ∀ v x st' w' η', K x st' → st'.sz = st.sz → Frm (w0.γ z) w w' → SRep w0 ob st' a w' η' → VR w' ob st' η' x v → next (a.put o.dst v) w') : o.wp P a w next Q := by
  unfold acallT at hk
  split at hk
  case h_1 => exact hk.elim
  case h_2 f args hcal =>
    obtain ⟨hk, e, l, b0, hr0, hb0, hg0⟩ := gho_spec h hk
    obtain ⟨st1, hk, e1, e2, e3, e4⟩ := frSt_spec hk
    rw [frL_eq] at hk
    obtain ⟨vs, hvs, hrun⟩ := callee_run h hcal hk.fok ho
    unfold Oper.wp
    rw [hrun w, Oper.upon_enter]
    refine (hk.run w0 ob a w η (h.same e1 e2 e3 e4) vs (by rw [e2, e3]; exact hvs)).mono ?_
    rintro e' w' ⟨⟨v, x, st', η', rfl, hK, hsz, hs', hv⟩, hsize, hfr⟩
    refine hn v x st' w' η' hK (hsz.trans e1) ⟨hsize, fun b hb hnb => hfr _ (by rw [e2]; exact hr0) b hb (by rw [hb0, ← hg0]; exact hnb)⟩ hs' hv

theorem astepT_sound {z : Nat} {i : Nat} (hxs : xs.contains i = true) (h : SRep w0 ob st a w η) {dec : List (Nat × Bool)} {K : St → List (Nat × Bool) → Prop} (hd : DecOk dec a) (hk : astepT P z ops.toList i st dec K) {next : Act → World → Prop}
    (hn : ∀ st' dec' a' w' η', K st' dec' → SRep w0 ob st' a' w' η' → DecOk dec' a' → next a' w') : wpOp P ops NoQ i (fun a' w' => StpG fr (w0.γ z) xs ops i w w' ∧ next a' w') a w := by
  unfold astepT at hk
  split at hk
  case h_1 => exact hk.elim
  case h_2 o ho =>
    have hoi : ops[i]? = some o := by rw [nth_eq] at ho; simpa using ho
    have hnb : ¬ nbAt xs ops i = false := fun h => by
      simp only [nbAt, hoi, Bool.or_eq_false_iff] at h
      rw [hxs] at h
      exact absurd h.2 (by simp)
    split at hk
    case h_1 => exact hk.elim
    case h_2 hg =>
      split at hk
      case h_2 => exact hk.elim
      case h_1 c hc =>
        have hw : Region.wanted o (yielded ops a.tmps) = true := by unfold Region.wanted; rw [hg]
        unfold wpOp
        simp only [hoi]
        rw [if_pos hw]
        refine .inl ?_
        refine acallT_sound h hk (isCall_op hc) (fun v x st' w' η' hK _ hF hs' hv => ?_)
        obtain ⟨st2, hk2, hs2, _⟩ := putD_sound hs' hK hv
        exact ⟨⟨fun h => absurd h hnb, fun _ => hF⟩, hn _ _ _ _ _ hk2 hs2 (hd.put o v)⟩

theorem aloadC_sound (hΓ : TysOk P Γ) (h : SRep w0 ob st a w η) {z t : Nat} {x : Operand} {K : AVal → Prop} (hk : aloadC Γ z st t x K) :
    ∃ v y, K y ∧ VR w ob st η y v ∧ ∀ w', Frm (w0.γ z) w w' → (Instr.loadAt t (a.eval x)).run P w' = .ok v w' := by
  unfold aloadC at hk
  split at hk
  case h_2 => exact hk.elim
  case h_1 k off hx =>
  split at hk
  case h_1 => exact hk.elim
  case h_2 k =>
  split at hk
  case h_2 => exact hk.elim
  case h_1 e l hr =>
  split at hk
  case h_2 => exact hk.elim
  case h_1 ti hti =>
  split at hk
  case h_2 => exact hk.elim
  case h_1 ha =>
  split at hk
  case h_2 => exact hk.elim
  case h_1 y hy =>
  obtain ⟨hK, e0, l0, b0, hr0, hb0, hg0⟩ := gho_spec h hk
  obtain ⟨_, hp⟩ := (ev_sound h hx : VR w ob st η (.ptr (k + 1) off) (a.eval x))
  obtain ⟨_, b, hb, hval⟩ := hp _ hr
  have hrow := h.heap.row _ _ hr
  obtain ⟨b', h1, h2, h3, h4⟩ := hrow
  obtain ⟨v, hv, hvy⟩ := VReps.nth h4 hy
  have hc := row_cell (h.heap.row _ _ hr) hb hv
  have hmem : b ∈ bsOf η (k + 1) (.cells e l) := by simp [bsOf, ARow.kind, hb]
  have hlt := (RowRep.lt (h.heap.row _ _ hr) b hmem).2
  have hne : b ∉ blk (w0.γ z) := by
    rw [hg0, ← hb0]
    exact h.heap.apart _ _ 0 _ hr hr0 (by omega) b hmem
  refine ⟨v, y, hK, hvy, fun w' hF => ?_⟩
  rw [hval, run_loadAt]
  exact run_loadVar1 (hΓ.at hti) ha (by rw [World.cell?_of_block (w := w) (hF.2 b hlt hne)]; exact hc)

theorem areadL_sound (hΓ : TysOk P Γ) (h : SRep w0 ob st a w η) {z i : Nat} {dec : List (Nat × Bool)} {K : St → List (Nat × Bool) → Prop} (hd : DecOk dec a) (hk : areadL Γ z ops.toList i st dec K) :
    ∃ o v, ops[i]? = some o ∧ YieldsNC P ops (w0.γ z) 1 w o v a ∧ ∃ st' dec', K st' dec' ∧ SRep w0 ob st' (a.put o.dst v) w η ∧ DecOk dec' (a.put o.dst v) := by
  unfold areadL at hk
  split at hk
  case h_1 => exact hk.elim
  case h_2 o ho =>
    have hoi : ops[i]? = some o := by rw [nth_eq] at ho; simpa using ho
    split at hk
    case h_1 => exact hk.elim
    case h_2 hg =>
      split at hk
      case h_2 => exact hk.elim
      case h_1 t x hop =>
        have hw : Region.wanted o (yielded ops a.tmps) = true := by unfold Region.wanted; rw [hg]
        obtain ⟨v, q, hq, hv, hy⟩ := aloadC_sound hΓ h hk
        obtain ⟨st2, hk2, hs2, _⟩ := putD_sound h hq hv
        exact ⟨o, v, hoi, .inl ⟨hw, fun w' hF => by simp [execOp, hop, hy w' hF]⟩, st2, _, hk2, hs2, hd.put o v⟩

theorem aread_sound (hΓ : TysOk P Γ) (h : SRep w0 ob st a w η) {i : Nat} {dec : List (Nat × Bool)} {K : St → List (Nat × Bool) → Prop} (hd : DecOk dec a) (hk : aread Γ ops.toList i st dec K) :
    ∃ o v, ops[i]? = some o ∧ YieldsNC P ops g (if mfOp o then 2 else 0) w o v a ∧ ∃ st' dec', K st' dec' ∧ SRep w0 ob st' (a.put o.dst v) w η ∧ DecOk dec' (a.put o.dst v) := by
  unfold aread at hk
  split at hk
  case h_1 => exact hk.elim
  case h_2 o ho =>
    have hoi : ops[i]? = some o := by rw [nth_eq] at ho; simpa using ho
    obtain ⟨dec', hdec', hg⟩ := aguard_sound h hd hk
    rcases hg with ⟨hw, hk⟩ | ⟨hw, hk⟩
    · split at hk
      case h_1 c x y hp =>
        obtain ⟨v, q, hq, hv, hy⟩ := apick_sound (P := P) h hdec' (isPick_op hp) hk
        obtain ⟨st2, hk2, hs2, _⟩ := putD_sound h hq hv
        have hm : mfOp o = false := by simp [mfOp, isPick_op hp]
        exact ⟨o, v, hoi, .inl ⟨hw, fun w' hw' => hy w' (by simpa [hm, Rl] using hw')⟩, st2, _, hk2, hs2, hdec'.put o v⟩
      case h_2 =>
        split at hk
        case h_1 => exact hk.elim
        case h_2 =>
          obtain ⟨v, q, hq, hv, hy⟩ := aq_mf hΓ h hk
          obtain ⟨st2, hk2, hs2, _⟩ := putD_sound h hq hv
          exact ⟨o, v, hoi, .inl ⟨hw, fun w' hw' => hy w' (by
            cases hm : mfOp o with
            | true => exact .inl rfl
            | false => exact .inr (by simpa [hm, Rl] using hw'))⟩, st2, _, hk2, hs2, hdec'.put o v⟩
    · obtain ⟨st2, hk2, hs2, _⟩ := putD_sound h hk (undef_rep st)
      exact ⟨o, undef, hoi, .inr ⟨hw, rfl⟩, _, _, hk2, hs2, hdec'.put o undef⟩

theorem astep_sound (hΓ : TysOk P Γ) (h : SRep w0 ob st a w η) {i : Nat} {dec : List (Nat × Bool)} {K : St → List (Nat × Bool) → Prop} (hd : DecOk dec a) (hk : astep P Γ ops.toList i st dec K) {next : Act → World → Prop}
    (hn : ∀ st' dec' a' w' η', K st' dec' → StpG fr g xs ops i w w' → SRep w0 ob st' a' w' η' → DecOk dec' a' → next a' w') : wpOp P ops NoQ i next a w := by
  unfold astep at hk
  split at hk
  case h_1 => exact hk.elim
  case h_2 o ho =>
    have hoi : ops[i]? = some o := by rw [nth_eq] at ho; simpa using ho
    obtain ⟨dec', hdec', hg⟩ := aguard_sound h hd hk
    unfold wpOp
    simp only [hoi]
    rcases hg with ⟨hw, hk⟩ | ⟨hw, hk⟩
    · rw [if_pos hw]
      refine .inl ?_
      split at hk
      case h_1 c x y hp =>
        obtain ⟨v, q, hq, hv, hy⟩ := apick_sound (P := P) h hdec' (isPick_op hp) hk
        obtain ⟨st2, hk2, hs2, _⟩ := putD_sound h hq hv
        exact wp_of_yields hy (hn _ _ _ _ _ hk2 (.below (Below.refl _ _)) hs2 (hdec'.put o v))
      case h_2 =>
        split at hk
        case h_1 c hc =>
          refine acallR_sound h hk (isCall_op hc) (fun v x st' w' η' hK _ hb hs' hv => ?_)
          obtain ⟨st2, hk2, hs2, _⟩ := putD_sound hs' hK hv
          exact hn _ _ _ _ _ hk2 (.below hb) hs2 (hdec'.put o v)
        case h_2 =>
          split at hk
          case h_2 =>
            split at hk
            case h_1 t k lo hi hcut =>
              obtain ⟨v, x, st', η', hK, _, hs', hv, hrun⟩ := acut_sound hΓ h hcut hk
              obtain ⟨st2, hk2, hs2, _⟩ := putD_sound hs' hK hv
              have := hn _ _ _ _ _ hk2 (.below (Below.refl _ _)) hs2 (hdec'.put o v)
              unfold Oper.wp
              rw [hrun, Oper.upon_value]; exact this
            case h_2 =>
            obtain ⟨v, q, hq, hv, hy⟩ := aq_sound hΓ h hk
            obtain ⟨st2, hk2, hs2, _⟩ := putD_sound h hq hv
            exact wp_of_yields hy (hn _ _ _ _ _ hk2 (.below (Below.refl _ _)) hs2 (hdec'.put o v))
          case h_1 hnq =>
            have hnb : nbAt xs ops i = false → nbOp o = false := fun h => by simp only [nbAt, hoi, Bool.or_eq_false_iff] at h; exact h.1
            have hnf : nfAt fr xs ops i = false → nbOp o = false := fun h => by simp only [nfAt, hoi, Bool.or_eq_false_iff] at h; exact h.1
            obtain ⟨v, x, st', w', η', hK, _, hs', hv, hrun, hbw⟩ := an_sound hΓ h hk
            obtain ⟨st2, hk2, hs2, _⟩ := putD_sound hs' hK hv
            have := hn _ _ _ _ _ hk2 ⟨fun hf => hbw (hnb hf), fun hf => (StpG.below (fr := fr) (g := g) (xs := []) (ops := #[]) (i := 0) (hbw (hnf hf))).2 rfl⟩ hs2 (hdec'.put o v)
            unfold Oper.wp
            rcases hrun with hrun | ⟨hrun, rfl⟩
            · rw [hrun, Oper.upon_value]; exact this
            · rw [hrun, Oper.upon_skip]; exact this
    · rw [if_neg (by rw [hw]; simp)]
      obtain ⟨st2, hk2, hs2, _⟩ := putD_sound h hk (undef_rep st)
      exact hn _ _ _ _ _ hk2 (.below (Below.refl _ _)) hs2 (hdec'.put o undef)

theorem astepI_sound {i : Nat} (hfr : fr = false) (hxs : xs.contains i = true) (h : SRep w0 ob st a w η) {dec : List (Nat × Bool)} {K : St → List (Nat × Bool) → Prop} (hd : DecOk dec a) (hk : astepI P ops.toList i st dec K) {next : Act → World → Prop}
    (hn : ∀ st' dec' a' w' η', K st' dec' → SRep w0 ob st' a' w' η' → DecOk dec' a' → next a' w') : wpOp P ops NoQ i (fun a' w' => StpG fr g xs ops i w w' ∧ next a' w') a w := by
  unfold astepI at hk
  split at hk
  case h_1 => exact hk.elim
  case h_2 o ho =>
    have hoi : ops[i]? = some o := by rw [nth_eq] at ho; simpa using ho
    have hnb : ¬ nbAt xs ops i = false := fun h => by
      simp only [nbAt, hoi, Bool.or_eq_false_iff] at h
      rw [hxs] at h
      exact absurd h.2 (by simp)
    split at hk
    case h_1 => exact hk.elim
    case h_2 hg =>
      split at hk
      case h_2 => exact hk.elim
      case h_1 c hc =>
        have hw : Region.wanted o (yielded ops a.tmps) = true := by unfold Region.wanted; rw [hg]
        unfold wpOp
        simp only [hoi]
        rw [if_pos hw]
        refine .inl ?_
        refine acall_sound h hk (isCall_op hc) (fun v x st' w' η' hK _ hs' hv => ?_)
        obtain ⟨st2, hk2, hs2, _⟩ := putD_sound hs' hK hv
        exact ⟨⟨fun h => absurd h hnb, fun h => by simp only [nfAt, hoi, hfr, Bool.or_eq_false_iff, Bool.not_false, Bool.true_and] at h; rw [hxs] at h; exact absurd h.2 (by simp)⟩, hn _ _ _ _ _ hk2 hs2 (hd.put o v)⟩

def frO (tz : Option Nat) : Bool := match tz with | none => false | some _ => true
def gO (w0 : Base) (tz : Option Nat) : Value := match tz with | none => undef | some z => w0.γ z
theorem astepX_sound {tz : Option Nat} {i : Nat} (hxs : xs.contains i = true) (h : SRep w0 ob st a w η) {dec : List (Nat × Bool)} {K : St → List (Nat × Bool) → Prop} (hd : DecOk dec a)
    (hk : match tz with | none => astepI P ops.toList i st dec K | some z => astepT P z ops.toList i st dec K) {next : Act → World → Prop}
    (hn : ∀ st' dec' a' w' η', K st' dec' → SRep w0 ob st' a' w' η' → DecOk dec' a' → next a' w') : wpOp P ops NoQ i (fun a' w' => StpG (frO tz) (gO w0 tz) xs ops i w w' ∧ next a' w') a w := by
  cases tz with
  | none => exact astepI_sound rfl hxs h hd hk hn
  | some z => exact astepT_sound hxs h hd hk hn

theorem clo_none (ops : Array Oper) : Clo .any ops (Array.replicate ops.size false) := fun j o _ hj => by
  simp only [Array.getD_eq_getD_getElem?, Array.getElem?_replicate] at hj
  split at hj <;> simp at hj

theorem apl_sound {tz : Option Nat} (hΓ : TysOk P Γ) (hsel : Region.noSelect ops = true) {K : St → Prop} : ∀ (p : Plan) (listed : Array Bool) (todo : Option (List Nat)) (f : Nat) (st : St) (dec : List (Nat × Bool)) (a : Act) (w : World) (η : Env),
    p.ok (frO tz) xs ops listed todo = true → p.deep ≤ f → Clo .any ops listed → (∀ t, todo = some t → ∀ i ∈ t, i ∈ Region.ready .any ops listed) → SRep w0 ob st a w η → DecOk dec a → apl P Γ tz ops.toList K p st dec →
      (todo = none → wpG (frO tz) (gO w0 tz) xs P .any ops (Fin w0 ob K) f listed a w) ∧
      ∀ t, todo = some t → ∃ f', f = f' + 1 ∧ ∀ i ∈ t, wpOp P ops NoQ i (fun a' w' => StpG (frO tz) (gO w0 tz) xs ops i w w' ∧ wpG (frO tz) (gO w0 tz) xs P .any ops (Fin w0 ob K) f' (listed.setIfInBounds i true) a' w') a w
  | .done, listed, some t, f, st, dec, a, w, η, hok, _, hclo, htd, h, hd, hk => by simp [Plan.ok] at hok
  | .done, listed, none, f, st, dec, a, w, η, hok, _, hclo, htd, h, hd, hk => by
    have hr : Region.ready .any ops listed = [] := by simpa [Plan.ok] using hok
    refine ⟨fun _ => ?_, fun t ht => by cases ht⟩
    cases f with
    | zero => exact ⟨hr, st, η, hk, h⟩
    | succ f => exact ⟨fun _ => ⟨st, η, hk, h⟩, fun i hi => by rw [hr] at hi; cases hi⟩
  | .q i p, listed, some t, f, st, dec, a, w, η, hok, _, hclo, htd, h, hd, hk => by simp [Plan.ok] at hok
  | .q i p, listed, none, f, st, dec, a, w, η, hok, hf, hclo, htd, h, hd, hk => by
    simp only [Plan.ok, Bool.and_eq_true] at hok
    obtain ⟨⟨⟨h1, h2⟩, hcalm⟩, h3⟩ := hok
    have hrdy : i ∈ Region.ready .any ops listed := by simpa using h1
    obtain ⟨o, v, hoi, hy, st', dec', hk', hs', hd'⟩ := aread_sound hΓ h hd (show aread Γ ops.toList i st dec (apl P Γ tz ops.toList K p) from hk)
    simp only [Plan.deep] at hf
    obtain ⟨f', rfl⟩ : ∃ f', f = f' + 1 := ⟨f - 1, by omega⟩
    refine ⟨fun _ => ?_, fun t ht => by cases ht⟩
    have := (apl_sound hΓ hsel p _ none f' st' dec' _ w η h3 (by omega) (hclo.set hrdy) (fun t ht => by cases ht) hs' hd' hk').1 rfl
    refine wpG_first hoi (Region.noSelect_spec hsel) f' listed a w (Region.free_spec hoi h2) hrdy hy hclo ?_ this
    cases hm : mfOp o with
    | true => rfl
    | false => simpa [calm, hoi, hm, calmC] using hcalm
  | .ql i p, listed, some t, f, st, dec, a, w, η, hok, _, hclo, htd, h, hd, hk => by simp [Plan.ok] at hok
  | .ql i p, listed, none, f, st, dec, a, w, η, hok, hf, hclo, htd, h, hd, hk => by
    simp only [Plan.ok, Bool.and_eq_true] at hok
    obtain ⟨⟨⟨h1, h2⟩, hcalm⟩, h3⟩ := hok
    have hrdy : i ∈ Region.ready .any ops listed := by simpa using h1
    simp only [Plan.deep] at hf
    obtain ⟨f', rfl⟩ : ∃ f', f = f' + 1 := ⟨f - 1, by omega⟩
    refine ⟨fun _ => ?_, fun t ht => by cases ht⟩
    cases tz with
    | none => exact hk.elim
    | some z =>
      obtain ⟨o, v, hoi, hy, st', dec', hk', hs', hd'⟩ := areadL_sound hΓ h hd (show areadL Γ z ops.toList i st dec (apl P Γ (some z) ops.toList K p) from hk)
      have := (apl_sound hΓ hsel p _ none f' st' dec' _ w η h3 (by omega) (hclo.set hrdy) (fun t ht => by cases ht) hs' hd' hk').1 rfl
      exact wpG_first (c := 1) hoi (Region.noSelect_spec hsel) f' listed a w (Region.free_spec hoi h2) hrdy hy hclo hcalm this
  | .last i p, listed, todo, f, st, dec, a, w, η, hok, hf, hclo, htd, h, hd, hk => by
    simp only [Plan.ok, Bool.and_eq_true] at hok
    obtain ⟨h1, h3⟩ := hok
    simp only [Plan.deep] at hf
    obtain ⟨f', rfl⟩ : ∃ f', f = f' + 1 := ⟨f - 1, by omega⟩
    have hone : todo.getD (Region.ready .any ops listed) = [i] := by
      split at h1
      case h_1 j hj => rw [hj, eq_of_beq h1]
      case h_2 => cases h1
    have hrdy : i ∈ Region.ready .any ops listed := by
      cases todo with
      | none => simp only [Option.getD_none] at hone; rw [hone]; simp
      | some t => simp only [Option.getD_some] at hone; subst hone; exact htd _ rfl i (by simp)
    have key : wpOp P ops NoQ i (fun a' w' => StpG (frO tz) (gO w0 tz) xs ops i w w' ∧ wpG (frO tz) (gO w0 tz) xs P .any ops (Fin w0 ob K) f' (listed.setIfInBounds i true) a' w') a w :=
      astep_sound hΓ h hd (show astep P Γ ops.toList i st dec (apl P Γ tz ops.toList K p) from hk) (fun st' dec' a' w' η' hk' hb hs' hd' =>
        ⟨hb, (apl_sound hΓ hsel p _ none f' st' dec' a' w' η' h3 (by omega) (hclo.set hrdy) (fun t ht => by cases ht) hs' hd' hk').1 rfl⟩)
    refine ⟨fun ht => ?_, fun t ht => ⟨f', rfl, fun j hj => ?_⟩⟩
    · subst ht
      simp only [Option.getD_none] at hone
      refine ⟨fun h0 => (by rw [h0] at hone; cases hone), fun j hj => ?_⟩
      rw [hone] at hj
      obtain rfl := List.mem_singleton.1 hj
      exact key
    · subst ht
      simp only [Option.getD_some] at hone
      subst hone
      obtain rfl := List.mem_singleton.1 hj
      exact key
  | .alt i p rest, listed, todo, f, st, dec, a, w, η, hok, hf, hclo, htd, h, hd, hk => by
    simp only [Plan.ok] at hok
    simp only [Plan.deep] at hf
    obtain ⟨f', rfl⟩ : ∃ f', f = f' + 1 := ⟨f - 1, by omega⟩
    split at hok
    case h_2 => cases hok
    case h_1 j t hj =>
      simp only [Bool.and_eq_true] at hok
      obtain ⟨⟨h1, h3⟩, h4⟩ := hok
      obtain rfl := eq_of_beq h1
      obtain ⟨hk1, hk2⟩ := (show astep P Γ ops.toList j st dec (apl P Γ tz ops.toList K p) ∧ apl P Γ tz ops.toList K rest st dec from hk)
      have hrdys : ∀ i ∈ j :: t, i ∈ Region.ready .any ops listed := by
        cases todo with
        | none => simp only [Option.getD_none] at hj; rw [hj]; exact fun i hi => hi
        | some t' => simp only [Option.getD_some] at hj; subst hj; exact htd _ rfl
      have hrdy := hrdys j (by simp)
      have key : wpOp P ops NoQ j (fun a' w' => StpG (frO tz) (gO w0 tz) xs ops j w w' ∧ wpG (frO tz) (gO w0 tz) xs P .any ops (Fin w0 ob K) f' (listed.setIfInBounds j true) a' w') a w :=
        astep_sound hΓ h hd hk1 (fun st' dec' a' w' η' hk' hb hs' hd' =>
          ⟨hb, (apl_sound hΓ hsel p _ none f' st' dec' a' w' η' h3 (by omega) (hclo.set hrdy) (fun t ht => by cases ht) hs' hd' hk').1 rfl⟩)
      obtain ⟨f2, hf2, hrest⟩ := (apl_sound hΓ hsel rest listed (some t) (f' + 1) st dec a w η h4 (by omega) hclo (fun t' ht' => by obtain rfl := Option.some.inj ht'; exact fun i hi => hrdys i (by simp [hi])) h hd hk2).2 t rfl
      obtain rfl : f' = f2 := by omega
      have all : ∀ i ∈ j :: t, wpOp P ops NoQ i (fun a' w' => StpG (frO tz) (gO w0 tz) xs ops i w w' ∧ wpG (frO tz) (gO w0 tz) xs P .any ops (Fin w0 ob K) f' (listed.setIfInBounds i true) a' w') a w := fun i hi => by
        rcases List.mem_cons.1 hi with rfl | hi
        · exact key
        · exact hrest i hi
      refine ⟨fun ht => ?_, fun t' ht => ⟨f', rfl, fun i hi => ?_⟩⟩
      · subst ht
        simp only [Option.getD_none] at hj
        refine ⟨fun h0 => (by rw [h0] at hj; cases hj), fun i hi => ?_⟩
        rw [hj] at hi
        exact all i hi
      · subst ht
        simp only [Option.getD_some] at hj
        subst hj
        exact all i hi

  | .inl i p, listed, todo, f, st, dec, a, w, η, hok, hf, hclo, htd, h, hd, hk => by
    simp only [Plan.ok, Bool.and_eq_true] at hok
    obtain ⟨⟨hxs, h1⟩, h3⟩ := hok
    simp only [Plan.deep] at hf
    obtain ⟨f', rfl⟩ : ∃ f', f = f' + 1 := ⟨f - 1, by omega⟩
    have hone : todo.getD (Region.ready .any ops listed) = [i] := by
      split at h1
      case h_1 j hj => rw [hj, eq_of_beq h1]
      case h_2 => cases h1
    have hrdy : i ∈ Region.ready .any ops listed := by
      cases todo with
      | none => simp only [Option.getD_none] at hone; rw [hone]; simp
      | some t => simp only [Option.getD_some] at hone; subst hone; exact htd _ rfl i (by simp)
    have key : wpOp P ops NoQ i (fun a' w' => StpG (frO tz) (gO w0 tz) xs ops i w w' ∧ wpG (frO tz) (gO w0 tz) xs P .any ops (Fin w0 ob K) f' (listed.setIfInBounds i true) a' w') a w :=
      astepX_sound (tz := tz) hxs h hd hk (fun st' dec' a' w' η' hk' hs' hd' =>
        (apl_sound hΓ hsel p _ none f' st' dec' a' w' η' h3 (by omega) (hclo.set hrdy) (fun t ht => by cases ht) hs' hd' hk').1 rfl)
    refine ⟨fun ht => ?_, fun t ht => ⟨f', rfl, fun j hj => ?_⟩⟩
    · subst ht
      simp only [Option.getD_none] at hone
      refine ⟨fun h0 => (by rw [h0] at hone; cases hone), fun j hj => ?_⟩
      rw [hone] at hj
      obtain rfl := List.mem_singleton.1 hj
      exact key
    · subst ht
      simp only [Option.getD_some] at hone
      subst hone
      obtain rfl := List.mem_singleton.1 hj
      exact key
  | .alti i p rest, listed, todo, f, st, dec, a, w, η, hok, hf, hclo, htd, h, hd, hk => by
    simp only [Plan.ok] at hok
    simp only [Plan.deep] at hf
    obtain ⟨f', rfl⟩ : ∃ f', f = f' + 1 := ⟨f - 1, by omega⟩
    split at hok
    case h_2 => cases hok
    case h_1 j t hj =>
      simp only [Bool.and_eq_true] at hok
      obtain ⟨⟨⟨hxs, h1⟩, h3⟩, h4⟩ := hok
      obtain rfl := eq_of_beq h1
      obtain ⟨hk1, hk2⟩ := hk
      have hrdys : ∀ i ∈ j :: t, i ∈ Region.ready .any ops listed := by
        cases todo with
        | none => simp only [Option.getD_none] at hj; rw [hj]; exact fun i hi => hi
        | some t' => simp only [Option.getD_some] at hj; subst hj; exact htd _ rfl
      have hrdy := hrdys j (by simp)
      have key : wpOp P ops NoQ j (fun a' w' => StpG (frO tz) (gO w0 tz) xs ops j w w' ∧ wpG (frO tz) (gO w0 tz) xs P .any ops (Fin w0 ob K) f' (listed.setIfInBounds j true) a' w') a w :=
        astepX_sound (tz := tz) hxs h hd hk1 (fun st' dec' a' w' η' hk' hs' hd' =>
          (apl_sound hΓ hsel p _ none f' st' dec' a' w' η' h3 (by omega) (hclo.set hrdy) (fun t ht => by cases ht) hs' hd' hk').1 rfl)
      obtain ⟨f2, hf2, hrest⟩ := (apl_sound hΓ hsel rest listed (some t) (f' + 1) st dec a w η h4 (by omega) hclo (fun t' ht' => by obtain rfl := Option.some.inj ht'; exact fun i hi => hrdys i (by simp [hi])) h hd hk2).2 t rfl
      obtain rfl : f' = f2 := by omega
      have all : ∀ i ∈ j :: t, wpOp P ops NoQ i (fun a' w' => StpG (frO tz) (gO w0 tz) xs ops i w w' ∧ wpG (frO tz) (gO w0 tz) xs P .any ops (Fin w0 ob K) f' (listed.setIfInBounds i true) a' w') a w := fun i hi => by
        rcases List.mem_cons.1 hi with rfl | hi
        · exact key
        · exact hrest i hi
      refine ⟨fun ht => ?_, fun t' ht => ⟨f', rfl, fun i hi => ?_⟩⟩
      · subst ht
        simp only [Option.getD_none] at hj
        refine ⟨fun h0 => (by rw [h0] at hj; cases hj), fun i hi => ?_⟩
        rw [hj] at hi
        exact all i hi
      · subst ht
        simp only [Option.getD_some] at hj
        subst hj
        exact all i hi

/-- a drawn region by a plan -/
theorem ADraw.planZ (tz : Option Nat) (xs : List Nat) (hΓ : TysOk P Γ) (hm : P.follows .mixedOrders = true) {K : St → Prop} (p : Plan) (hp : (Region.noSelect ops && p.ok (frO tz) xs ops (Array.replicate ops.size false) none && Nat.ble p.deep ops.size) = true)
    (hk : apl P Γ tz ops.toList K p st []) : ADraw P ops st K := by
  refine ⟨fun id w0 ob a w ⟨η, h⟩ => ?_⟩
  simp only [Bool.and_eq_true] at hp
  obtain ⟨⟨h1, h2⟩, h3⟩ := hp
  refine wp_region_any hm (wpG_any (fr := frO tz) (g := gO w0 tz) (xs := xs) (K := Fin w0 ob K) (fun a w ⟨st', η', hk', hs'⟩ => ⟨rfl, st', hk', η', hs'⟩) _ _ _ _ ?_)
  exact (apl_sound hΓ h1 p _ none _ st [] a _ η h2 (Nat.le_of_ble_eq_true h3) (clo_none _) (fun t ht => by cases ht) (h.mono (below_drawn w)) (fun d b hd => by simp [look] at hd) hk).1 rfl

theorem ADraw.planX (xs : List Nat) (hΓ : TysOk P Γ) (hm : P.follows .mixedOrders = true) {K : St → Prop} (p : Plan) (hp : (Region.noSelect ops && p.ok false xs ops (Array.replicate ops.size false) none && Nat.ble p.deep ops.size) = true)
    (hk : apl P Γ none ops.toList K p st []) : ADraw P ops st K := ADraw.planZ none xs hΓ hm p hp hk
/-- .. of a function that writes a variable of its caller: slot z, behind the frame, points to it -/
theorem ADraw.planT (z : Nat) (xs : List Nat) (hΓ : TysOk P Γ) (hm : P.follows .mixedOrders = true) {K : St → Prop} (p : Plan) (hp : (Region.noSelect ops && p.ok true xs ops (Array.replicate ops.size false) none && Nat.ble p.deep ops.size) = true)
    (hk : apl P Γ (some z) ops.toList K p st []) : ADraw P ops st K := ADraw.planZ (some z) xs hΓ hm p hp hk

theorem ADraw.plan (hΓ : TysOk P Γ) (hm : P.follows .mixedOrders = true) {K : St → Prop} (p : Plan) (hp : (Region.noSelect ops && p.ok false [] ops (Array.replicate ops.size false) none && Nat.ble p.deep ops.size) = true)
    (hk : apl P Γ none ops.toList K p st []) : ADraw P ops st K := ADraw.planX [] hΓ hm p hp hk
end
end Go.Aw
/- Code, loops, whole functions. -/
namespace Go.Aw
open Go.RowKit

section
variable {P : Program} {Γ : Tys} {w0 : Base} {w w' : World} {ob : Nat → Prop} {st : St} {a : Act} {η : Env}

theorem lift_mono {K K' : Exit → St → Prop} (h : ∀ e st, K e st → K' e st) {e : Exit} {a : Act} {w : World} (hl : lift w0 ob K e a w) : lift w0 ob K' e a w :=
  let ⟨st, hk, hs⟩ := hl; ⟨st, h e st hk, hs⟩

theorem acode_sound (hΓ : TysOk P Γ) (hm : P.follows .mixedOrders = true) : ∀ (c : Code) (st : St) (K : Exit → St → Prop) (a : Act) (w : World), acode P Γ c st K → StRep w0 ob st a w → c.wp P (lift w0 ob K) a w
  | .skip, st, K, a, w, hk, h => wp_skip ⟨st, hk, h⟩
  | .label _, st, K, a, w, hk, h => wp_label ⟨st, hk, h⟩
  | .region id ops d, st, K, a, w, hk, ⟨η, h⟩ =>
    wp_mono (aregion_sound (K := fun e st => match e with | .normal => frSt st (K .normal) | e => K e st) hΓ h hk) (fun e a' w' hl => by
      obtain ⟨st', hk', η', hs'⟩ := hl
      cases e with
      | normal =>
        obtain ⟨st1, hk1, e1, e2, e3, e4⟩ := frSt_spec (show frSt st' (K .normal) from hk')
        exact ⟨st1, hk1, η', hs'.same e1 e2 e3 e4⟩
      | _ => exact ⟨st', hk', η', hs'⟩)
  | .seq x y, st, K, a, w, hk, h => by
    refine wp_seq ?_
    refine wp_mono (acode_sound hΓ hm x st _ a w hk h) (fun e a' w' hl => ?_)
    obtain ⟨st', hk', hs'⟩ := hl
    cases e with
    | normal => exact acode_sound hΓ hm y st' K a' w' hk' hs'
    | _ => exact ⟨st', hk', hs'⟩
  | .cond c x y, st, K, a, w, hk, h => by
    rw [acode_cond] at hk
    split at hk
    case h_2 => exact hk.elim
    case h_1 t ht =>
      obtain ⟨η, hs⟩ := h
      obtain ⟨hc, _⟩ := ev_sound hs ht
      refine wp_cond_split hc (fun e => ?_) (fun e => ?_)
      · exact acode_sound hΓ hm x st K a w (hk.1 e) ⟨η, hs⟩
      · exact acode_sound hΓ hm y st K a w (hk.2 e) ⟨η, hs⟩
  | .block id b, st, K, a, w, hk, h => by
    refine wp_block ?_
    refine wp_mono (acode_sound hΓ hm b st _ a w hk h) (fun e a' w' hl => ?_)
    obtain ⟨st', hk', hs'⟩ := hl
    cases e with
    | exit id' =>
      simp only [Exit.inBlock]
      simp only at hk'
      split at hk'
      case h_1 hb =>
        rw [if_pos (Nat.eq_of_beq_eq_true hb)]; exact ⟨st', hk', hs'⟩
      case h_2 hb =>
        rw [if_neg (fun e => by rw [e, Nat.beq_refl] at hb; cases hb)]; exact ⟨st', hk', hs'⟩
    | _ => exact ⟨st', hk', hs'⟩
  | .exit id, st, K, a, w, hk, h => wp_exit ⟨st, hk, h⟩
  | .ret, st, K, a, w, hk, h => wp_ret ⟨st, hk, h⟩
  | .loop b, st, K, a, w, hk, h => hk.run w0 ob a w h
  | .rangeFunc .., _, _, _, _, hk, _ => hk.elim
  | .scope _, _, _, _, _, hk, _ => hk.elim
  | .goto _, _, _, _, _, hk, _ => hk.elim
  | .refuse _, _, _, _, _, hk, _ => hk.elim

end

/-! ### the same state told otherwise -/
inductive Org where
  | row (k : Nat)
  | sub (k i : Nat)
  | nil

def keyIn (k : Nat) : List (Nat × Org) → Bool
  | [] => false
  | (_, .row j) :: r => match Nat.beq j k with | true => true | false => keyIn k r
  | (_, .sub j _) :: r => match Nat.beq j k with | true => true | false => keyIn k r
  | (_, .nil) :: r => keyIn k r

def distinct : List (Nat × Org) → Bool
  | [] => true
  | (_, .row j) :: r => match keyIn j r with | true => false | false => distinct r
  | (_, .sub j _) :: r => match keyIn j r with | true => false | false => distinct r
  | (_, .nil) :: r => distinct r

section
variable (hp : List (Nat × ARow)) (R : List (Nat × Org)) (nx : Nat)
mutual
/-- a value of the one state as the other tells it -/
def vw : AVal → AVal → Prop
  | .un, y => match y with | .un => True | _ => False
  | .c v, y => match y with
    | .c v' => v = v'
    | .own j => v = .slice none 0 0 ∧ Nat.blt j nx = true ∧ look R j = some .nil
    | .t (.ints _ []) => v = .slice none 0 0
    | .t (.rows []) => v = .slice none 0 0
    | .t (.recs _ []) => v = .slice none 0 0
    | .un => True
    | _ => False
  | .t t, y => match y with | .t t' => t = t' | .un => True | _ => False
  | .adr t i, y => match y with | .adr t' i' => t = t' ∧ i = i' | .un => True | _ => False
  | .ag l, y => match y with | .ag l' => vws l l' | .un => True | _ => False
  | .tu l, y => match y with | .tu l' => vws l l' | .un => True | _ => False
  | .clo f l, y => match y with | .clo g l' => f = g ∧ vws l l' | .un => True | _ => False
  | .rp l o, y => match y with | .rp l' o' => o = o' ∧ vws l l' | .un => True | _ => False
  | .knot f l n, y => match y with | .knot g l' n' => f = g ∧ n = n' ∧ vws l l' | .un => True | _ => False
  | .nul, y => match y with | .nul => True | .t (.ints .i64 []) => True | .un => True | _ => False
  | .own k, y => match y with
    | .own j => Nat.blt j nx = true ∧ look R j = some (.row k)
    | .t t => keyIn k R = false ∧ match look hp k with | some r => closeRow r = some t | none => False
    | .un => True
    | _ => False
  | .sub k i, y => match y with
    | .sub j i' => Nat.blt j nx = true ∧ look R j = some (.row k) ∧ i = i'
    | .own j => Nat.blt j nx = true ∧ look R j = some (.sub k i)
    | .t (.ints .i64 l) => keyIn k R = false ∧ match look hp k with | some (.rows _ _ true m) => m.getD i [] = l | _ => False
    | .un => True
    | _ => False
  | .ptr k o, y => match y with
    | .ptr j o' => Nat.blt j nx = true ∧ look R j = some (.row k) ∧ o = o'
    | .un => True
    | _ => False
  | .subp k i o, y => match y with
    | .subp j i' o' => Nat.blt j nx = true ∧ look R j = some (.row k) ∧ i = i' ∧ o = o'
    | .un => True
    | _ => False
def vws : List AVal → List AVal → Prop
  | [], y => match y with | [] => True | _ :: _ => False
  | a :: l, y => match y with | [] => False | b :: r => vw a b ∧ vws l r
end

def rowVw (s : Org) (r' : ARow) : Prop :=
  match s with
  | .row k => match look hp k with
    | some (.cells e l) => match r' with | .cells e' l' => e = e' ∧ vws hp R nx l l' | _ => False
    | some r => r = r'
    | none => False
  | .sub k i => match look hp k with
    | some (.rows _ e1 true m) => i < m.length ∧ ARow.ints e1 .i64 (m.getD i []) = r'
    | _ => False
  | .nil => match r' with
    | .ints _ _ [] => True
    | .rows _ _ _ [] => True
    | .recs _ _ [] => True
    | _ => False

def rowsVw : List (Nat × ARow) → Prop
  | [] => True
  | (j, r) :: h => Nat.blt j nx = true ∧ (match look R j with | some s => rowVw hp R nx s r | none => False) ∧ rowsVw h

def slotsVw (sl : List (Nat × AVal)) : List (Nat × AVal) → Prop
  | [] => True
  | (i, x) :: r => (match look sl i with | some y => vw hp R nx y x | none => False) ∧ slotsVw sl r
end

def idR : List (Nat × ARow) → List (Nat × Org)
  | [] => []
  | (j, _) :: r => (j, .row j) :: idR r

/-- the second state tells what the first one tells, by other names ('R': where its rows come from), and maybe less -/
structure View (R : List (Nat × Org)) (st st' : St) : Prop where
  sz : st.sz = st'.sz
  di : distinct R = true
  sl : slotsVw st.hp R st'.nx st.sl st'.sl
  hp : rowsVw st.hp R st'.nx st'.hp

/-! ### it stays true -/
def ηV (hp : List (Nat × ARow)) (η : Env) (R : List (Nat × Org)) : Env :=
  ⟨fun j => match look R j with
    | some (.row k) => η.val k
    | some (.sub k i) => (η.cel k).getD i undef
    | some .nil => .slice none 0 0
    | none => undef,
   fun j => match look R j with
    | some (.row k) => η.cel k
    | some (.sub k i) => match look hp k with
      | some (.rows _ _ _ m) => (m.getD i []).map (Value.int .i64)
      | _ => []
    | some .nil => []
    | none => []⟩

section
variable {w : World} {B : Nat} {ob : Nat → Prop} {hp hp' : List (Nat × ARow)} {nx nx' : Nat} {η : Env} {R : List (Nat × Org)}

theorem keyIn_row {k j : Nat} : ∀ {R : List (Nat × Org)} {s : Org}, keyIn k R = false → look R j = some s → s ≠ .row k ∧ ∀ i, s ≠ .sub k i
  | [], s, _, h => by simp [look] at h
  | (i, s0) :: R, s, hk, h => by
    rw [look_cons] at h
    cases s0 with
    | row m =>
      simp only [keyIn] at hk
      split at hk
      case h_1 => cases hk
      case h_2 hb =>
        by_cases hij : i = j
        · rw [if_pos hij] at h
          simp only [Option.some.injEq] at h
          subst h
          refine ⟨fun e => ?_, fun _ e => by cases e⟩
          simp only [Org.row.injEq] at e
          rw [e, Nat.beq_refl] at hb; cases hb
        · rw [if_neg hij] at h; exact keyIn_row hk h
    | sub m q =>
      simp only [keyIn] at hk
      split at hk
      case h_1 => cases hk
      case h_2 hb =>
        by_cases hij : i = j
        · rw [if_pos hij] at h
          simp only [Option.some.injEq] at h
          subst h
          refine ⟨fun e => (by cases e), fun _ e => ?_⟩
          simp only [Org.sub.injEq] at e
          rw [e.1, Nat.beq_refl] at hb; cases hb
        · rw [if_neg hij] at h; exact keyIn_row hk h
    | nil =>
      simp only [keyIn] at hk
      by_cases hij : i = j
      · rw [if_pos hij] at h
        simp only [Option.some.injEq] at h
        subst h
        exact ⟨fun e => (by cases e), fun _ e => (by cases e)⟩
      · rw [if_neg hij] at h; exact keyIn_row hk h

def Org.key : Org → Option Nat
  | .row k => some k
  | .sub k _ => some k
  | .nil => none

theorem keyIn_key {k j : Nat} {R : List (Nat × Org)} {s : Org} (h : keyIn k R = false) (hl : look R j = some s) : s.key ≠ some k := by
  obtain ⟨h1, h2⟩ := keyIn_row h hl
  cases s with
  | row m => intro e; simp only [Org.key, Option.some.injEq] at e; exact h1 (by rw [e])
  | sub m i => intro e; simp only [Org.key, Option.some.injEq] at e; exact h2 i (by rw [e])
  | nil => intro e; cases e

theorem distinct_spec : ∀ {R : List (Nat × Org)}, distinct R = true → ∀ {j j' : Nat} {s s' : Org} {k : Nat}, look R j = some s → look R j' = some s' → j ≠ j' → s.key = some k → s'.key ≠ some k
  | [], _, j, j', s, s', k, h, _, _, _ => by simp [look] at h
  | (i, s0) :: R, hd, j, j', s, s', k, h, h', hne, hk => by
    have hd' : distinct R = true ∧ ∀ m, s0.key = some m → keyIn m R = false := by
      cases s0 with
      | row m =>
        simp only [distinct] at hd
        split at hd
        case h_1 => cases hd
        case h_2 hb => exact ⟨hd, fun q e => by simp only [Org.key, Option.some.injEq] at e; subst e; exact hb⟩
      | sub m q =>
        simp only [distinct] at hd
        split at hd
        case h_1 => cases hd
        case h_2 hb => exact ⟨hd, fun q e => by simp only [Org.key, Option.some.injEq] at e; subst e; exact hb⟩
      | nil => exact ⟨hd, fun _ e => by cases e⟩
    rw [look_cons] at h h'
    by_cases hij : i = j
    · rw [if_pos hij] at h
      simp only [Option.some.injEq] at h
      subst h
      rw [if_neg (by omega)] at h'
      exact keyIn_key (hd'.2 k hk) h'
    · rw [if_neg hij] at h
      by_cases hij' : i = j'
      · rw [if_pos hij'] at h'
        simp only [Option.some.injEq] at h'
        subst h'
        intro e
        exact keyIn_key (hd'.2 k e) h hk
      · rw [if_neg hij'] at h'
        exact distinct_spec hd'.1 h h' hne hk

theorem rowsVw_at : ∀ {h : List (Nat × ARow)}, rowsVw hp R nx' h → ∀ {j r'}, look h j = some r' → j < nx' ∧ ∃ s, look R j = some s ∧ rowVw hp R nx' s r'
  | [], _, j, r', h => by simp [look] at h
  | (i, x) :: h, hv, j, r', hl => by
    rw [look_cons] at hl
    by_cases hij : i = j
    · rw [if_pos hij] at hl
      simp only [Option.some.injEq] at hl
      subst hij hl
      obtain ⟨h1, h2, _⟩ := hv
      refine ⟨Nat.le_of_ble_eq_true h1, ?_⟩
      cases hs : look R i with
      | none => rw [hs] at h2; exact h2.elim
      | some s => rw [hs] at h2; exact ⟨s, rfl, h2⟩
    · rw [if_neg hij] at hl; exact rowsVw_at hv.2.2 hl

theorem slotsVw_at {sl : List (Nat × AVal)} : ∀ {l : List (Nat × AVal)}, slotsVw hp R nx' sl l → ∀ {i x}, look l i = some x → ∃ y, look sl i = some y ∧ vw hp R nx' y x
  | [], _, i, x, h => by simp [look] at h
  | (j, z) :: l, hv, i, x, hl => by
    rw [look_cons] at hl
    by_cases hij : j = i
    · rw [if_pos hij] at hl
      simp only [Option.some.injEq] at hl
      subst hij hl
      obtain ⟨h1, _⟩ := hv
      cases hs : look sl j with
      | none => rw [hs] at h1; exact h1.elim
      | some y => rw [hs] at h1; exact ⟨y, rfl, h1⟩
    · rw [if_neg hij] at hl; exact slotsVw_at hv.2 hl

theorem rowVw_kind {k : Nat} {r' : ARow} (hv : rowVw hp R nx' (.row k) r') : ∃ r, look hp k = some r ∧ r.kind = r'.kind := by
  unfold rowVw at hv
  simp only at hv
  split at hv
  case h_1 e l hl =>
    split at hv
    case h_1 => exact ⟨_, hl, rfl⟩
    case h_2 => exact hv.elim
  case h_2 r _ hl => exact ⟨r, hl, by rw [hv]⟩
  case h_3 => exact hv.elim

/-- the blocks of a row told otherwise are of the row that it comes from -/
theorem vw_blocks (hh : HRep w B ob hp nx η) {j : Nat} {s : Org} {r' : ARow} (hs : look R j = some s) (hv : rowVw hp R nx' s r') :
    (∀ b, b ∈ bsOf (ηV hp η R) j r' → ∃ k r, s.key = some k ∧ look hp k = some r ∧ b ∈ bsOf η k r) ∧ (bsOf (ηV hp η R) j r').Nodup := by
  have hval : (ηV hp η R).val j = match s with | .row k => η.val k | .sub k i => (η.cel k).getD i undef | .nil => .slice none 0 0 := by
    simp only [ηV, hs]; cases s <;> rfl
  have hcel : (ηV hp η R).cel j = match s with | .row k => η.cel k | .sub k i => (match look hp k with | some (.rows _ _ _ m) => (m.getD i []).map (Value.int .i64) | _ => []) | .nil => [] := by
    simp only [ηV, hs]; cases s <;> rfl
  cases s with
  | nil =>
    have hb : bsOf (ηV hp η R) j r' = [] := by
      simp only at hval hcel
      simp [bsOf, hval, hcel, blk]
    rw [hb]
    exact ⟨fun b hm => by simp at hm, List.nodup_nil⟩
  | row k =>
    simp only at hval hcel
    have hk : ∃ r, look hp k = some r ∧ r.kind = r'.kind := by
      unfold rowVw at hv
      simp only at hv
      split at hv
      case h_1 e l hl =>
        split at hv
        case h_1 => exact ⟨_, hl, rfl⟩
        case h_2 => exact hv.elim
      case h_2 r _ hl => exact ⟨r, hl, by rw [hv]⟩
      case h_3 => exact hv.elim
    obtain ⟨r, hr, hkind⟩ := hk
    have hb : bsOf (ηV hp η R) j r' = bsOf η k r := by simp only [bsOf, hval, hcel, hkind]
    rw [hb]
    exact ⟨fun b hm => ⟨k, r, rfl, hr, hm⟩, hh.nodup k r hr⟩
  | sub k i =>
    simp only at hval hcel
    unfold rowVw at hv
    simp only at hv
    split at hv
    case h_2 => exact hv.elim
    case h_1 e e1 m hl =>
      obtain ⟨hi, rfl⟩ := hv
      have hrow := hh.row k _ hl
      have hnd := hh.nodup k _ hl
      obtain ⟨v, hvi, ho⟩ := F2.at hrow.2 (List.getElem?_eq_getElem hi)
      have hval' : (ηV hp η R).val j = v := by rw [hval]; exact getD_of hvi
      have hb : bsOf (ηV hp η R) j (.ints e1 .i64 (m.getD i [])) = blk v := by simp [bsOf, ARow.kind, hval']
      rw [hb]
      refine ⟨fun b hm => ⟨k, _, rfl, hl, ?_⟩, ?_⟩
      · simp only [bsOf, ARow.kind, if_true]
        exact List.mem_append.2 (.inr (List.mem_flatMap.2 ⟨v, List.mem_of_getElem? hvi, hm⟩))
      · have hflat : ((η.cel k).flatMap blk).Nodup := by
          simp only [bsOf, ARow.kind, if_true] at hnd
          exact (List.nodup_append.1 hnd).2.1
        have hsub : (blk v).Sublist ((η.cel k).flatMap blk) := by
          obtain ⟨s, t, hst⟩ := List.append_of_mem (List.mem_of_getElem? hvi)
          rw [hst]
          simp only [List.flatMap_append, List.flatMap_cons]
          exact (List.sublist_append_left _ _).trans (List.sublist_append_right _ _)
        exact hflat.sublist hsub

theorem vw_own (hh : HRep w B ob hp nx η) (hv : rowsVw hp R nx' hp') {b : Nat} (hb : ownB hp' (ηV hp η R) b) : ∃ j s k r, look R j = some s ∧ s.key = some k ∧ look hp k = some r ∧ b ∈ bsOf η k r := by
  obtain ⟨j, r', hj, hm⟩ := hb
  obtain ⟨_, s, hs, hr⟩ := rowsVw_at hv hj
  obtain ⟨k, r, h1, h2, h3⟩ := (vw_blocks hh hs hr).1 b hm
  exact ⟨j, s, k, r, hs, h1, h2, h3⟩

/-- a row that is not taken over is nobody's any more -/
theorem vw_free (hh : HRep w B ob hp nx η) (hfree : ∀ b, ownB hp η b → ¬ ob b) (hv : rowsVw hp R nx' hp') {k : Nat} (hk : keyIn k R = false) {r : ARow} (hr : look hp k = some r) {b : Nat} (hb : b ∈ bsOf η k r) :
    ¬ badOf ob hp' (ηV hp η R) b := by
  rintro (h1 | h1)
  · exact hfree b ⟨k, r, hr, hb⟩ h1
  · obtain ⟨j, s, k', r0, h2, h3, h4, h5⟩ := vw_own hh hv h1
    refine hh.apart k r k' r0 hr h4 (fun e => ?_) b hb h5
    subst e
    exact keyIn_key hk h2 h3

theorem vw_keeps (hh : HRep w B ob hp nx η) (hv : rowsVw hp R nx' hp') : Keeps w (badOf ob hp η) w (badOf ob hp' (ηV hp η R)) := by
  intro b o x hb hc
  refine ⟨?_, hc⟩
  rintro (h1 | h1)
  · exact hb (.inl h1)
  · obtain ⟨_, _, k, r, _, _, h4, h5⟩ := vw_own hh hv h1
    exact hb (.inr ⟨k, r, h4, h5⟩)

theorem own_ints' {e : Nat} {k : IntKind} {l : List Int} {v : Value} {bad : Nat → Prop} (h : OwnInts w B e k l v) (hb : ∀ b, b ∈ blk v → ¬ bad b) : SInts w bad k l v := by
  obtain ⟨a, c, hv, h1, h2, h3⟩ := own_ints h
  refine ⟨a, c, hv, h1, h2, fun i x hi => ?_⟩
  obtain ⟨b, o, ha, _, hc⟩ := h3 i x hi
  exact ⟨b, o, ha, hb b (by rw [hv, ha]; simp [blk]), hc⟩

theorem own_rows' {e : Nat} {m : List (List Int)} {cs : List Value} {v : Value} {bad : Nat → Prop} (h : w.ownsRow B e 1 v m.length cs) (hF : F2 (SInts w bad .i64) m cs) (hb : ∀ b, b ∈ blk v → ¬ bad b) : SRows w bad m v := by
  rcases h.2 with ⟨hv, h0⟩ | ⟨g, cap, cur, hv, hg, hh, hnc, hcm, r⟩
  · have : m = [] := List.eq_nil_of_length_eq_zero h0
    subst this
    exact ⟨none, 0, by simpa using hv, by simp, by unfold maxLen; omega, fun i x hi => by simp at hi⟩
  · refine ⟨some ⟨g, 0, none⟩, cap, hv, hnc, hcm, fun i x hi => ?_⟩
    obtain ⟨u, hu, hs⟩ := F2.at hF hi
    refine ⟨g, 0, u, rfl, hb g (by rw [hv]; simp [blk]), ?_, hs⟩
    rw [Nat.zero_add]
    exact own_ptr h (by rw [hv]; rfl) hu

theorem blk_own {k : Nat} {r : ARow} {b : Nat} (h : b ∈ blk (η.val k)) : b ∈ bsOf η k r := by
  simp only [bsOf]; exact List.mem_append.2 (.inl h)

mutual
theorem vw_sound (hh : HRep w B ob hp nx η) (hfree : ∀ b, ownB hp η b → ¬ ob b) (hv : rowsVw hp R nx' hp') : ∀ (y x : AVal) {v : Value}, vw hp R nx' y x → VRep w (badOf ob hp η) hp nx η y v → VRep w (badOf ob hp' (ηV hp η R)) hp' nx' (ηV hp η R) x v
  | .un, x, v, hx, hr => by cases x <;> simp only [vw] at hx <;> first | exact hx.elim | trivial
  | .c y, x, v, hx, hr => by
    obtain ⟨rfl, h1⟩ := hr
    unfold vw at hx
    split at hx
    case h_1 => subst hx; exact ⟨rfl, h1⟩
    case h_2 j =>
      obtain ⟨rfl, h2, h3⟩ := hx
      refine ⟨Nat.le_of_ble_eq_true h2, fun r' hr' => ?_⟩
      obtain ⟨_, s, hs, hrv⟩ := rowsVw_at hv hr'
      rw [h3] at hs
      obtain rfl := Option.some.inj hs
      refine ⟨?_, by simp only [ηV, h3]⟩
      unfold rowVw at hrv
      simp only at hrv
      split at hrv
      case h_1 => simp [ARow.kind]
      case h_2 _ _ u => cases u <;> simp [ARow.kind]
      case h_3 => simp [ARow.kind]
      case h_4 => exact hrv.elim
    case h_3 => subst hx; exact ⟨none, 0, rfl, Nat.le_refl _, Nat.zero_le _, fun i x hi => by simp at hi⟩
    case h_4 => subst hx; exact ⟨none, 0, rfl, Nat.le_refl _, Nat.zero_le _, fun i x hi => by simp at hi⟩
    case h_5 => subst hx; exact ⟨none, 0, rfl, Nat.le_refl _, Nat.zero_le _, fun i x hi => by simp at hi⟩
    case h_6 => trivial
    case h_7 => exact hx.elim
  | .knot f l n, x, v, hx, hr => by
    unfold vw at hx
    split at hx
    case h_1 =>
      obtain ⟨rfl, rfl, hx⟩ := hx
      obtain ⟨b, cs, rfl, hr, hb, hc⟩ := hr
      obtain ⟨hb', hc'⟩ := vw_keeps hh hv b 0 _ hb hc
      exact ⟨b, cs, rfl, vws_sound hh hfree hv l _ hx hr, hb', hc'⟩
    case h_2 => trivial
    case h_3 => exact hx.elim
  | .nul, x, v, hx, hr => by
    unfold vw at hx
    split at hx
    case h_1 => exact hr
    case h_2 => obtain ⟨ba, rfl⟩ := hr; exact ⟨ba, 0, rfl, Nat.le_refl _, Nat.zero_le _, fun i x hi => by simp at hi⟩
    case h_3 => trivial
    case h_4 => exact hx.elim
  | .t t, x, v, hx, hr => by
    unfold vw at hx
    split at hx
    case h_1 => subst hx; exact TRep.keeps (vw_keeps hh hv) hr
    case h_2 => trivial
    case h_3 => exact hx.elim
  | .adr t i, x, v, hx, hr => by
    unfold vw at hx
    split at hx
    case h_1 => obtain ⟨rfl, rfl⟩ := hx; exact ARep.keeps (vw_keeps hh hv) hr
    case h_2 => trivial
    case h_3 => exact hx.elim
  | .ag l, x, v, hx, hr => by
    unfold vw at hx
    split at hx
    case h_1 => obtain ⟨cs, rfl, hr⟩ := hr; exact ⟨cs, rfl, vws_sound hh hfree hv l _ hx hr⟩
    case h_2 => trivial
    case h_3 => exact hx.elim
  | .tu l, x, v, hx, hr => by
    unfold vw at hx
    split at hx
    case h_1 => obtain ⟨cs, rfl, hr⟩ := hr; exact ⟨cs, rfl, vws_sound hh hfree hv l _ hx hr⟩
    case h_2 => trivial
    case h_3 => exact hx.elim
  | .clo f l, x, v, hx, hr => by
    unfold vw at hx
    split at hx
    case h_1 => obtain ⟨rfl, hx⟩ := hx; obtain ⟨cs, rfl, hr⟩ := hr; exact ⟨cs, rfl, vws_sound hh hfree hv l _ hx hr⟩
    case h_2 => trivial
    case h_3 => exact hx.elim
  | .rp l o, x, v, hx, hr => by
    unfold vw at hx
    split at hx
    case h_1 =>
      obtain ⟨rfl, hx⟩ := hx
      obtain ⟨b, cs, rfl, hr, hc⟩ := hr
      exact ⟨b, cs, rfl, vws_sound hh hfree hv l _ hx hr, fun i u hu => by obtain ⟨h1, h2⟩ := hc i u hu; exact vw_keeps hh hv b i u h1 h2⟩
    case h_2 => trivial
    case h_3 => exact hx.elim
  | .own k, x, v, hx, hr => by
    unfold vw at hx
    split at hx
    case h_1 j =>
      obtain ⟨h2, h3⟩ := hx
      refine ⟨Nat.le_of_ble_eq_true h2, fun r' hr' => ?_⟩
      obtain ⟨_, s, hs, hrv⟩ := rowsVw_at hv hr'
      rw [h3] at hs
      obtain rfl := Option.some.inj hs
      obtain ⟨r, h4, h5⟩ := rowVw_kind hrv
      obtain ⟨h6, h7⟩ := hr.2 r h4
      exact ⟨by rw [← h5]; exact h6, by rw [h7]; simp only [ηV, h3]⟩
    case h_2 t =>
      obtain ⟨h2, h3⟩ := hx
      split at h3
      case h_2 => exact h3.elim
      case h_1 r hlk =>
        obtain ⟨_, h7⟩ := hr.2 r hlk
        have hfr : ∀ b, b ∈ bsOf η k r → ¬ badOf ob hp' (ηV hp η R) b := fun b hb => vw_free hh hfree hv h2 hlk hb
        have hrow := hh.row k r hlk
        rw [h7]
        match r with
        | .ints e kd l => simp only [closeRow, Option.some.injEq] at h3; subst h3; exact own_ints' hrow.1 (fun b hb => hfr b (blk_own hb))
        | .rows e e1 true m =>
          simp only [closeRow, Option.some.injEq] at h3; subst h3
          refine own_rows' hrow.1 (F2.imp (fun l v hm ho => own_ints' ho (fun b hb => hfr b ?_)) hrow.2) (fun b hb => hfr b (blk_own hb))
          simp only [bsOf, ARow.kind, if_true]
          exact List.mem_append.2 (.inr (List.mem_flatMap.2 ⟨v, hm, hb⟩))
        | .rows e e1 false m => simp only [closeRow, Option.some.injEq] at h3; subst h3; exact own_rows' hrow.1 (F2.imp (fun _ _ _ h => h.keeps (vw_keeps hh hv)) hrow.2) (fun b hb => hfr b (blk_own hb))
        | .cells e l => simp [closeRow] at h3
        | .recs e s L =>
          simp only [closeRow, Option.some.injEq] at h3; subst h3
          obtain ⟨g1, css, g2, g3⟩ := hrow
          exact own_recs g2 g1 (F2.imp (fun _ _ _ h => h.keeps (vw_keeps hh hv)) g3) (fun b hb => hfr b (blk_own hb))
    case h_3 => trivial
    case h_4 => exact hx.elim
  | .sub k i, x, v, hx, hr => by
    unfold vw at hx
    split at hx
    case h_1 j i' =>
      obtain ⟨h2, h3, rfl⟩ := hx
      refine ⟨Nat.le_of_ble_eq_true h2, fun r' hr' => ?_⟩
      obtain ⟨_, s, hs, hrv⟩ := rowsVw_at hv hr'
      rw [h3] at hs
      obtain rfl := Option.some.inj hs
      obtain ⟨r, h4, h5⟩ := rowVw_kind hrv
      obtain ⟨h6, h7⟩ := hr.2 r h4
      exact ⟨by rw [← h5]; exact h6, by simp only [ηV, h3]; exact h7⟩
    case h_2 j =>
      obtain ⟨h2, h3⟩ := hx
      refine ⟨Nat.le_of_ble_eq_true h2, fun r' hr' => ?_⟩
      obtain ⟨_, s, hs, hrv⟩ := rowsVw_at hv hr'
      rw [h3] at hs
      obtain rfl := Option.some.inj hs
      unfold rowVw at hrv
      simp only at hrv
      split at hrv
      case h_2 => exact hrv.elim
      case h_1 e e1 m hlk =>
        obtain ⟨_, rfl⟩ := hrv
        obtain ⟨_, h7⟩ := hr.2 _ hlk
        exact ⟨by simp [ARow.kind], by simp only [ηV, h3]; exact (getD_of h7).symm⟩
    case h_3 l =>
      obtain ⟨h2, h3⟩ := hx
      split at h3
      case h_2 => exact h3.elim
      case h_1 e e1 m hlk =>
        subst h3
        obtain ⟨_, h7⟩ := hr.2 _ hlk
        have hrow := hh.row k _ hlk
        obtain ⟨l', hl', ho⟩ := F2.at' hrow.2 h7
        rw [getD_of hl']
        refine own_ints' ho (fun b hb => vw_free hh hfree hv h2 hlk ?_)
        simp only [bsOf, ARow.kind, if_true]
        exact List.mem_append.2 (.inr (List.mem_flatMap.2 ⟨v, List.mem_of_getElem? h7, hb⟩))
    case h_4 => trivial
    case h_5 => exact hx.elim
  | .ptr k o, x, v, hx, hr => by
    unfold vw at hx
    split at hx
    case h_1 j i' =>
      obtain ⟨h2, h3, rfl⟩ := hx
      refine ⟨Nat.le_of_ble_eq_true h2, fun r' hr' => ?_⟩
      obtain ⟨_, s, hs, hrv⟩ := rowsVw_at hv hr'
      rw [h3] at hs
      obtain rfl := Option.some.inj hs
      obtain ⟨r, h4, h5⟩ := rowVw_kind hrv
      have := hr.2 r h4
      simpa only [ηV, h3] using this
    case h_2 => trivial
    case h_3 => exact hx.elim
  | .subp k i o, x, v, hx, hr => by
    unfold vw at hx
    split at hx
    case h_1 j i' o' =>
      obtain ⟨h2, h3, rfl, rfl⟩ := hx
      refine ⟨Nat.le_of_ble_eq_true h2, fun r' hr' => ?_⟩
      obtain ⟨_, s, hs, hrv⟩ := rowsVw_at hv hr'
      rw [h3] at hs
      obtain rfl := Option.some.inj hs
      obtain ⟨r, h4, h5⟩ := rowVw_kind hrv
      have := hr.2 r h4
      simpa only [ηV, h3, ← h5] using this
    case h_2 => trivial
    case h_3 => exact hx.elim
theorem vws_sound (hh : HRep w B ob hp nx η) (hfree : ∀ b, ownB hp η b → ¬ ob b) (hv : rowsVw hp R nx' hp') : ∀ (l l' : List AVal) {vs : List Value}, vws hp R nx' l l' → VReps w (badOf ob hp η) hp nx η l vs → VReps w (badOf ob hp' (ηV hp η R)) hp' nx' (ηV hp η R) l' vs
  | [], l', [], hx, _ => by cases l' with | nil => trivial | cons => exact hx.elim
  | y :: l, l', v :: vs, hx, h => by
    cases l' with
    | nil => exact hx.elim
    | cons x r => exact ⟨vw_sound hh hfree hv y x hx.1 h.1, vws_sound hh hfree hv l r hx.2 h.2⟩
  | [], _, _ :: _, _, h => h.elim
  | _ :: _, _, [], _, h => h.elim
end
end

section
variable {P : Program} {Γ : Tys} {w0 : Base} {w w' : World} {ob : Nat → Prop} {st st' : St} {a : Act} {η : Env} {R : List (Nat × Org)}

theorem owns_nil (w : World) (B e : Nat) : w.ownsRow B e 1 (.slice none 0 0) 0 [] := ⟨rfl, .inl ⟨rfl, rfl⟩⟩

theorem View.heap {B nx nx' : Nat} {hp hp' : List (Nat × ARow)} (hh : HRep w B ob hp nx η) (hfree : ∀ b, ownB hp η b → ¬ ob b) (hd : distinct R = true) (hv : rowsVw hp R nx' hp') : HRep w B ob hp' nx' (ηV hp η R) := by
  refine ⟨fun j r' hj => ?_, fun j r' hj => ?_, fun j r j' r' hj hj' hne b hb hm => ?_, fun j r' hj => (rowsVw_at hv hj).1⟩
  · obtain ⟨_, s, hs, hrv⟩ := rowsVw_at hv hj
    cases s with
    | nil =>
      unfold rowVw at hrv
      simp only at hrv
      split at hrv
      case h_1 => exact ⟨by simp only [ηV, hs, OwnInts]; exact owns_nil _ _ _, by simp only [ηV, hs]; rfl⟩
      case h_2 e e1 u =>
        cases u with
        | true => exact ⟨by simp only [ηV, hs]; exact owns_nil _ _ _, by simp only [ηV, hs]; trivial⟩
        | false => exact ⟨by simp only [ηV, hs]; exact owns_nil _ _ _, by simp only [ηV, hs]; trivial⟩
      case h_3 e s => exact ⟨by simp only [ηV, hs]; exact ⟨by simp, .inl ⟨rfl, rfl⟩⟩, [], by simp only [ηV, hs]; rfl, trivial⟩
      case h_4 => exact hrv.elim
    | row k =>
      unfold rowVw at hrv
      simp only at hrv
      split at hrv
      case h_3 => exact hrv.elim
      case h_1 e l hlk =>
        split at hrv
        case h_2 => exact hrv.elim
        case h_1 e' l' =>
          obtain ⟨rfl, hx⟩ := hrv
          obtain ⟨b, h1, h2, h3, h4⟩ := hh.row k _ hlk
          exact ⟨b, by simp only [ηV, hs]; exact h1, h2, by simp only [ηV, hs]; exact h3, by
            have := vws_sound hh hfree hv l l' hx h4
            simpa only [ηV, hs] using this⟩
      case h_2 r _ hlk =>
        subst hrv
        have hrow := hh.row k r hlk
        match r with
        | .ints e kd l => simpa only [RowRep, OwnInts, ηV, hs] using hrow
        | .rows e e1 true m => simpa only [RowRep, ηV, hs] using hrow
        | .rows e e1 false m =>
          refine ⟨by simpa only [ηV, hs] using hrow.1, ?_⟩
          have := F2.imp (fun _ _ _ h => SInts.keeps (vw_keeps hh hv) h) hrow.2
          simpa only [ηV, hs] using this
        | .cells e l =>
          rename_i hnc
          exact (hnc e l rfl).elim
        | .recs e s L =>
          obtain ⟨g1, css, g2, g3⟩ := hrow
          refine ⟨by simpa only [ηV, hs] using g1, css, by simpa only [ηV, hs] using g2, ?_⟩
          exact F2.imp (fun _ _ _ h => h.keeps (vw_keeps hh hv)) g3
    | sub k i =>
      unfold rowVw at hrv
      simp only at hrv
      split at hrv
      case h_2 => exact hrv.elim
      case h_1 e e1 m hlk =>
        obtain ⟨hi, rfl⟩ := hrv
        have hrow := hh.row k _ hlk
        obtain ⟨v, hvi, ho⟩ := F2.at hrow.2 (List.getElem?_eq_getElem hi)
        have e1 : m.getD i [] = m[i] := getD_of (List.getElem?_eq_getElem hi)
        refine ⟨?_, by simp only [ηV, hs, hlk]⟩
        simp only [ηV, hs, OwnInts]
        rw [getD_of hvi, e1]
        exact ho
  · obtain ⟨_, s, hs, hrv⟩ := rowsVw_at hv hj
    exact (vw_blocks hh hs hrv).2
  · obtain ⟨_, s, hs, hrv⟩ := rowsVw_at hv hj
    obtain ⟨_, s', hs', hrv'⟩ := rowsVw_at hv hj'
    obtain ⟨k, r0, h1, h2, h3⟩ := (vw_blocks hh hs hrv).1 b hb
    obtain ⟨k', r0', h1', h2', h3'⟩ := (vw_blocks hh hs' hrv').1 b hm
    refine hh.apart k r0 k' r0' h2 h2' (fun e => ?_) b h3 h3'
    subst e
    exact distinct_spec hd hs hs' hne h1 h1'

theorem View.rep (hs : View R st st') (h : SRep w0 ob st a w η) : SRep w0 ob st' a w (ηV st.hp η R) := by
  refine ⟨h.defers, h.size.trans hs.sz, h.below, h.base, h.frame, fun b hb => ?_, View.heap h.heap (fun b hb => h.free hb) hs.di hs.hp, fun i x hi => ?_⟩
  · obtain ⟨_, _, k, r, _, _, h4, h5⟩ := vw_own h.heap hs.hp hb
    exact h.src b ⟨k, r, h4, h5⟩
  · obtain ⟨y, h1, h2⟩ := slotsVw_at hs.sl hi
    exact vw_sound h.heap (fun b hb => h.free hb) hs.hp y x h2 (h.slot i y h1)

theorem acode_view {b : Code} {K : Exit → St → Prop} (hs : View R st st') (h : ALoop P b st' K) : ALoop P b st K :=
  ⟨fun w0 ob a w ⟨_, hr⟩ => h.run w0 ob a w ⟨_, hs.rep hr⟩⟩

/-- .. of which all orders come to one state -/
theorem ADraw.mid {ops : Array Oper} {K : St → Prop} (mid : St) (h : ADraw P ops st (fun st1 => ∃ R, View R st1 mid)) (hk : K mid) : ADraw P ops st K :=
  ⟨fun id w0 ob a w hr => wp_mono (h.run id w0 ob a w hr) (fun _ _ _ ⟨he, _, ⟨_, hv⟩, ⟨_, hs⟩⟩ => ⟨he, mid, hk, _, hv.rep hs⟩)⟩

def orId (o : Option (List (Nat × Org))) (h : List (Nat × ARow)) : List (Nat × Org) :=
  match o with
  | some R => R
  | none => idR h

/-- the view by which the second state is to be had ('none': every row by its own name) -/
abbrev Seen (o : Option (List (Nat × Org))) (st st' : St) : Prop := View (orId o st'.hp) st st'

/-- THE LOOP: states told by an index with a fact on it, and a number that every round lowers -/
theorem aloopI {ι : Type} (hΓ : TysOk P Γ) (hm : P.follows .mixedOrders = true) (inv : ι → St) (I : ι → Prop) (μ : ι → Nat) {b : Code} {K : Exit → St → Prop} (i0 : ι) (hI : I i0) (o0 : Option (List (Nat × Org))) (h0 : Seen o0 st (inv i0))
    (round : ∀ i, I i → acode P Γ b (inv i) fun e st' => match e with | .normal => ∃ j o, Seen o st' (inv j) ∧ I j ∧ μ j < μ i | e => K e st') : ALoop P b st K := by
  refine ⟨fun w0 ob a w ⟨η, h⟩ => ?_⟩
  intro fb k cs
  have key : ∀ (n : Nat) (i : ι), I i → μ i = n → ∀ a w, StRep w0 ob (inv i) a w →
      ∃ e a' w', lift w0 ob K e a' w' ∧ Arrives P (lone (fb.at a (.code b :: .inLoop b :: k)) cs w) fb k cs e a' w' := by
    intro n
    induction n using Nat.strongRecOn with
    | _ n ih =>
      intro i hIi hi a w hr
      obtain ⟨e, a', w', ⟨st', hk', η', hs'⟩, harr⟩ := acode_sound (w0 := w0) (ob := ob) hΓ hm b (inv i) _ a w (round i hIi) hr fb (.inLoop b :: k) cs
      cases e with
      | normal =>
        obtain ⟨j, o, hsub, hIj, hlt⟩ := hk'
        obtain ⟨e2, a2, w2, hq2, harr2⟩ := ih (μ j) (hi ▸ hlt) j hIj rfl a' w' ⟨_, View.rep hsub hs'⟩
        exact ⟨e2, a2, w2, hq2, .of_steps (Steps.trans harr (.one step_inLoop)) harr2⟩
      | exit id => exact ⟨_, a', w', ⟨st', hk', η', hs'⟩, .pass (x := .inLoop b) rfl (fun _ _ => .inl (by simp)) harr⟩
      | goto l => exact ⟨_, a', w', ⟨st', hk', η', hs'⟩, .pass (x := .inLoop b) rfl (fun _ _ => .inl (by simp)) harr⟩
      | ret => exact ⟨_, a', w', ⟨st', hk', η', hs'⟩, .pass (x := .inLoop b) rfl (fun _ _ => .inl (by simp)) harr⟩
      | panic ch => exact ⟨_, a', w', ⟨st', hk', η', hs'⟩, .pass (x := .inLoop b) rfl (fun _ _ => .inl (by simp)) harr⟩
      | outgrown => exact ⟨_, a', w', ⟨st', hk', η', hs'⟩, .pass (x := .inLoop b) rfl (fun _ _ => .inl (by simp)) harr⟩
  obtain ⟨e, a', w', hq, harr⟩ := key (μ i0) i0 hI rfl a w ⟨_, View.rep h0 h⟩
  exact ⟨e, a', w', hq, .of_steps (.one step_loop) harr⟩
end
end Go.Aw
/- What a function hands back; the contract of a whole function. -/
namespace Go.Aw
open Go.RowKit

mutual
/-- the rows that a result leads to, in their order (an inner row by its place) -/
def refs : AVal → List (Nat × Option Nat)
  | .own k => [(k, none)]
  | .sub k i => [(k, some i)]
  | .ag l | .tu l => refsAll l
  | _ => []
def refsAll : List AVal → List (Nat × Option Nat)
  | [] => []
  | a :: r => refs a ++ refsAll r
end

mutual
/-- the result with its rows numbered from n on -/
def canon (n : Nat) : AVal → Option (AVal × Nat)
  | .c v => some (.c v, n)
  | .nul => some (.nul, n)
  | .t t => some (.t t, n)
  | .own _ | .sub _ _ => some (.own n, n + 1)
  | .ag l => match canons n l with
    | some (l', m) => some (.ag l', m)
    | none => none
  | .tu l => match canons n l with
    | some (l', m) => some (.tu l', m)
    | none => none
  | _ => none
def canons (n : Nat) : List AVal → Option (List AVal × Nat)
  | [] => some ([], n)
  | a :: r => match canon n a with
    | none => none
    | some (a', m) => match canons m r with
      | none => none
      | some (r', q) => some (a' :: r', q)
end

def rowOf (hp : List (Nat × ARow)) (p : Nat × Option Nat) : Option ARow :=
  match look hp p.1 with
  | some (.cells ..) => none
  | some r => match p.2 with
    | none => some r
    | some i => match r with
      | .rows _ e1 true m => some (.ints e1 .i64 (m.getD i []))
      | _ => none
  | none => none

def rowsOf (hp : List (Nat × ARow)) (n : Nat) : List (Nat × Option Nat) → Option (List (Nat × ARow))
  | [] => some []
  | p :: r => match rowOf hp p with
    | none => none
    | some x => match rowsOf hp (n + 1) r with
      | none => none
      | some l => some ((n, x) :: l)

def fresh (k : Nat) : List (Nat × Option Nat) → Bool
  | [] => true
  | (j, _) :: r => match Nat.beq j k with | true => false | false => fresh k r

def differ : List (Nat × Option Nat) → Bool
  | [] => true
  | (k, _) :: r => match fresh k r with | true => differ r | false => false

def afin (st : St) (x : AVal) (post : AVal → List (Nat × ARow) → Prop) : Prop :=
  match canon 0 x with
  | none => False
  | some (x', _) => match differ (refs x) with
    | false => False
    | true => match rowsOf st.hp 0 (refs x) with
      | none => False
      | some h => post x' h

def ares (Γ : Tys) (st : St) : List ResultVar → (List AVal → Prop) → Prop
  | [], K => K []
  | .tmp t :: r, K => match lk st t with
    | some x => ares Γ st r fun l => K (x :: l)
    | none => False
  | .cell p t :: r, K => match lk st p with
    | some y => match isKey st.hp (match y with | .ptr k _ => k | _ => st.nx) with
      | true => aload Γ st t y fun x => ares Γ st r fun l => K (x :: l)
      | false => False
    | none => False

def aret (Γ : Tys) (st : St) (rs : List ResultVar) (post : AVal → List (Nat × ARow) → Prop) : Prop :=
  ares Γ st rs fun l => match l with
    | [x] => afin st x post
    | l => afin st (.tu l) post

section
variable {P : Program} {Γ : Tys} {w0 : Base} {w w' : World} {ob : Nat → Prop} {st : St} {a : Act} {η : Env}

def valOf (η : Env) (p : Nat × Option Nat) : Value :=
  match p.2 with
  | none => η.val p.1
  | some i => (η.cel p.1).getD i undef

def celOf (hp : List (Nat × ARow)) (η : Env) (p : Nat × Option Nat) : List Value :=
  match p.2 with
  | none => η.cel p.1
  | some i => match look hp p.1 with
    | some (.rows _ _ _ m) => (m.getD i []).map (Value.int .i64)
    | _ => []

def ηret (hp : List (Nat × ARow)) (η : Env) (R : List (Nat × Option Nat)) : Env := ⟨fun j => valOf η (R.getD j (0, none)), fun j => celOf hp η (R.getD j (0, none))⟩

theorem rowsOf_spec {hp : List (Nat × ARow)} : ∀ {R : List (Nat × Option Nat)} {n : Nat} {h : List (Nat × ARow)}, rowsOf hp n R = some h →
    h.length = R.length ∧ (∀ j, j < n → look h j = none) ∧ ∀ j, look h (n + j) = (R[j]?).bind (rowOf hp)
  | [], n, h, hr => by simp only [rowsOf, Option.some.injEq] at hr; subst hr; exact ⟨rfl, fun _ _ => rfl, fun j => by simp [look]⟩
  | p :: R, n, h, hr => by
    simp only [rowsOf] at hr
    cases hp1 : rowOf hp p with
    | none => rw [hp1] at hr; cases hr
    | some x =>
      rw [hp1] at hr
      simp only at hr
      cases hl : rowsOf hp (n + 1) R with
      | none => rw [hl] at hr; cases hr
      | some l =>
        rw [hl] at hr
        simp only [Option.some.injEq] at hr
        subst hr
        obtain ⟨h1, h2, h3⟩ := rowsOf_spec hl
        refine ⟨by simp [h1], fun j hj => ?_, fun j => ?_⟩
        · rw [look_cons, if_neg (by omega)]; exact h2 j (by omega)
        · rw [look_cons]
          match j with
          | 0 => simp [hp1]
          | j + 1 =>
            rw [if_neg (by omega)]
            have := h3 j
            rw [show n + (j + 1) = n + 1 + j by omega, this]
            simp

theorem fresh_spec {k : Nat} : ∀ {R : List (Nat × Option Nat)}, fresh k R = true → ∀ p, p ∈ R → p.1 ≠ k
  | [], _, p, hp => by simp at hp
  | (j, o) :: R, h, p, hp => by
    simp only [fresh] at h
    split at h
    case h_1 => cases h
    case h_2 hb =>
      rcases List.mem_cons.1 hp with rfl | hp
      · exact fun e => by simp only at e; rw [e, Nat.beq_refl] at hb; cases hb
      · exact fresh_spec h p hp

theorem differ_spec : ∀ {R : List (Nat × Option Nat)}, differ R = true → ∀ (i j : Nat) (p q : Nat × Option Nat), R[i]? = some p → R[j]? = some q → i ≠ j → p.1 ≠ q.1
  | [], _, i, j, p, q, hi, _, _ => by simp at hi
  | (k, o) :: R, h, i, j, p, q, hi, hj, hne => by
    simp only [differ] at h
    split at h
    case h_2 => cases h
    case h_1 hf =>
      match i, j with
      | 0, 0 => exact absurd rfl hne
      | 0, j + 1 => simp at hi hj; subst hi; exact Ne.symm (fresh_spec hf q (List.mem_of_getElem? hj))
      | i + 1, 0 => simp at hi hj; subst hj; exact fresh_spec hf p (List.mem_of_getElem? hi)
      | i + 1, j + 1 => simp at hi hj; exact differ_spec h i j p q hi hj (by omega)

/-- an inner row's place is within the row -/
def inOk (η : Env) (p : Nat × Option Nat) : Prop := ∀ i, p.2 = some i → i < (η.cel p.1).length

theorem rowOf_rep {B : Nat} {hp : List (Nat × ARow)} {nx : Nat} (hh : HRep w B ob hp nx η) {R : List (Nat × Option Nat)} {j : Nat} {p : Nat × Option Nat} (hj : R[j]? = some p) {r : ARow} (hr : rowOf hp p = some r) (hin : inOk η p)
    {bad' : Nat → Prop} (hk : Keeps w (badOf ob hp η) w bad') {hp' : List (Nat × ARow)} {nx' : Nat} :
    RowRep w B bad' hp' nx' (ηret hp η R) j r ∧ (∃ r0, look hp p.1 = some r0 ∧ (∀ b, b ∈ bsOf (ηret hp η R) j r → b ∈ bsOf η p.1 r0)) ∧ (bsOf (ηret hp η R) j r).Nodup ∧ r.kind < 4 := by
  have hR : R.getD j (0, none) = p := getD_of hj
  have hv : (ηret hp η R).val j = valOf η p := by simp [ηret, hj]
  have hc : (ηret hp η R).cel j = celOf hp η p := by simp [ηret, hj]
  obtain ⟨k, o⟩ := p
  unfold rowOf at hr
  split at hr
  case h_1 => cases hr
  case h_3 => cases hr
  case h_2 r0 hnc hlk0 =>
    have hlk : look hp k = some r0 := hlk0
    have hrow := hh.row k r0 hlk
    have hnd := hh.nodup k r0 hlk
    split at hr
    case h_1 ho =>
      simp only at ho
      subst ho
      simp only [Option.some.injEq] at hr
      subst hr
      have hbs : bsOf (ηret hp η R) j r0 = bsOf η k r0 := by simp only [bsOf, hv, hc, valOf, celOf]
      refine ⟨?_, ⟨r0, hlk, fun b hb => by rwa [hbs] at hb⟩, by rw [hbs]; exact hnd, ?_⟩
      · match r0 with
        | .ints e kd l => simp only [RowRep, OwnInts, hv, hc]; exact hrow
        | .rows e e1 true m => simp only [RowRep, hv, hc]; exact hrow
        | .rows e e1 false m => simp only [RowRep, hv, hc]; exact ⟨hrow.1, F2.imp (fun _ _ _ ho => ho.keeps hk) hrow.2⟩
        | .cells e l => exact (hnc e l rfl).elim
        | .recs e s L =>
          obtain ⟨g1, css, g2, g3⟩ := hrow
          simp only [RowRep, hv, hc]
          exact ⟨g1, css, g2, F2.imp (fun _ _ _ ho => ho.keeps hk) g3⟩
      · match r0 with
        | .ints .. => simp [ARow.kind]
        | .rows _ _ true _ => simp [ARow.kind]
        | .rows _ _ false _ => simp [ARow.kind]
        | .recs .. => simp [ARow.kind]
        | .cells e l => exact (hnc e l rfl).elim
    case h_2 i ho =>
      simp only at ho
      subst ho
      split at hr
      case h_2 => cases hr
      case h_1 e e1 m =>
        simp only [Option.some.injEq] at hr
        subst hr
        have hi := hin i rfl
        simp only at hi
        obtain ⟨v, hvi⟩ : ∃ v, (η.cel k)[i]? = some v := ⟨_, List.getElem?_eq_getElem hi⟩
        obtain ⟨l, hl, ho⟩ := F2.at' hrow.2 hvi
        have hv' : (ηret hp η R).val j = v := by rw [hv]; exact getD_of hvi
        have hc' : (ηret hp η R).cel j = l.map (Value.int .i64) := by rw [hc]; simp only [celOf, hlk]; rw [getD_of hl]
        rw [getD_of hl]
        have hbs : bsOf (ηret hp η R) j (.ints e1 .i64 l) = blk v := by simp [bsOf, ARow.kind, hv']
        refine ⟨?_, ⟨_, hlk, fun b hb => ?_⟩, ?_, by simp [ARow.kind]⟩
        · simp only [RowRep, hv', hc']; exact ⟨ho, trivial⟩
        · rw [hbs] at hb
          simp only [bsOf, ARow.kind, if_true]
          exact List.mem_append.2 (.inr (List.mem_flatMap.2 ⟨v, List.mem_of_getElem? hvi, hb⟩))
        · rw [hbs]
          have hflat : ((η.cel k).flatMap blk).Nodup := by
            simp only [bsOf, ARow.kind, if_true] at hnd
            exact (List.nodup_append.1 hnd).2.1
          have hsub : (blk v).Sublist ((η.cel k).flatMap blk) := by
            obtain ⟨s, t, hst⟩ := List.append_of_mem (List.mem_of_getElem? hvi)
            rw [hst]
            simp only [List.flatMap_append, List.flatMap_cons]
            exact (List.sublist_append_left _ _).trans (List.sublist_append_right _ _)
          exact hflat.sublist hsub

mutual
theorem canon_rep {hp h : List (Nat × ARow)} {nx : Nat} {bad' : Nat → Prop} (hk : Keeps w (badOf ob hp η) w bad') {R : List (Nat × Option Nat)} (hlen : h.length = R.length) (hrows : ∀ j, look h j = (R[j]?).bind (rowOf hp))
    (hkind : ∀ (j : Nat) (p : Nat × Option Nat) (r : ARow), R[j]? = some p → rowOf hp p = some r → r.kind < 4) : ∀ (x : AVal) {n n' : Nat} {x' : AVal} {v : Value}, canon n x = some (x', n') → (∀ j, j < (refs x).length → R[n + j]? = (refs x)[j]?) → (∀ p, p ∈ refs x → ∃ r, rowOf hp p = some r) →
      VRep w (badOf ob hp η) hp nx η x v → n' = n + (refs x).length ∧ VRep w bad' h h.length (ηret hp η R) x' v
  | .c y, n, n', x', v, hc, _, _, hv => by simp only [canon, Option.some.injEq, Prod.mk.injEq] at hc; obtain ⟨rfl, rfl⟩ := hc; exact ⟨by simp [refs], hv⟩
  | .t t, n, n', x', v, hc, _, _, hv => by simp only [canon, Option.some.injEq, Prod.mk.injEq] at hc; obtain ⟨rfl, rfl⟩ := hc; exact ⟨by simp [refs], TRep.keeps hk hv⟩
  | .nul, n, n', x', v, hc, _, _, hv => by simp only [canon, Option.some.injEq, Prod.mk.injEq] at hc; obtain ⟨rfl, rfl⟩ := hc; exact ⟨by simp [refs], hv⟩
  | .own k, n, n', x', v, hc, hR, hro, hv => by
    simp only [canon, Option.some.injEq, Prod.mk.injEq] at hc
    obtain ⟨rfl, rfl⟩ := hc
    have h0 : R[n]? = some (k, none) := by simpa [refs] using hR 0 (by simp [refs])
    refine ⟨by simp [refs], ?_, fun r hr => ?_⟩
    · rw [hlen]; exact (List.getElem?_eq_some_iff.1 h0).1
    · rw [hrows, h0] at hr
      simp only [Option.bind_some] at hr
      refine ⟨hkind n _ r h0 hr, ?_⟩
      obtain ⟨r1, h1⟩ := hro (k, none) (by simp [refs])
      have : ∃ r0, look hp k = some r0 := by
        unfold rowOf at h1
        cases hl : look hp k with
        | none => rw [hl] at h1; cases h1
        | some r0 => exact ⟨r0, rfl⟩
      obtain ⟨r0, hr0⟩ := this
      rw [(hv.2 r0 hr0).2]
      simp [ηret, h0, valOf]
  | .sub k i, n, n', x', v, hc, hR, hro, hv => by
    simp only [canon, Option.some.injEq, Prod.mk.injEq] at hc
    obtain ⟨rfl, rfl⟩ := hc
    have h0 : R[n]? = some (k, some i) := by simpa [refs] using hR 0 (by simp [refs])
    refine ⟨by simp [refs], ?_, fun r hr => ?_⟩
    · rw [hlen]; exact (List.getElem?_eq_some_iff.1 h0).1
    · rw [hrows, h0] at hr
      simp only [Option.bind_some] at hr
      refine ⟨hkind n _ r h0 hr, ?_⟩
      obtain ⟨r1, h1⟩ := hro (k, some i) (by simp [refs])
      have : ∃ r0, look hp k = some r0 := by
        unfold rowOf at h1
        cases hl : look hp k with
        | none => rw [hl] at h1; cases h1
        | some r0 => exact ⟨r0, rfl⟩
      obtain ⟨r0, hr0⟩ := this
      have := (hv.2 r0 hr0).2
      simp [ηret, h0, valOf, this]
  | .ag l, n, n', x', v, hc, hR, hro, hv => by
    simp only [canon] at hc
    cases hcs : canons n l with
    | none => rw [hcs] at hc; cases hc
    | some q =>
      obtain ⟨l', m⟩ := q
      rw [hcs] at hc
      simp only [Option.some.injEq, Prod.mk.injEq] at hc
      obtain ⟨rfl, rfl⟩ := hc
      obtain ⟨cs, rfl, hr⟩ := hv
      obtain ⟨h1, h2⟩ := canons_rep hk hlen hrows hkind l hcs (by simpa [refs] using hR) (by simpa [refs] using hro) hr
      exact ⟨by simpa [refs] using h1, cs, rfl, h2⟩
  | .tu l, n, n', x', v, hc, hR, hro, hv => by
    simp only [canon] at hc
    cases hcs : canons n l with
    | none => rw [hcs] at hc; cases hc
    | some q =>
      obtain ⟨l', m⟩ := q
      rw [hcs] at hc
      simp only [Option.some.injEq, Prod.mk.injEq] at hc
      obtain ⟨rfl, rfl⟩ := hc
      obtain ⟨cs, rfl, hr⟩ := hv
      obtain ⟨h1, h2⟩ := canons_rep hk hlen hrows hkind l hcs (by simpa [refs] using hR) (by simpa [refs] using hro) hr
      exact ⟨by simpa [refs] using h1, cs, rfl, h2⟩
  | .un, _, _, _, _, hc, _, _, _ => by simp [canon] at hc
  | .ptr _ _, _, _, _, _, hc, _, _, _ => by simp [canon] at hc
  | .subp _ _ _, _, _, _, _, hc, _, _, _ => by simp [canon] at hc
  | .adr _ _, _, _, _, _, hc, _, _, _ => by simp [canon] at hc
  | .rp _ _, _, _, _, _, hc, _, _, _ => by simp [canon] at hc
  | .clo _ _, _, _, _, _, hc, _, _, _ => by simp [canon] at hc
theorem canons_rep {hp h : List (Nat × ARow)} {nx : Nat} {bad' : Nat → Prop} (hk : Keeps w (badOf ob hp η) w bad') {R : List (Nat × Option Nat)} (hlen : h.length = R.length) (hrows : ∀ j, look h j = (R[j]?).bind (rowOf hp))
    (hkind : ∀ (j : Nat) (p : Nat × Option Nat) (r : ARow), R[j]? = some p → rowOf hp p = some r → r.kind < 4) : ∀ (l : List AVal) {n n' : Nat} {l' : List AVal} {vs : List Value}, canons n l = some (l', n') → (∀ j, j < (refsAll l).length → R[n + j]? = (refsAll l)[j]?) → (∀ p, p ∈ refsAll l → ∃ r, rowOf hp p = some r) →
      VReps w (badOf ob hp η) hp nx η l vs → n' = n + (refsAll l).length ∧ VReps w bad' h h.length (ηret hp η R) l' vs
  | [], n, n', l', [], hc, _, _, _ => by simp only [canons, Option.some.injEq, Prod.mk.injEq] at hc; obtain ⟨rfl, rfl⟩ := hc; exact ⟨by simp [refsAll], trivial⟩
  | x :: l, n, n', l', v :: vs, hc, hR, hro, hv => by
    simp only [canons] at hc
    cases hcx : canon n x with
    | none => rw [hcx] at hc; cases hc
    | some q =>
      obtain ⟨x', m⟩ := q
      rw [hcx] at hc
      simp only at hc
      cases hcs : canons m l with
      | none => rw [hcs] at hc; cases hc
      | some q2 =>
        obtain ⟨r', q⟩ := q2
        rw [hcs] at hc
        simp only [Option.some.injEq, Prod.mk.injEq] at hc
        obtain ⟨rfl, rfl⟩ := hc
        simp only [refsAll] at hR hro
        obtain ⟨h1, h2⟩ := canon_rep hk hlen hrows hkind x hcx (fun j hj => by rw [hR j (by simp; omega), List.getElem?_append_left hj]) (fun p hp => hro p (by simp [hp])) hv.1
        subst h1
        obtain ⟨h3, h4⟩ := canons_rep hk hlen hrows hkind l hcs (fun j hj => by
          have := hR ((refs x).length + j) (by simp; omega)
          rw [List.getElem?_append_right (by omega)] at this
          rw [Nat.add_assoc, this]; simp) (fun p hp => hro p (by simp [hp])) hv.2
        exact ⟨by simp only [refsAll, List.length_append]; omega, h2, h4⟩
  | [], _, _, _, _ :: _, _, _, _, hv => hv.elim
  | _ :: _, _, _, _, [], _, _, _, hv => hv.elim
end

mutual
theorem refs_in {hp : List (Nat × ARow)} {nx : Nat} {bad : Nat → Prop} : ∀ (x : AVal) {v : Value}, VRep w bad hp nx η x v → ∀ p, p ∈ refs x → (∃ r, look hp p.1 = some r) → inOk η p
  | .own k, v, hv, p, hp, _ => by simp only [refs, List.mem_singleton] at hp; subst hp; intro i hi; cases hi
  | .sub k i, v, hv, p, hp, ⟨r, hr⟩ => by
    simp only [refs, List.mem_singleton] at hp
    subst hp
    intro j hj
    simp only [Option.some.injEq] at hj
    subst hj
    exact (List.getElem?_eq_some_iff.1 (hv.2 r hr).2).1
  | .ag l, v, ⟨cs, _, hr⟩, p, hp, hl => refsAll_in l hr p (by simpa [refs] using hp) hl
  | .tu l, v, ⟨cs, _, hr⟩, p, hp, hl => refsAll_in l hr p (by simpa [refs] using hp) hl
  | .un, _, _, p, hp, _ => by simp [refs] at hp
  | .c _, _, _, p, hp, _ => by simp [refs] at hp
  | .t _, _, _, p, hp, _ => by simp [refs] at hp
  | .ptr _ _, _, _, p, hp, _ => by simp [refs] at hp
  | .subp _ _ _, _, _, p, hp, _ => by simp [refs] at hp
  | .adr _ _, _, _, p, hp, _ => by simp [refs] at hp
  | .rp _ _, _, _, p, hp, _ => by simp [refs] at hp
  | .clo _ _, _, _, p, hp, _ => by simp [refs] at hp
theorem refsAll_in {hp : List (Nat × ARow)} {nx : Nat} {bad : Nat → Prop} : ∀ (l : List AVal) {vs : List Value}, VReps w bad hp nx η l vs → ∀ p, p ∈ refsAll l → (∃ r, look hp p.1 = some r) → inOk η p
  | [], [], _, p, hp, _ => by simp [refsAll] at hp
  | x :: l, v :: vs, h, p, hp, hl => by
    simp only [refsAll, List.mem_append] at hp
    rcases hp with hp | hp
    · exact refs_in x h.1 p hp hl
    · exact refsAll_in l h.2 p hp hl
  | [], _ :: _, h, _, _, _ => h.elim
  | _ :: _, [], h, _, _, _ => h.elim
end

theorem rowOf_look {hp : List (Nat × ARow)} {p : Nat × Option Nat} {r : ARow} (h : rowOf hp p = some r) : ∃ r0, look hp p.1 = some r0 := by
  unfold rowOf at h
  cases hl : look hp p.1 with
  | none => rw [hl] at h; cases h
  | some r0 => exact ⟨r0, rfl⟩

theorem rowsOf_all {hp : List (Nat × ARow)} : ∀ {R : List (Nat × Option Nat)} {n : Nat} {h : List (Nat × ARow)}, rowsOf hp n R = some h → ∀ p, p ∈ R → ∃ r, rowOf hp p = some r
  | [], _, _, _, p, hm => by simp at hm
  | q :: R, n, h, hr, p, hm => by
    simp only [rowsOf] at hr
    cases hq : rowOf hp q with
    | none => rw [hq] at hr; cases hr
    | some x =>
      rw [hq] at hr
      simp only at hr
      cases hl : rowsOf hp (n + 1) R with
      | none => rw [hl] at hr; cases hr
      | some l =>
        rcases List.mem_cons.1 hm with rfl | hm
        · exact ⟨x, hq⟩
        · exact rowsOf_all hl p hm

theorem rowOf_nc {hp : List (Nat × ARow)} {p : Nat × Option Nat} {r r0 : ARow} (h : rowOf hp p = some r) (h0 : look hp p.1 = some r0) (e : Nat) (l : List AVal) : r0 ≠ .cells e l := by
  rintro rfl
  unfold rowOf at h
  rw [h0] at h
  cases h

/-- what is handed back -/
theorem afin_sound' (h : SRep w0 ob st a w η) {x : AVal} {v : Value} (hv : VR w ob st η x v) {post : AVal → List (Nat × ARow) → Prop} (hk : afin st x post) :
    ∃ x' hr ηr, post x' hr ∧ HRep w w0.B ob hr hr.length ηr ∧ VRep w (fun b => ob b ∨ ownB hr ηr b) hr hr.length ηr x' v ∧
      ∀ b, ownB hr ηr b → ∃ k r, look st.hp k = some r ∧ (∀ e l, r ≠ .cells e l) ∧ b ∈ bsOf η k r := by
  unfold afin at hk
  split at hk
  case h_1 => exact hk.elim
  case h_2 x' m hc =>
    split at hk
    case h_1 => exact hk.elim
    case h_2 hd =>
      split at hk
      case h_1 => exact hk.elim
      case h_2 hr hrs =>
        obtain ⟨hlen, _, hlk⟩ := rowsOf_spec hrs
        have hlk' : ∀ j, look hr j = ((refs x)[j]?).bind (rowOf st.hp) := fun j => by simpa using hlk j
        have hall := rowsOf_all hrs
        have hin : ∀ p, p ∈ refs x → inOk η p := fun p hp => by
          obtain ⟨r, h1⟩ := hall p hp
          exact refs_in x hv p hp (rowOf_look h1)
        have hget : ∀ j r, look hr j = some r → ∃ p, (refs x)[j]? = some p ∧ rowOf st.hp p = some r := fun j r hj => by
          rw [hlk'] at hj
          exact Option.bind_eq_some_iff.1 hj
        have hkeep0 : ∀ bad', (∀ b, bad' b → badOf ob st.hp η b) → Keeps w (badOf ob st.hp η) w bad' := fun bad' hs b o y hb hcell => ⟨fun h1 => hb (hs b h1), hcell⟩
        -- the result's rows are rows of the call's own
        have hown : ∀ b, ownB hr (ηret st.hp η (refs x)) b → ownB st.hp η b := fun b ⟨j, r, hj, hb⟩ => by
          obtain ⟨p, h1, h2⟩ := hget j r hj
          obtain ⟨_, ⟨r0, h3, h4⟩, _, _⟩ := rowOf_rep (bad' := fun _ => False) (hp' := []) (nx' := 0) h.heap h1 h2 (hin p (List.mem_of_getElem? h1)) (Keeps.none w _)
          exact ⟨p.1, r0, h3, h4 b hb⟩
        have hown2 : ∀ b, ownB hr (ηret st.hp η (refs x)) b → ∃ k r, look st.hp k = some r ∧ (∀ e l, r ≠ .cells e l) ∧ b ∈ bsOf η k r := fun b ⟨j, r, hj, hb⟩ => by
          obtain ⟨p, h1, h2⟩ := hget j r hj
          obtain ⟨_, ⟨r0, h3, h4⟩, _, _⟩ := rowOf_rep (bad' := fun _ => False) (hp' := []) (nx' := 0) h.heap h1 h2 (hin p (List.mem_of_getElem? h1)) (Keeps.none w _)
          exact ⟨p.1, r0, h3, rowOf_nc h2 h3, h4 b hb⟩
        have hkeep := hkeep0 (fun b => ob b ∨ ownB hr (ηret st.hp η (refs x)) b) (fun b hb => hb.imp id (hown b))
        have hrep : ∀ j r, look hr j = some r → ∃ p, (refs x)[j]? = some p ∧ RowRep w w0.B (fun b => ob b ∨ ownB hr (ηret st.hp η (refs x)) b) hr hr.length (ηret st.hp η (refs x)) j r ∧
            (∃ r0, look st.hp p.1 = some r0 ∧ (∀ b, b ∈ bsOf (ηret st.hp η (refs x)) j r → b ∈ bsOf η p.1 r0)) ∧ (bsOf (ηret st.hp η (refs x)) j r).Nodup := fun j r hj => by
          obtain ⟨p, h1, h2⟩ := hget j r hj
          obtain ⟨g1, g2, g3, _⟩ := rowOf_rep (hp' := hr) (nx' := hr.length) h.heap h1 h2 (hin p (List.mem_of_getElem? h1)) hkeep
          exact ⟨p, h1, g1, g2, g3⟩
        refine ⟨x', hr, ηret st.hp η (refs x), hk, ⟨fun j r hj => ?_, fun j r hj => ?_, fun j r j' r' hj hj' hne b hb hm => ?_, fun j r hj => ?_⟩, ?_, hown2⟩
        · obtain ⟨_, _, g, _⟩ := hrep j r hj; exact g
        · obtain ⟨_, _, _, _, g⟩ := hrep j r hj; exact g
        · obtain ⟨p, h1, _, ⟨r0, h2, h3⟩, _⟩ := hrep j r hj
          obtain ⟨p', h1', _, ⟨r0', h2', h3'⟩, _⟩ := hrep j' r' hj'
          exact h.heap.apart p.1 r0 p'.1 r0' h2 h2' (differ_spec hd j j' p p' h1 h1' hne) b (h3 b hb) (h3' b hm)
        · obtain ⟨p, h1, _⟩ := hget j r hj
          rw [hlen]; exact (List.getElem?_eq_some_iff.1 h1).1
        · refine (canon_rep hkeep hlen hlk' (fun j p r h1 h2 => ?_) x hc (fun j _ => by rw [Nat.zero_add]) hall hv).2
          exact (rowOf_rep (bad' := fun _ => False) (hp' := []) (nx' := 0) h.heap h1 h2 (hin p (List.mem_of_getElem? h1)) (Keeps.none w _)).2.2.2

theorem afin_sound (h : SRep w0 ob st a w η) {x : AVal} {v : Value} (hv : VR w ob st η x v) {post : AVal → List (Nat × ARow) → Prop} (hk : afin st x post) :
    ∃ x' hr ηr, post x' hr ∧ HRep w w0.B ob hr hr.length ηr ∧ VRep w (fun b => ob b ∨ ownB hr ηr b) hr hr.length ηr x' v := by
  obtain ⟨x', hr, ηr, h1, h2, h3, _⟩ := afin_sound' h hv hk
  exact ⟨x', hr, ηr, h1, h2, h3⟩

def resOf (tmps : Array Value) (r : ResultVar) : Sem Value :=
  match r with
  | .tmp t => Pure.pure (tmps.getD t undef)
  | .cell p t => do loadVar t (← asAddr (tmps.getD p undef))

theorem ares_sound (hΓ : TysOk P Γ) (h : SRep w0 ob st a w η) : ∀ {rs : List ResultVar} {K : List AVal → Prop}, ares Γ st rs K →
    ∃ xs vs, K xs ∧ VRs w ob st η xs vs ∧ (rs.mapM (resOf a.tmps)).run P w = .ok vs w
  | [], K, hk => ⟨[], [], hk, trivial, by simp⟩
  | .tmp t :: rs, K, hk => by
    simp only [ares] at hk
    cases hx : lk st t with
    | none => rw [hx] at hk; exact hk.elim
    | some x =>
      rw [hx] at hk
      obtain ⟨xs, vs, h1, h2, h3⟩ := ares_sound hΓ h hk
      exact ⟨x :: xs, _ :: vs, h1, ⟨h.tmp hx, h2⟩, by simp [List.mapM_cons, resOf, h3]⟩
  | .cell p t :: rs, K, hk => by
    simp only [ares] at hk
    cases hy : lk st p with
    | none => rw [hy] at hk; exact hk.elim
    | some y =>
      rw [hy] at hk
      simp only at hk
      split at hk
      case h_2 => exact hk.elim
      case h_1 hkey =>
        have hyv := h.tmp hy
        obtain ⟨v, x, hx, hv, hrun⟩ := aload_sound hΓ h hyv hk
        obtain ⟨xs, vs, h1, h2, h3⟩ := ares_sound hΓ h hx
        -- the slot holds an address
        have hptr : ∃ ad, a.tmps.getD p undef = .pointer (some ad) := by
          cases y with
          | ptr k off =>
            simp only at hkey
            unfold isKey at hkey
            cases hr : look st.hp k with
            | none => rw [hr] at hkey; cases hkey
            | some r => obtain ⟨_, b, _, he⟩ := hyv.2 r hr; exact ⟨_, he⟩
          | _ =>
            simp only at hkey
            unfold isKey at hkey
            cases hr : look st.hp st.nx with
            | none => rw [hr] at hkey; cases hkey
            | some r => have := h.heap.lt _ r hr; omega
        obtain ⟨ad, had⟩ := hptr
        have hrun' := hrun w (Below.refl _ _)
        rw [had, run_loadAt] at hrun'
        exact ⟨x :: xs, v :: vs, h1, ⟨hv, h2⟩, by simp [List.mapM_cons, resOf, had, asAddr, hrun', h3]⟩

theorem aret_sound (hΓ : TysOk P Γ) (h : SRep w0 ob st a w η) {fn : Func} {post : AVal → List (Nat × ARow) → Prop} (hk : aret Γ st fn.results.toList post) :
    ∃ v x' hr ηr, (results fn a.tmps).run P w = .ok v w ∧ post x' hr ∧ HRep w w0.B ob hr hr.length ηr ∧ VRep w (fun b => ob b ∨ ownB hr ηr b) hr hr.length ηr x' v := by
  obtain ⟨xs, vs, h1, h2, h3⟩ := ares_sound hΓ h hk
  have hres : (results fn a.tmps).run P w = .ok (if hh : vs.toArray.size = 1 then vs.toArray[0] else .tuple vs.toArray) w := by
    have e : results fn a.tmps = (do
        let vs ← fn.results.mapM (resOf a.tmps)
        Pure.pure (if h : vs.size = 1 then vs[0] else .tuple vs)) := rfl
    rw [e, Array.mapM_eq_mapM_toList]
    simp only [Sem.run_bind, Sem.run_map, h3, Result.andThen_ok, Sem.run_pure]
  have two : ∀ {xs : List AVal} {vs : List Value}, VRs w ob st η xs vs → vs.length ≠ 1 → afin st (.tu xs) post → (results fn a.tmps).run P w = .ok (if hh : vs.toArray.size = 1 then vs.toArray[0] else .tuple vs.toArray) w →
      ∃ v x' hr ηr, (results fn a.tmps).run P w = .ok v w ∧ post x' hr ∧ HRep w w0.B ob hr hr.length ηr ∧ VRep w (fun b => ob b ∨ ownB hr ηr b) hr hr.length ηr x' v := by
    intro xs vs h2 hne hf hres
    obtain ⟨x', hr, ηr, g1, g2, g3⟩ := afin_sound h (x := .tu xs) (v := .tuple vs.toArray) ⟨vs, rfl, h2⟩ hf
    exact ⟨_, x', hr, ηr, by rw [hres, dif_neg (by simpa using hne)], g1, g2, g3⟩
  clear h3
  match xs, vs, h2, h1, hres with
  | [x], [v], h2, h1, hres =>
    obtain ⟨x', hr, ηr, g1, g2, g3⟩ := afin_sound h h2.1 h1
    exact ⟨v, x', hr, ηr, by rw [hres]; rfl, g1, g2, g3⟩
  | [], [], h2, h1, hres => exact two h2 (by simp) h1 hres
  | x :: y :: xs, u :: v :: vs, h2, h1, hres => exact two h2 (by simp) h1 hres

def initSl : Nat → List AVal → List (Nat × AVal)
  | _, [] => []
  | i, a :: r => (i, a) :: initSl (i + 1) r

theorem init_look {bad : Nat → Prop} : ∀ {l : List AVal} {vs : List Value} {n : Nat}, VReps w bad [] 0 η0 l vs → ∀ i x, look (initSl n l) i = some x → ∃ v, n ≤ i ∧ vs[i - n]? = some v ∧ VRep w bad [] 0 η0 x v
  | [], [], n, _, i, x, h => by simp [initSl, look] at h
  | y :: l, v :: vs, n, hr, i, x, h => by
    simp only [initSl] at h
    rw [look_cons] at h
    split at h
    · rename_i hni
      simp only [Option.some.injEq] at h
      subst hni h
      exact ⟨v, Nat.le_refl _, by simp, hr.1⟩
    · obtain ⟨u, h1, h2, h3⟩ := init_look hr.2 i x h
      refine ⟨u, by omega, ?_, h3⟩
      rw [show i - n = (i - (n + 1)) + 1 by omega]
      simpa using h2
  | [], _ :: _, _, h, _, _, _ => h.elim
  | _ :: _, [], _, h, _, _, _ => h.elim

def aend (Γ : Tys) (rs : List ResultVar) (post : AVal → List (Nat × ARow) → Prop) : Exit → St → Prop
  | .ret, st => aret Γ st rs post
  | .normal, st => aret Γ st rs post
  | _, _ => False

/-- THE CONTRACT OF A FUNCTION, by its text -/
theorem fspec (hΓ : TysOk P Γ) (hm : P.follows .mixedOrders = true) {f : FuncId} {fn : Func} {c : Code} {args : List AVal} {post : AVal → List (Nat × ARow) → Prop} (hf : P.funcs[f]? = some fn) (hb : fn.body = some c)
    (hname : (fn.name == "runtime.NumGoroutine") = false) (hn : Nat.ble args.length fn.ntmps = true)
    (h : acode P Γ c ⟨fn.ntmps, initSl 0 args, [], 0⟩ (aend Γ fn.results.toList post)) : FSpec P f args post := by
  refine ⟨⟨fn, hf, hname, by rw [hb]; rfl⟩, fun w bad vs hbl hvs => ?_⟩
  refine calls_of_wp hf hb ?_
  have hle := Nat.le_of_ble_eq_true hn
  have hlen := VReps.length hvs
  have hs : SRep ⟨w, w.heap.size, fun _ => False, fun _ => undef⟩ bad ⟨fn.ntmps, initSl 0 args, [], 0⟩ { tmps := vs.toArray ++ Array.replicate (fn.ntmps - vs.toArray.size) undef, defers := [] } w η0 := by
    refine ⟨rfl, by simp; omega, Below.refl _ _, ⟨Nat.le_refl _, hbl, fun _ h => h.elim⟩, fun _ _ _ => rfl, fun b ⟨k, r, hk, _⟩ => by simp [look] at hk, ⟨fun k r hk => by simp [look] at hk, fun k r hk => by simp [look] at hk, fun k r k' r' hk => by simp [look] at hk, fun k r hk => by simp [look] at hk⟩, fun i x hi => ?_⟩
    obtain ⟨v, _, h2, h3⟩ := init_look hvs i x hi
    simp only [Nat.sub_zero] at h2
    have hlt : i < vs.length := (List.getElem?_eq_some_iff.1 h2).1
    have : (vs.toArray ++ Array.replicate (fn.ntmps - vs.toArray.size) undef).getD i undef = v := by
      rw [Array.getD_eq_getD_getElem?, Array.getElem?_append_left (by simpa using hlt)]
      simp [h2]
    simp only [this]
    refine VRep.frame (fun b o y hb hc => ⟨?_, hc⟩) (Nat.le_refl _) (fun k _ => OwnOk.refl _ _ k) (fun k _ => SubOk.refl _ _ k) h3
    rintro (h1 | ⟨j, r, hj, _⟩)
    · exact hb h1
    · simp [look] at hj
  refine wp_mono (acode_sound (w0 := ⟨w, w.heap.size, fun _ => False, fun _ => undef⟩) hΓ hm c _ _ _ w h ⟨η0, hs⟩) (fun e a' w' hl => ?_)
  obtain ⟨st', hk, η', hs'⟩ := hl
  have fin : aret Γ st' fn.results.toList post → ∃ v, (results fn a'.tmps).run P w' = .ok v w' ∧ ∃ v' x h η, Ending.returned v = .returned v' ∧ post x h ∧ Below w.heap.size w w' ∧
      HRep w' w.heap.size bad h h.length η ∧ VRep w' (fun b => bad b ∨ ownB h η b) h h.length η x v' := fun hk => by
    obtain ⟨v, x', hr, ηr, g1, g2, g3, g4⟩ := aret_sound hΓ hs' hk
    exact ⟨v, g1, v, x', hr, ηr, rfl, g2, hs'.below, g3, g4⟩
  cases e with
  | ret => exact ⟨hs'.defers, fin hk⟩
  | normal => exact ⟨hs'.defers, fin hk⟩
  | _ => exact hk.elim
end
end Go.Aw
/- The types of this program, for the engine; small facts. -/
namespace Go.Aw
theorem TyOk.of {P : Program} {t : Nat} {d : TD} {size bytes : Nat} {z : Value} {zero : List Value} (h1 : d.is P t)
    (h2 : (P.info? t).map (fun i => (i.zero, i.size, i.bytes)) = some (some z, size, bytes)) (h3 : z.cells = zero.toArray) : TyOk P t ⟨d, size, bytes, zero⟩ := by
  refine ⟨h1, ?_⟩
  obtain ⟨i, hi, he⟩ := Option.map_eq_some_iff.1 h2
  simp only [Prod.mk.injEq] at he
  exact ⟨i, z, hi, he.2.1, he.2.2, he.1, h3⟩

theorem w64 {n : Int} (h1 : -9223372036854775808 ≤ n) (h2 : n ≤ 9223372036854775807) : IntKind.i64.wrap n = n := by rw [IntKind.wrap_i64]; omega

theorem vint {k : IntKind} {a b : Int} (h : a = b) : Value.int k a = Value.int k b := by rw [h]
theorem vboo {a b : Bool} (h : a = b) : Value.bool a = Value.bool b := by rw [h]
theorem rint {e : Nat} {k : IntKind} {a b : List Int} (h : a = b) : ARow.ints e k a = ARow.ints e k b := by rw [h]
theorem rrow {e e1 : Nat} {u : Bool} {a b : List (List Int)} (h : a = b) : ARow.rows e e1 u a = ARow.rows e e1 u b := by rw [h]
theorem ltT {a b : Nat} (h : decide ((a : Int) < (b : Int)) = true) : a < b := Int.ofNat_lt.1 (of_decide_eq_true h)
theorem ltF {a b : Nat} (h : decide ((a : Int) < (b : Int)) = false) : ¬ a < b := fun hh => of_decide_eq_false h (Int.ofNat_lt.2 hh)
theorem nat_of {n : Int} {len : Nat} (h0 : 0 ≤ n) (h1 : n < len) : ∃ i : Nat, n = (i : Int) ∧ i < len := ⟨n.toNat, by omega, by omega⟩
section
variable {hp : List (Nat × ARow)} {R : List (Nat × Org)} {nx : Nat}
mutual
/-- what is closed is seen as itself -/
theorem vw_closed : ∀ (x : AVal), clo1 (fun _ _ => none) [] x = some x → vw hp R nx x x
  | .c _, _ => rfl
  | .t _, _ => rfl
  | .ag l, h => by
    simp only [clo1] at h
    split at h
    · rename_i l2 hl
      have e : l2 = l := by simpa using h
      exact vws_closed l (e ▸ hl)
    · cases h
  | .rp l o, h => by
    simp only [clo1] at h
    split at h
    · rename_i l2 hl
      have e : l2 = l := by simpa using h
      exact ⟨rfl, vws_closed l (e ▸ hl)⟩
    · cases h
  | .clo f l, h => by
    simp only [clo1] at h
    split at h
    · rename_i l2 hl
      have e : l2 = l := by simpa using h
      exact ⟨rfl, vws_closed l (e ▸ hl)⟩
    · cases h
  | .knot f l n, h => by
    simp only [clo1] at h
    split at h
    · rename_i l2 hl
      have e : l2 = l := by simpa using h
      exact ⟨rfl, rfl, vws_closed l (e ▸ hl)⟩
    · cases h
  | .nul, h => by simp [clo1] at h
  | .un, h => by simp [clo1] at h
  | .tu _, h => by simp [clo1] at h
  | .adr _ _, h => by simp [clo1] at h
  | .subp _ _ _, h => by simp [clo1] at h
  | .own _, h => by simp [clo1, look] at h
  | .sub _ _, h => by simp [clo1, look] at h
  | .ptr _ _, h => by simp [clo1] at h
theorem vws_closed : ∀ (l : List AVal), clos (fun _ _ => none) [] l = some l → vws hp R nx l l
  | [], _ => trivial
  | a :: l, h => by
    simp only [clos] at h
    split at h
    · cases h
    · rename_i b hb
      split at h
      · cases h
      · rename_i l' hl
        simp only [Option.some.injEq, List.cons.injEq] at h
        exact ⟨vw_closed a (hb.trans (congrArg some h.1)), vws_closed l (hl.trans (congrArg some h.2))⟩
end
end
section
variable {f g : Nat → Bool}
mutual
theorem flt_closed : ∀ (x : AVal), clo1 (fun _ _ => none) [] x = some x → x.flt f g = x
  | .c _, _ => rfl
  | .t _, _ => rfl
  | .ag l, h => by
    simp only [clo1] at h
    split at h
    · rename_i l2 hl
      have e : l2 = l := by simpa using h
      rw [AVal.flt, flts_closed l (e ▸ hl)]
    · cases h
  | .rp l o, h => by
    simp only [clo1] at h
    split at h
    · rename_i l2 hl
      have e : l2 = l := by simpa using h
      rw [AVal.flt, flts_closed l (e ▸ hl)]
    · cases h
  | .clo _ l, h => by
    simp only [clo1] at h
    split at h
    · rename_i l2 hl
      have e : l2 = l := by simpa using h
      rw [AVal.flt, flts_closed l (e ▸ hl)]
    · cases h
  | .knot _ l _, h => by
    simp only [clo1] at h
    split at h
    · rename_i l2 hl
      have e : l2 = l := by simpa using h
      rw [AVal.flt, flts_closed l (e ▸ hl)]
    · cases h
  | .nul, h => by simp [clo1] at h
  | .un, h => by simp [clo1] at h
  | .tu _, h => by simp [clo1] at h
  | .adr _ _, h => by simp [clo1] at h
  | .subp _ _ _, h => by simp [clo1] at h
  | .own _, h => by simp [clo1, look] at h
  | .sub _ _, h => by simp [clo1, look] at h
  | .ptr _ _, h => by simp [clo1] at h
theorem flts_closed : ∀ (l : List AVal), clos (fun _ _ => none) [] l = some l → flts f g l = l
  | [], _ => rfl
  | a :: l, h => by
    simp only [clos] at h
    split at h
    · cases h
    · rename_i b hb
      split at h
      · cases h
      · rename_i l' hl
        simp only [Option.some.injEq, List.cons.injEq] at h
        rw [flts, flt_closed a (hb.trans (congrArg some h.1)), flts_closed l (hl.trans (congrArg some h.2))]
end
end
end Go.Aw
namespace Go.Proofs.Ytkjdplglenjijaa
open Go.Aw
def ty : Tys := [
 (3, ⟨.int .i64, 1, 8, [.int .i64 0]⟩),
 (25, ⟨.slice 3, 1, 24, [.slice none 0 0]⟩),
 (24, ⟨.slice 25, 1, 24, [.slice none 0 0]⟩),
 (68, ⟨.int .u64, 1, 8, [.int .u64 0]⟩),
 (69, ⟨.slice 24, 1, 24, [.slice none 0 0]⟩),
 (71, ⟨.other, 1, 8, [.nilFunc]⟩),
 (5, ⟨.int .u8, 1, 1, [.int .u8 0]⟩),
 (22, ⟨.slice 5, 1, 24, [.slice none 0 0]⟩),
 (45, ⟨.int .u64, 1, 8, [.int .u64 0]⟩),
 (47, ⟨.struct [(0, 22), (1, 3), (2, 45)], 3, 40, [.slice none 0 0, .int .i64 0, .int .u64 0]⟩),
  (4, ⟨.bool, 1, 1, [.bool false]⟩)]
theorem tyOk : TysOk Try.prog ty :=
  ⟨TyOk.of (z := .int .i64 0) Try.underlying3 (by kernel_rfl) rfl,
     TyOk.of (z := .slice none 0 0) Try.underlying25 (by kernel_rfl) rfl,
     TyOk.of (z := .slice none 0 0) Try.underlying24 (by kernel_rfl) rfl,
     TyOk.of (z := .int .u64 0) Try.underlying68 (by kernel_rfl) rfl,
     TyOk.of (z := .slice none 0 0) Try.underlying69 (by kernel_rfl) rfl,
     TyOk.of (z := .nilFunc) ⟨_, Try.underlying71, trivial⟩ (by kernel_rfl) rfl,
     TyOk.of (z := .int .u8 0) Try.underlying5 (by kernel_rfl) rfl,
     TyOk.of (z := .slice none 0 0) Try.underlying22 (by kernel_rfl) rfl,
     TyOk.of (z := .int .u64 0) Try.underlying45 (by kernel_rfl) rfl,
     TyOk.of (z := .agg #[.slice none 0 0, .int .i64 0, .int .u64 0]) ⟨_, Try.underlying47, rfl⟩ (by kernel_rfl) rfl,
   TyOk.of (z := .bool false) Try.underlying4 (by kernel_rfl) rfl,
   trivial⟩
theorem mx : Try.prog.follows .mixedOrders = true := by kernel_rfl
end Go.Proofs.Ytkjdplglenjijaa
/- Contracts of the leaves: sizes, copies, comparisons. -/
namespace Go.Proofs.Ytkjdplglenjijaa
open Go.Aw

theorem getD_mem {α : Type} {l : List α} {d : α} {k : Nat} (h : k < l.length) : l.getD k d ∈ l := by
  rw [List.getD_eq_getElem?_getD, List.getElem?_eq_getElem h]; exact List.getElem_mem h

/-- the tail of a size reckoning -/
def szS (l : List Int) (left : Int) : Int := if left - l.length < 0 then -1 else left - l.length



theorem set_take {α : Type} (l : List α) (d z : α) (k : Nat) (h : k < l.length) :
    (l.take k ++ List.replicate (l.length - k) z).set k (l.getD k d) = l.take (k + 1) ++ List.replicate (l.length - (k + 1)) z := by
  rw [List.set_append_right _ _ (by simp; omega)]
  rw [List.length_take, Nat.min_eq_left (by omega), Nat.sub_self]
  rw [show l.length - k = (l.length - (k + 1)) + 1 by omega, List.replicate_succ, List.set_cons_zero, List.take_succ_eq_append_getElem h]
  rw [List.getD_eq_getElem?_getD, List.getElem?_eq_getElem h, List.append_assoc]
  rfl




def szGo : List (List Int) → Int → Int
  | [], left => left
  | r :: m, left => if left - r.length < 0 then -1 else szGo m (left - r.length)

def szSS (m : List (List Int)) (left : Int) : Int := if left - m.length < 0 then -1 else szGo m (left - m.length)

theorem szGo_pos : ∀ (m : List (List Int)) (left : Int), 0 ≤ left → 0 ≤ szGo m left → (∀ r, r ∈ m → (r.length : Int) ≤ left) ∧ szGo m left ≤ left
  | [], left, _, _ => ⟨by simp, Int.le_refl _⟩
  | r :: m, left, h0, h => by
    simp only [szGo] at h ⊢
    split at h
    · omega
    · rename_i hn
      rw [if_neg hn]
      obtain ⟨h1, h2⟩ := szGo_pos m _ (by omega) h
      refine ⟨fun r' hr => ?_, by omega⟩
      rcases List.mem_cons.1 hr with rfl | hr
      · omega
      · have := h1 r' hr; omega

theorem szSS_pos {m : List (List Int)} {left : Int} (h : 0 ≤ szSS m left) : (m.length : Int) ≤ left ∧ (∀ r, r ∈ m → (r.length : Int) ≤ left) ∧ szSS m left ≤ left := by
  unfold szSS at h ⊢
  split at h
  · omega
  · rename_i hn
    rw [if_neg hn]
    obtain ⟨h1, h2⟩ := szGo_pos m _ (by omega) h
    exact ⟨by omega, fun r hr => by have := h1 r hr; omega, by omega⟩


end Go.Proofs.Ytkjdplglenjijaa
/- Calls that write one row of their caller; calls that are walked into. -/
namespace Go.Aw
open Go.RowKit

def plainC : List AVal → Bool
  | [] => true
  | .c _ :: r => plainC r
  | _ => false

/-- a row that leads to no other memory -/
def plainRow : ARow → Bool
  | .ints .. => true
  | .rows _ _ true _ => true
  | .cells _ l => plainC l
  | _ => false

section
variable {P : Program} {Γ : Tys} {w0 : Base} {w w' : World} {ob : Nat → Prop} {st : St} {a : Act} {η : Env}

theorem plainC_rep {bad bad' : Nat → Prop} {hp hp' : List (Nat × ARow)} {nx nx' : Nat} {η η' : Env} : ∀ {l : List AVal} {vs : List Value}, plainC l = true → VReps w bad hp nx η l vs → VReps w' bad' hp' nx' η' l vs
  | [], [], _, _ => trivial
  | .c _ :: l, _ :: vs, h, hv => ⟨hv.1, plainC_rep (l := l) (by simpa [plainC] using h) hv.2⟩
  | [], _ :: _, _, h => h.elim
  | .c _ :: _, [], _, h => h.elim
  | .un :: _, _, h, _ => by simp [plainC] at h
  | .t _ :: _, _, h, _ => by simp [plainC] at h
  | .ag _ :: _, _, h, _ => by simp [plainC] at h
  | .tu _ :: _, _, h, _ => by simp [plainC] at h
  | .own _ :: _, _, h, _ => by simp [plainC] at h
  | .sub _ _ :: _, _, h, _ => by simp [plainC] at h
  | .ptr _ _ :: _, _, h, _ => by simp [plainC] at h
  | .subp _ _ _ :: _, _, h, _ => by simp [plainC] at h
  | .adr _ _ :: _, _, h, _ => by simp [plainC] at h
  | .rp _ _ :: _, _, h, _ => by simp [plainC] at h
  | .clo _ _ :: _, _, h, _ => by simp [plainC] at h
  | .knot _ _ _ :: _, _, h, _ => by simp [plainC] at h
  | .nul :: _, _, h, _ => by simp [plainC] at h

theorem plain_rep {B : Nat} {bad bad' : Nat → Prop} {hp hp' : List (Nat × ARow)} {nx nx' k k' : Nat} {η η' : Env} : ∀ {r : ARow}, plainRow r = true → RowRep w B bad hp nx η k r → η'.val k' = η.val k → η'.cel k' = η.cel k → RowRep w B bad' hp' nx' η' k' r
  | .ints .., _, h, hv, hc => by simp only [RowRep, hv, hc]; exact h
  | .rows _ _ true _, _, h, hv, hc => by simp only [RowRep, hv, hc]; exact h
  | .rows _ _ false _, hp, _, _, _ => by simp [plainRow] at hp
  | .recs .., hp, _, _, _ => by simp [plainRow] at hp
  | .cells _ l, hp, ⟨b, h1, h2, h3, h4⟩, hv, hc => ⟨b, by rw [hv]; exact h1, h2, by rw [hc]; exact h3, by rw [hc]; exact plainC_rep (by simpa [plainRow] using hp) h4⟩

/-- A FUNCTION THAT WRITES A ROW OF ITS CALLER (key 0): it hands back a plain value, and the row holds something else -/
def MSpec (P : Program) (f : FuncId) (r0 : ARow) (args : List AVal) (post : Value → ARow → Prop) : Prop := FOk P f ∧
  ∀ (w : World) (B : Nat) (ob : Nat → Prop) (η : Env) (vs : List Value), B ≤ w.heap.size → (∀ b, ob b → b < w.heap.size) → (∀ b, b ∈ bsOf η 0 r0 → ¬ ob b) →
    HRep w B ob [(0, r0)] 1 η → VReps w (badOf ob [(0, r0)] η) [(0, r0)] 1 η args vs →
    Calls P f vs.toArray w fun e w' => ∃ v r' η', e = .returned v ∧ v.oneCell' = true ∧ post v r' ∧ Below B w w' ∧
      (∀ b, b < w.heap.size → b ∉ bsOf η 0 r0 → w'.heap[b]? = w.heap[b]?) ∧ plainRow r' = true ∧ RowRep w' B (fun _ => False) [] 0 η' 0 r' ∧ (bsOf η' 0 r').Nodup ∧
      (∀ b, b ∈ bsOf η' 0 r' → b ∈ bsOf η 0 r0 ∨ w.heap.size ≤ b) ∧ r'.kind = r0.kind ∧ η'.val 0 = η.val 0 ∧ (η'.cel 0).length = (η.cel 0).length

def exM (v0 : Value) (r1 : ARow) : Value → ARow → Prop := fun v r => v = v0 ∧ r = r1

def ghostOf : ARow → AVal
  | .cells .. => .ptr 0 0
  | _ => .own 0

def ghostOk : ARow → Bool
  | .cells _ [] => false
  | .rows _ _ false _ => false
  | .recs .. => false
  | _ => true

def isGhost (r : ARow) (x : AVal) : Bool :=
  match r, x with
  | .cells .., .ptr 0 0 => true
  | .ints .., .own 0 => true
  | .rows .., .own 0 => true
  | _, _ => false

def sameLen : ARow → ARow → Bool
  | .cells _ l, .cells _ l' => Nat.beq l.length l'.length
  | _, _ => true

def mfin (sz : Nat) (r0 : ARow) (post : Value → ARow → Prop) (st : St) (l : List AVal) : Prop :=
  match l with
  | [.c v] => match look st.sl sz with
    | some g => match look st.hp 0 with
      | some r' => match Nat.beq r'.kind r0.kind && isGhost r' g && plainRow r' && sameLen r0 r' && Nat.beq st.sz sz with
        | true => post v r'
        | false => False
      | none => False
    | none => False
  | _ => False

def mend (Γ : Tys) (rs : List ResultVar) (sz : Nat) (r0 : ARow) (post : Value → ARow → Prop) : Exit → St → Prop
  | .ret, st => ares Γ st rs (mfin sz r0 post st)
  | .normal, st => ares Γ st rs (mfin sz r0 post st)
  | _, _ => False

theorem init_look' {bad : Nat → Prop} {hp : List (Nat × ARow)} {nx : Nat} : ∀ {l : List AVal} {vs : List Value} {n : Nat}, VReps w bad hp nx η l vs → ∀ i x, look (initSl n l) i = some x → ∃ v, n ≤ i ∧ vs[i - n]? = some v ∧ VRep w bad hp nx η x v
  | [], [], n, _, i, x, h => by simp [initSl, look] at h
  | y :: l, v :: vs, n, hr, i, x, h => by
    simp only [initSl] at h
    rw [look_cons] at h
    split at h
    · rename_i hni
      simp only [Option.some.injEq] at h
      subst hni h
      exact ⟨v, Nat.le_refl _, by simp, hr.1⟩
    · obtain ⟨u, h1, h2, h3⟩ := init_look' hr.2 i x h
      refine ⟨u, by omega, ?_, h3⟩
      rw [show i - n = (i - (n + 1)) + 1 by omega]
      simpa using h2
  | [], _ :: _, _, h, _, _, _ => h.elim
  | _ :: _, [], _, h, _, _, _ => h.elim

theorem ownsRow_len {B B' e e' n n' : Nat} {v : Value} {xs xs' : List Value} (h : w.ownsRow B e 1 v n xs) (h' : w'.ownsRow B' e' 1 v n' xs') : xs'.length = xs.length := by
  have h1 := h.1
  have h1' := h'.1
  rcases h.2 with ⟨rfl, h2⟩ | ⟨g, cap, cur, rfl, _⟩ <;> rcases h'.2 with ⟨e2, h2'⟩ | ⟨g', cap', cur', e2, _⟩
  · omega
  · cases e2
  · cases e2
  · simp only [Value.slice.injEq] at e2
    omega

theorem results_run {fn : Func} {tmps : Array Value} {vs : List Value} (h3 : (fn.results.toList.mapM (resOf tmps)).run P w = .ok vs w) :
    (results fn tmps).run P w = .ok (if hh : vs.toArray.size = 1 then vs.toArray[0] else .tuple vs.toArray) w := by
  have e : results fn tmps = (do
      let vs ← fn.results.mapM (resOf tmps)
      Pure.pure (if h : vs.size = 1 then vs[0] else .tuple vs)) := rfl
  rw [e, Array.mapM_eq_mapM_toList]
  simp only [Sem.run_bind, Sem.run_map, h3, Result.andThen_ok, Sem.run_pure]

theorem ptr_blk {b : Nat} : blk (.pointer (some ⟨b, 0, none⟩)) = [b] := rfl

/-- THE CONTRACT OF SUCH A FUNCTION, by its text -/
theorem mspec (hΓ : TysOk P Γ) (hm : P.follows .mixedOrders = true) {f : FuncId} {fn : Func} {c : Code} {r0 : ARow} {args : List AVal} {post : Value → ARow → Prop} (hf : P.funcs[f]? = some fn) (hb : fn.body = some c)
    (hname : (fn.name == "runtime.NumGoroutine") = false) (hn : Nat.ble args.length fn.ntmps = true) (hg : ghostOk r0 = true)
    (h : acode P Γ c ⟨fn.ntmps, (fn.ntmps, ghostOf r0) :: initSl 0 args, [(0, r0)], 1⟩ (mend Γ fn.results.toList fn.ntmps r0 post)) : MSpec P f r0 args post := by
  refine ⟨⟨fn, hf, hname, by rw [hb]; rfl⟩, fun w B ob η vs hB hobl hfree hh hvs => ?_⟩
  refine calls_of_wp hf hb ?_
  have hle := Nat.le_of_ble_eq_true hn
  have hlen := VReps.length hvs
  have hr0 : look [(0, r0)] 0 = some r0 := rfl
  have hrow0 := hh.row 0 r0 hr0
  have hone : ∀ k r, look [(0, r0)] k = some r → k = 0 ∧ r = r0 := fun k r hk => by
    rw [look_cons] at hk
    split at hk
    · rename_i h0; exact ⟨h0.symm, (Option.some.inj hk).symm⟩
    · cases hk
  let γ : Nat → Value := fun i => if i = fn.ntmps then η.val 0 else undef
  let W0 : Base := ⟨w, B, fun b => b ∈ bsOf η 0 r0, γ⟩
  have hs : SRep W0 ob ⟨fn.ntmps, (fn.ntmps, ghostOf r0) :: initSl 0 args, [(0, r0)], 1⟩ { tmps := vs.toArray ++ Array.replicate (fn.ntmps - vs.toArray.size) undef, defers := [] } w η := by
    have hsz : (vs.toArray ++ Array.replicate (fn.ntmps - vs.toArray.size) undef).size = fn.ntmps := by simp; omega
    refine ⟨rfl, hsz, Below.refl _ _, ⟨hB, hobl, hfree⟩, fun _ _ _ => rfl, fun b ⟨k, r, hk, hb⟩ => ?_, hh, fun i x hi => ?_⟩
    · obtain ⟨rfl, rfl⟩ := hone k r hk; exact .inl hb
    · simp only at hi
      rw [look_cons] at hi
      split at hi
      · rename_i hni
        subst hni
        have hx := Option.some.inj hi
        subst hx
        have hget : (vs.toArray ++ Array.replicate (fn.ntmps - vs.toArray.size) undef).getD fn.ntmps (W0.γ fn.ntmps) = η.val 0 := by
          have : W0.γ fn.ntmps = η.val 0 := if_pos rfl
          rw [Array.getD_eq_getD_getElem?, Array.getElem?_eq_none (by rw [hsz]; exact Nat.le_refl _), this]; rfl
        rw [hget]
        match r0, hg, hrow0, hone with
        | .ints .., _, _, hone => exact ⟨Nat.one_pos, fun r hk => by obtain ⟨_, rfl⟩ := hone 0 r hk; exact ⟨by simp [ARow.kind], rfl⟩⟩
        | .rows _ _ true _, _, _, hone => exact ⟨Nat.one_pos, fun r hk => by obtain ⟨_, rfl⟩ := hone 0 r hk; exact ⟨by simp [ARow.kind], rfl⟩⟩
        | .rows _ _ false _, hg, _, _ => simp [ghostOk] at hg
        | .cells _ [], hg, _, _ => simp [ghostOk] at hg
        | .recs .., hg, _, _ => simp [ghostOk] at hg
        | .cells _ (y :: l), _, hrow0, _ =>
          obtain ⟨b, h1, _, _, h4⟩ := hrow0
          have := VReps.length h4
          exact ⟨Nat.one_pos, fun r _ => ⟨by rw [← this]; simp, b, by rw [h1]; rfl, h1⟩⟩
      · rename_i hni
        obtain ⟨v, _, h2, h3⟩ := init_look' hvs i x hi
        simp only [Nat.sub_zero] at h2
        have hlt : i < vs.length := (List.getElem?_eq_some_iff.1 h2).1
        have : (vs.toArray ++ Array.replicate (fn.ntmps - vs.toArray.size) undef).getD i (W0.γ i) = v := by
          rw [Array.getD_eq_getD_getElem?, Array.getElem?_append_left (by simpa using hlt)]
          simp [h2]
        rw [this]
        exact h3
  refine wp_mono (acode_sound (w0 := W0) hΓ hm c _ _ _ w h ⟨η, hs⟩) (fun e a' w' hl => ?_)
  obtain ⟨st', hk, η', hs'⟩ := hl
  have fin : ares Γ st' fn.results.toList (mfin fn.ntmps r0 post st') → ∃ v, (results fn a'.tmps).run P w' = .ok v w' ∧ ∃ v' r' η', Ending.returned v = .returned v' ∧ v'.oneCell' = true ∧ post v' r' ∧ Below B w w' ∧
      (∀ b, b < w.heap.size → b ∉ bsOf η 0 r0 → w'.heap[b]? = w.heap[b]?) ∧ plainRow r' = true ∧ RowRep w' B (fun _ => False) [] 0 η' 0 r' ∧ (bsOf η' 0 r').Nodup ∧
      (∀ b, b ∈ bsOf η' 0 r' → b ∈ bsOf η 0 r0 ∨ w.heap.size ≤ b) ∧ r'.kind = r0.kind ∧ η'.val 0 = η.val 0 ∧ (η'.cel 0).length = (η.cel 0).length   := fun hk => by
    obtain ⟨xs, us, h1, h2, h3⟩ := ares_sound hΓ hs' hk
    have hres := results_run h3
    unfold mfin at h1
    split at h1
    case h_2 => exact h1.elim
    case h_1 v =>
      split at h1
      case h_2 => exact h1.elim
      case h_1 g hgl =>
        split at h1
        case h_2 => exact h1.elim
        case h_1 r' hr' =>
          split at h1
          case h_2 => exact h1.elim
          case h_1 hc =>
            simp only [Bool.and_eq_true] at hc
            obtain ⟨⟨⟨⟨c1, c2⟩, c3⟩, c4⟩, c5⟩ := hc
            have hsz' := Nat.eq_of_beq_eq_true c5
            have hkind := Nat.eq_of_beq_eq_true c1
            match us, h2 with
            | [u], h2 =>
              obtain ⟨rfl, hone'⟩ := h2.1
              have hrow' := hs'.heap.row 0 r' hr'
              have hval : η'.val 0 = η.val 0 := by
                have hslot := hs'.slot _ _ hgl
                have hget : a'.tmps.getD fn.ntmps (W0.γ fn.ntmps) = η.val 0 := by
                  have e1 : W0.γ fn.ntmps = η.val 0 := if_pos rfl
                  rw [Array.getD_eq_getD_getElem?, Array.getElem?_eq_none (by rw [hs'.size, hsz']; exact Nat.le_refl _), e1]; rfl
                rw [hget] at hslot
                clear hgl
                match r', g, c2, hrow', hslot, hr' with
                | .ints .., .own 0, _, _, hslot, hr' => exact ((hslot.2 _ hr').2).symm
                | .rows .., .own 0, _, _, hslot, hr' => exact ((hslot.2 _ hr').2).symm
                | .cells .., .ptr 0 0, _, ⟨b, e1, _⟩, hslot, hr' =>
                  obtain ⟨_, b', e2, e3⟩ := hslot.2 _ hr'
                  rw [e1, ptr_blk] at e2
                  simp only [List.cons.injEq, and_true] at e2
                  rw [e1, e3, e2]
              have hlen' : (η'.cel 0).length = (η.cel 0).length := by
                have l1 := row_len hrow'
                have l0 := row_len hrow0
                clear hs hs' hr' hgl h
                match r0, r', hkind, c4, hrow0, hrow', l0, l1 with
                | .recs .., .recs .., _, _, g0, g1, l0, l1 =>
                  have c3' := c3; simp [plainRow] at c3'
                | .recs .., .ints .., hk, _, _, _, _, _ => simp [ARow.kind] at hk
                | .recs .., .rows _ _ true _, hk, _, _, _, _, _ => simp [ARow.kind] at hk
                | .recs .., .rows _ _ false _, hk, _, _, _, _, _ => simp [ARow.kind] at hk
                | .recs .., .cells .., hk, _, _, _, _, _ => simp [ARow.kind] at hk
                | .ints .., .recs .., hk, _, _, _, _, _ => simp [ARow.kind] at hk
                | .rows _ _ true _, .recs .., hk, _, _, _, _, _ => simp [ARow.kind] at hk
                | .rows _ _ false _, .recs .., hk, _, _, _, _, _ => simp [ARow.kind] at hk
                | .cells .., .recs .., hk, _, _, _, _, _ => simp [ARow.kind] at hk
                | .ints .., .ints .., _, _, g0, g1, l0, l1 =>
                  have q0 := g0.1; have q1 := g1.1
                  rw [hval] at q1
                  have := ownsRow_len q0 q1
                  simp only [List.length_map] at this
                  simp only at l0 l1
                  omega
                | .rows _ _ true _, .rows _ _ true _, _, _, g0, g1, l0, l1 =>
                  have q0 := g0.1; have q1 := g1.1
                  rw [hval] at q1
                  exact ownsRow_len q0 q1
                | .rows _ _ false _, .rows _ _ false _, _, _, g0, g1, l0, l1 =>
                  have q0 := g0.1; have q1 := g1.1
                  rw [hval] at q1
                  exact ownsRow_len q0 q1
                | .cells _ l, .cells _ l', _, c4, g0, g1, l0, l1 =>
                  have := Nat.eq_of_beq_eq_true c4
                  simp only at l0 l1
                  omega
                | .ints .., .rows _ _ true _, hk, _, _, _, _, _ => simp [ARow.kind] at hk
                | .ints .., .rows _ _ false _, hk, _, _, _, _, _ => simp [ARow.kind] at hk
                | .ints .., .cells .., hk, _, _, _, _, _ => simp [ARow.kind] at hk
                | .rows _ _ true _, .ints .., hk, _, _, _, _, _ => simp [ARow.kind] at hk
                | .rows _ _ true _, .rows _ _ false _, hk, _, _, _, _, _ => simp [ARow.kind] at hk
                | .rows _ _ true _, .cells .., hk, _, _, _, _, _ => simp [ARow.kind] at hk
                | .rows _ _ false _, .ints .., hk, _, _, _, _, _ => simp [ARow.kind] at hk
                | .rows _ _ false _, .rows _ _ true _, hk, _, _, _, _, _ => simp [ARow.kind] at hk
                | .rows _ _ false _, .cells .., hk, _, _, _, _, _ => simp [ARow.kind] at hk
                | .cells .., .ints .., hk, _, _, _, _, _ => simp [ARow.kind] at hk
                | .cells .., .rows _ _ true _, hk, _, _, _, _, _ => simp [ARow.kind] at hk
                | .cells .., .rows _ _ false _, hk, _, _, _, _, _ => simp [ARow.kind] at hk
              refine ⟨_, by rw [hres]; rfl, u, r', η', rfl, hone', h1, hs'.below, fun b hb hnb => hs'.frame b hb hnb, c3, plain_rep c3 hrow' rfl rfl, hs'.heap.nodup 0 r' hr', fun b hb => hs'.src b ⟨0, r', hr', hb⟩, hkind, hval, hlen'⟩
  cases e with
  | ret => exact ⟨hs'.defers, fin hk⟩
  | normal => exact ⟨hs'.defers, fin hk⟩
  | _ => exact hk.elim
end
end Go.Aw
/- Calls that write one row of their caller, at the caller; calls that are walked into. -/
namespace Go.Aw
open Go.RowKit

section
variable {P : Program} {Γ : Tys} {w0 : Base} {w w' : World} {ob : Nat → Prop} {st : St} {a : Act} {η : Env}

/-- a row has become another of its kind -/
theorem SRep.mut (h : SRep w0 ob st a w η) {k : Nat} {r r' : ARow} {cs' : List Value} (hr : look st.hp k = some r) (hkind : r'.kind = r.kind) (hlen : (η.cel k).length ≤ cs'.length)
    (hw : ∀ b, b < w.heap.size → b ∉ bsOf η k r → w'.heap[b]? = w.heap[b]?) (hB : Below w0.B w w')
    (hnd : (bsOf (η.upd k (η.val k) cs') k r').Nodup) (hfr : ∀ b, b ∈ bsOf (η.upd k (η.val k) cs') k r' → b ∈ bsOf η k r ∨ w.heap.size ≤ b)
    (hrow : ∀ bad hp nx, RowRep w' w0.B bad hp nx (η.upd k (η.val k) cs') k r') :
    SRep w0 ob ((st.killSub k).upd k r') a w' (η.upd k (η.val k) cs') := by
  have hoth : ∀ j r1, j ≠ k → look ((st.killSub k).upd k r').hp j = some r1 → ∃ r, look st.hp j = some r ∧ r1 = r.flt (fun _ => true) (ne k) := fun j r1 hj h1 => by
    simp only [St.upd, St.killSub, look_upd, if_neg (Ne.symm hj), look_fltH] at h1
    obtain ⟨r, h2, rfl⟩ := Option.map_eq_some_iff.1 h1
    exact ⟨r, h2, rfl⟩
  have hk' : look ((st.killSub k).upd k r').hp k = some r' := by simp only [St.upd, look_upd, if_true]
  have hok : ∀ j, j < st.nx → OwnOk st.hp η ((st.killSub k).upd k r').hp (η.upd k (η.val k) cs') j := fun j _ => by
    by_cases hjk : j = k
    · subst hjk
      exact ⟨fun r1 h1 => by rw [hk'] at h1; obtain rfl := Option.some.inj h1; exact ⟨r, hr, hkind.symm, upd_val _ _ _ _, by rw [upd_cel]; exact hlen⟩⟩
    · exact OwnOk.of (fun r1 h1 => by obtain ⟨r, h2, rfl⟩ := hoth j r1 hjk h1; exact ⟨r, h2, (kind_flt _ _ r).symm⟩) (upd_ne _ _ _ _ j hjk).1 (upd_ne _ _ _ _ j hjk).2
  have hsk : ∀ j, j < st.nx → ne k j = true → SubOk st.hp η ((st.killSub k).upd k r').hp (η.upd k (η.val k) cs') j := fun j _ hj => by
    have hjk := (ne_spec k j).1 hj
    exact SubOk.of (fun r1 h1 => by obtain ⟨r, h2, rfl⟩ := hoth j r1 hjk h1; exact ⟨r, h2, (kind_flt _ _ r).symm⟩) (upd_ne _ _ _ _ j hjk).2
  obtain ⟨hh, hkp⟩ := HRep.step (k := k) (hp' := ((st.killSub k).upd k r').hp) (nx' := st.nx) (η' := η.upd k (η.val k) cs') (w' := w') h.heap (fun _ => true) (ne k) r' (h.heap.lt k r hr) (Nat.le_refl _)
    (fun j r1 hj h1 => hoth j r1 hj h1) hk' (fun j hj => upd_ne _ _ _ _ j hj)
    (fun b hb hn => hw b hb (hn r hr)) (fun j hj _ => hok j hj) hsk hnd
    (fun b hb => (hfr b hb).imp (fun h1 => ⟨k, r, hr, h1, .inl rfl⟩) id) (fun _ => hrow _ _ _)
  exact h.heapStep (fun _ => true) (ne k) hB hh hkp (Nat.le_refl _) (fun j hj _ => hok j hj) hsk

/-- what becomes of the caller's row -/
def backRow (st : St) (s : Org) (r' : ARow) : Option (Nat × ARow) :=
  match s with
  | .row k => some (k, r')
  | .sub k i => match look st.hp k with
    | some (.rows e e1 true m) => match r' with
      | .ints e2 .i64 l => match Nat.beq e2 e1 with
        | true => some (k, .rows e e1 true (m.set i l))
        | false => none
      | _ => none
    | _ => none
  | .nil => none

theorem distinct_one (s : Org) : distinct [(0, s)] = true := by cases s <;> rfl

theorem ACallS.mutK {f : FuncId} {args args0 : List AVal} {r0 : ARow} {K : AVal → St → Prop} {post : Value → ARow → Prop} (s : Org) (hs : MSpec P f r0 args0 post)
    (hv : vws st.hp [(0, s)] 1 args args0) (hr : rowVw st.hp [(0, s)] 1 s r0)
    (hk : ∀ v r', post v r' → match backRow st s r' with | some (k, r1) => K (.c v) ((st.killSub k).upd k r1) | none => False) : ACallS P st f args K := by
  refine ⟨hs.1, fun w0 ob a w η h vs hvs => ?_⟩
  have hrv : rowsVw st.hp [(0, s)] 1 [(0, r0)] := ⟨rfl, hr, trivial⟩
  have hfree : ∀ b, ownB st.hp η b → ¬ ob b := fun b hb => h.free hb
  have hh0 := View.heap (R := [(0, s)]) (nx' := 1) h.heap hfree (distinct_one s) hrv
  have ha0 := vws_sound (R := [(0, s)]) (nx' := 1) h.heap hfree hrv args args0 hv hvs
  have hs0 : look [((0 : Nat), s)] 0 = some s := rfl
  obtain ⟨hb0, _⟩ := vw_blocks (R := [(0, s)]) (j := 0) h.heap hs0 hr
  refine (hs.2 w w0.B ob (ηV st.hp η [(0, s)]) vs (wB h) (fun b hb => h.badlt (.inl hb)) (fun b hb => ?_) hh0 ha0).mono ?_
  · obtain ⟨k, r, _, h2, h3⟩ := hb0 b hb
    exact hfree b ⟨k, r, h2, h3⟩
  · rintro e w' ⟨v, r', η', rfl, hone, hp, hbel, hfrm, hplain, hrow, hnd, hsrc, hkind, hval, hlen⟩
    have hk' := hk v r' hp
    cases s with
    | nil => exact hk'.elim
    | row k =>
      obtain ⟨r, h1, h2⟩ := rowVw_kind (hp := st.hp) (R := [(0, .row k)]) (nx' := 1) hr
      have hv0 : (ηV st.hp η [(0, Org.row k)]).val 0 = η.val k := rfl
      have hc0 : (ηV st.hp η [(0, Org.row k)]).cel 0 = η.cel k := rfl
      have hbs : bsOf (ηV st.hp η [(0, Org.row k)]) 0 r0 = bsOf η k r := by simp only [bsOf, hv0, hc0, h2]
      have hu : (η.upd k (η.val k) (η'.cel 0)).val k = η'.val 0 := by rw [upd_val, hval, hv0]
      have hbs' : bsOf (η.upd k (η.val k) (η'.cel 0)) k r' = bsOf η' 0 r' := by simp only [bsOf, hu, upd_cel]
      have hs' := SRep.mut (w' := w') h (cs' := η'.cel 0) h1 (by rw [hkind, h2]) (by rw [hlen, hc0]; exact Nat.le_refl _) (fun b hb hn => hfrm b hb (by rw [hbs]; exact hn)) hbel
        (by rw [hbs']; exact hnd) (fun b hb => by rw [hbs'] at hb; rw [← hbs]; exact hsrc b hb) (fun bad hp nx => plain_rep hplain hrow hu (upd_cel _ _ _ _))
      exact ⟨v, .c v, _, _, rfl, hk', rfl, hs', rfl, hone⟩
    | sub k i =>
      simp only [backRow] at hk'
      unfold rowVw at hr
      simp only at hr
      split at hr
      case h_2 => exact hr.elim
      case h_1 e e1 m hl =>
        obtain ⟨hi, rfl⟩ := hr
        rw [hl] at hk'
        simp only at hk'
        split at hk'
        case h_2 => exact hk'.elim
        case h_1 heq =>
          split at heq
          case h_2 => cases heq
          case h_1 e2 l =>
            split at heq
            case h_2 => cases heq
            case h_1 hbe =>
              obtain rfl := Nat.eq_of_beq_eq_true hbe
              simp only [Option.some.injEq, Prod.mk.injEq] at heq
              obtain ⟨rfl, rfl⟩ := heq
              have hrow0 := h.heap.row k _ hl
              have hnd0 := h.heap.nodup k _ hl
              obtain ⟨u, hui, ho⟩ := F2.at hrow0.2 (List.getElem?_eq_getElem hi)
              have hv0 : (ηV st.hp η [(0, Org.sub k i)]).val 0 = u := getD_of hui
              have hbs0 : bsOf (ηV st.hp η [(0, Org.sub k i)]) 0 (.ints e2 .i64 (m.getD i [])) = blk u := by simp only [bsOf, ARow.kind, hv0]; simp
              have hb1 : ∀ m', bsOf η k (.rows e e2 true m') = blk (η.val k) ++ (η.cel k).flatMap blk := fun m' => by simp [bsOf, ARow.kind]
              have hin : ∀ b, b ∈ blk u → b ∈ bsOf η k (.rows e e2 true m) := fun b hb => by
                rw [hb1]; exact List.mem_append.2 (.inr (List.mem_flatMap.2 ⟨u, List.mem_of_getElem? hui, hb⟩))
              have hu : ∀ j, (η.upd k (η.val k) (η.cel k)).val j = η.val j := fun j => by by_cases hj : j = k <;> simp [Env.upd, hj]
              have hc : ∀ j, (η.upd k (η.val k) (η.cel k)).cel j = η.cel j := fun j => by by_cases hj : j = k <;> simp [Env.upd, hj]
              have hb2 : ∀ r, bsOf (η.upd k (η.val k) (η.cel k)) k r = bsOf η k r := fun r => by simp only [bsOf, hu, hc]
              rw [hb1] at hnd0
              obtain ⟨n1, n2, n3⟩ := List.nodup_append.1 hnd0
              have hrl : OwnInts w' w0.B e2 .i64 l (η'.val 0) := hrow.1
              rw [hval, hv0] at hrl
              have hs' := SRep.mut (w' := w') h (k := k) (r := .rows e e2 true m) (r' := .rows e e2 true (m.set i l)) (cs' := η.cel k) hl rfl (Nat.le_refl _)
                (fun b hb hn => hfrm b hb (by rw [hbs0]; exact fun hm => hn (hin b hm))) hbel
                (by rw [hb2, hb1]; exact hnd0) (fun b hb => by rw [hb2, hb1] at hb; exact .inl (by rw [hb1]; exact hb)) (fun bad hp nx => ?_)
              · exact ⟨v, .c v, _, _, rfl, hk', rfl, hs', rfl, hone⟩
              · refine ⟨?_, ?_⟩
                · rw [hu, hc, List.length_set]
                  refine ownsRow_same hrow0.1 (fun b hb => ?_)
                  have hlt : b < w.heap.size := (hrow0.lt b (by rw [hb1]; exact List.mem_append.2 (.inl hb))).2
                  refine hfrm b hlt ?_
                  rw [hbs0]; intro hm
                  exact n3 b hb b (List.mem_flatMap.2 ⟨u, List.mem_of_getElem? hui, hm⟩) rfl
                · rw [hc]
                  refine F2.intro (by rw [List.length_set]; exact F2.length hrow0.2) (fun j l1 u1 hj1 hj2 => ?_)
                  by_cases hji : j = i
                  · subst hji
                    rw [List.getElem?_set_self hi] at hj1
                    rw [hui] at hj2
                    obtain rfl := Option.some.inj hj1
                    obtain rfl := Option.some.inj hj2
                    exact hrl
                  · rw [List.getElem?_set_ne (Ne.symm hji)] at hj1
                    obtain ⟨u2, hu2, ho2⟩ := F2.at hrow0.2 hj1
                    rw [hj2] at hu2
                    obtain rfl := Option.some.inj hu2
                    refine ownsRow_same ho2 (fun b hb => ?_)
                    have hlt : b < w.heap.size := (hrow0.lt b (by rw [hb1]; exact List.mem_append.2 (.inr (List.mem_flatMap.2 ⟨u1, List.mem_of_getElem? hj2, hb⟩)))).2
                    refine hfrm b hlt ?_
                    rw [hbs0]; intro hm
                    exact flat_apart n2 hj2 hui hji b hb hm

theorem ACallS.mut {f : FuncId} {args args0 : List AVal} {r0 r1 : ARow} {v : Value} {K : AVal → St → Prop} (s : Org) (hs : MSpec P f r0 args0 (exM v r1))
    (hk : match backRow st s r1 with | some (k, r2) => K (.c v) ((st.killSub k).upd k r2) | none => False)
    (hv : vws st.hp [(0, s)] 1 args args0) (hr : rowVw st.hp [(0, s)] 1 s r0) : ACallS P st f args K :=
  ACallS.mutK s hs hv hr (fun _ _ e => by obtain ⟨rfl, rfl⟩ := e; exact hk)

/-! ### a call that is walked into -/
def ghosts (d : Nat) : List (Nat × AVal) → List (Nat × AVal)
  | [] => []
  | (i, x) :: r => (d + i, x) :: ghosts d r

def unghost (d : Nat) : List (Nat × AVal) → List (Nat × AVal)
  | [] => []
  | (i, x) :: r => match Nat.ble d i with
    | true => (i - d, x) :: unghost d r
    | false => unghost d r

theorem look_ghosts (d : Nat) : ∀ (l : List (Nat × AVal)) (i : Nat), look (ghosts d l) i = if d ≤ i then look l (i - d) else none
  | [], i => by simp [ghosts, look]
  | (j, x) :: r, i => by
    simp only [ghosts, look_cons, look_ghosts d r i]
    by_cases h1 : d ≤ i
    · simp only [h1, if_true]
      by_cases h2 : d + j = i
      · rw [if_pos h2, if_pos (by omega)]
      · rw [if_neg h2, if_neg (by omega)]
    · simp only [h1, if_false]
      rw [if_neg (by omega)]

theorem look_unghost (d : Nat) : ∀ (l : List (Nat × AVal)) (i : Nat), look (unghost d l) i = look l (d + i)
  | [], i => by simp [unghost, look]
  | (j, x) :: r, i => by
    simp only [unghost, look_cons]
    cases hb : Nat.ble d j with
    | true =>
      have := Nat.le_of_ble_eq_true hb
      simp only [look_cons, look_unghost d r i]
      by_cases h2 : j = d + i
      · rw [if_pos (by omega), if_pos h2]
      · rw [if_neg (by omega), if_neg h2]
    | false =>
      have : ¬ d ≤ j := fun h => by rw [Nat.ble_eq_true_of_le h] at hb; cases hb
      simp only [look_unghost d r i]
      rw [if_neg (by omega)]

def iend (Γ : Tys) (rs : List ResultVar) (sz sz0 : Nat) (K : AVal → St → Prop) : Exit → St → Prop
  | .ret, st => Nat.beq st.sz sz = true ∧ ares Γ st rs fun l => frG (unghost sz st.sl) fun sl => K (match l with | [x] => x | l => .tu l) ⟨sz0, sl, st.hp, st.nx⟩
  | .normal, st => Nat.beq st.sz sz = true ∧ ares Γ st rs fun l => frG (unghost sz st.sl) fun sl => K (match l with | [x] => x | l => .tu l) ⟨sz0, sl, st.hp, st.nx⟩
  | _, _ => False

def iend' (Γ : Tys) (rs : List ResultVar) (sz sz0 : Nat) (K : AVal → St → Prop) : Exit → St → Prop
  | .ret, st => Nat.beq st.sz sz = true ∧ ares Γ st rs fun l => K (match l with | [x] => x | l => .tu l) ⟨sz0, unghost sz st.sl, st.hp, st.nx⟩
  | .normal, st => Nat.beq st.sz sz = true ∧ ares Γ st rs fun l => K (match l with | [x] => x | l => .tu l) ⟨sz0, unghost sz st.sl, st.hp, st.nx⟩
  | _, _ => False

theorem look_app (l r : List (Nat × AVal)) (i : Nat) : look (l ++ r) i = match look l i with | some x => some x | none => look r i := by rw [look_append]; cases look l i <;> rfl

theorem ACallS.inline (hΓ : TysOk P Γ) (hm : P.follows .mixedOrders = true) {f : FuncId} {fn : Func} {c : Code} {args : List AVal} {K : AVal → St → Prop} (hf : P.funcs[f]? = some fn) (hb : fn.body = some c)
    (hname : (fn.name == "runtime.NumGoroutine") = false) (hn : Nat.ble args.length fn.ntmps = true)
    (h : frG (initSl 0 args ++ ghosts fn.ntmps st.sl) fun sl => acode P Γ c ⟨fn.ntmps, sl, st.hp, st.nx⟩ (iend Γ fn.results.toList fn.ntmps st.sz K)) : ACallS P st f args K := by
  rw [frG_eq] at h
  refine ⟨⟨fn, hf, hname, by rw [hb]; rfl⟩, fun w0 ob a w η hsr vs hvs => ?_⟩
  refine calls_of_wp hf hb ?_
  have hle := Nat.le_of_ble_eq_true hn
  have hlen := VReps.length hvs
  let γ : Nat → Value := fun i => a.tmps.getD (i - fn.ntmps) (w0.γ (i - fn.ntmps))
  let W0 : Base := ⟨w0.w, w0.B, w0.may, γ⟩
  have hsz : (vs.toArray ++ Array.replicate (fn.ntmps - vs.toArray.size) undef).size = fn.ntmps := by simp; omega
  have hs : SRep W0 ob ⟨fn.ntmps, initSl 0 args ++ ghosts fn.ntmps st.sl, st.hp, st.nx⟩ { tmps := vs.toArray ++ Array.replicate (fn.ntmps - vs.toArray.size) undef, defers := [] } w η := by
    refine ⟨rfl, hsz, hsr.below, ⟨hsr.base.le, hsr.base.obl, hsr.base.may⟩, hsr.frame, hsr.src, hsr.heap, fun i x hi => ?_⟩
    simp only at hi
    rw [look_app] at hi
    cases hl : look (initSl 0 args) i with
    | some y =>
      rw [hl] at hi
      simp only [Option.some.injEq] at hi
      subst hi
      obtain ⟨v, _, h2, h3⟩ := init_look' hvs i y hl
      simp only [Nat.sub_zero] at h2
      have hlt : i < vs.length := (List.getElem?_eq_some_iff.1 h2).1
      have : (vs.toArray ++ Array.replicate (fn.ntmps - vs.toArray.size) undef).getD i (W0.γ i) = v := by
        rw [Array.getD_eq_getD_getElem?, Array.getElem?_append_left (by simpa using hlt)]
        simp [h2]
      rw [this]
      exact h3
    | none =>
      rw [hl] at hi
      simp only [look_ghosts] at hi
      split at hi
      case isFalse => cases hi
      case isTrue hge =>
        have : (vs.toArray ++ Array.replicate (fn.ntmps - vs.toArray.size) undef).getD i (W0.γ i) = a.tmps.getD (i - fn.ntmps) (w0.γ (i - fn.ntmps)) := by
          rw [Array.getD_eq_getD_getElem?, Array.getElem?_eq_none (by rw [hsz]; exact hge)]; rfl
        rw [this]
        exact hsr.slot _ _ hi
  refine wp_mono (acode_sound (w0 := W0) hΓ hm c _ _ _ w h ⟨η, hs⟩) (fun e a' w' hl => ?_)
  obtain ⟨st', hk, η', hs'⟩ := hl
  have hk : iend' Γ fn.results.toList fn.ntmps st.sz K e st' := by
    cases e <;> simp only [iend, frG_eq] at hk <;> exact hk
  have fin : Nat.beq st'.sz fn.ntmps = true ∧ ares Γ st' fn.results.toList (fun l => K (match l with | [x] => x | l => .tu l) ⟨st.sz, unghost fn.ntmps st'.sl, st'.hp, st'.nx⟩) → ∃ v, (results fn a'.tmps).run P w' = .ok v w' ∧
      ∃ v' x st' η', Ending.returned v = .returned v' ∧ K x st' ∧ st'.sz = st.sz ∧ SRep w0 ob st' a w' η' ∧ VRep w' (fun b => ob b ∨ ownB st'.hp η' b) st'.hp st'.nx η' x v' := fun ⟨he, hk⟩ => by
    have hsz' := Nat.eq_of_beq_eq_true he
    obtain ⟨xs, us, h1, h2, h3⟩ := ares_sound hΓ hs' hk
    have hres := results_run h3
    have back : SRep w0 ob ⟨st.sz, unghost fn.ntmps st'.sl, st'.hp, st'.nx⟩ a w' η' := by
      refine ⟨hsr.defers, hsr.size, hs'.below, hsr.base, hs'.frame, hs'.src, hs'.heap, fun i x hi => ?_⟩
      simp only [look_unghost] at hi
      have := hs'.slot _ x hi
      have hg : a'.tmps.getD (fn.ntmps + i) (W0.γ (fn.ntmps + i)) = a.tmps.getD i (w0.γ i) := by
        rw [Array.getD_eq_getD_getElem?, Array.getElem?_eq_none (by rw [hs'.size, hsz']; omega)]
        show γ (fn.ntmps + i) = _
        simp only [γ, Nat.add_sub_cancel_left]
      rw [hg] at this
      exact this
    have two : ∀ {xs : List AVal} {us : List Value}, VRs w' ob st' η' xs us → us.length ≠ 1 → K (.tu xs) ⟨st.sz, unghost fn.ntmps st'.sl, st'.hp, st'.nx⟩ → (results fn a'.tmps).run P w' = .ok (if hh : us.toArray.size = 1 then us.toArray[0] else .tuple us.toArray) w' →
        ∃ v, (results fn a'.tmps).run P w' = .ok v w' ∧
      ∃ v' x st' η', Ending.returned v = .returned v' ∧ K x st' ∧ st'.sz = st.sz ∧ SRep w0 ob st' a w' η' ∧ VRep w' (fun b => ob b ∨ ownB st'.hp η' b) st'.hp st'.nx η' x v' := by
      intro xs us h2 hne hK hres
      exact ⟨_, by rw [hres, dif_neg (by simpa using hne)], _, .tu xs, _, η', rfl, hK, rfl, back, us, rfl, h2⟩
    clear h3
    match xs, us, h2, h1, hres with
    | [x], [u], h2, h1, hres => exact ⟨u, by rw [hres]; rfl, u, x, _, η', rfl, h1, rfl, back, h2.1⟩
    | [], [], h2, h1, hres => exact two h2 (by simp) h1 hres
    | x :: y :: xs, u :: v :: us, h2, h1, hres => exact two h2 (by simp) h1 hres
  cases e with
  | ret => exact ⟨hs'.defers, fin hk⟩
  | normal => exact ⟨hs'.defers, fin hk⟩
  | _ => exact hk.elim

/-- what is there, told otherwise ahead of a call -/
theorem ACallS.view {f : FuncId} {args args' : List AVal} {K : AVal → St → Prop} {R : List (Nat × Org)} {st' : St} (hs : View R st st') (hv : vws st.hp R st'.nx args args') (h : ACallS P st' f args' K) : ACallS P st f args K := by
  refine ⟨h.fok, fun w0 ob a w η hr vs hvs => (h.run w0 ob a w _ (hs.rep hr) vs (vws_sound hr.heap (fun b hb => hr.free hb) hs.hp args args' hv hvs)).mono ?_⟩
  rintro e w' ⟨v, x, st2, η', rfl, hk, hsz, hs', hx⟩
  exact ⟨v, x, st2, η', rfl, hk, by rw [hsz, hs.sz], hs', hx⟩

/-- what is handed back, told otherwise -/
theorem FSpec.view {f : FuncId} {args : List AVal} {post post' : AVal → List (Nat × ARow) → Prop} (h : FSpec P f args post)
    (hv : ∀ x hr, post x hr → ∃ R x' hr', distinct R = true ∧ rowsVw hr R hr'.length hr' ∧ vw hr R hr'.length x x' ∧ post' x' hr') : FSpec P f args post' := by
  refine ⟨h.1, fun w bad vs hbl hvs => (h.2 w bad vs hbl hvs).mono ?_⟩
  rintro e w' ⟨v, x, hr, η, rfl, hp, hb, hh, hx⟩
  obtain ⟨R, x', hr', h1, h2, h3, h4⟩ := hv x hr hp
  have hfree : ∀ b, ownB hr η b → ¬ bad b := fun b ⟨k, r, hk, hm⟩ hbad => by
    have := ((hh.row k r hk).lt b hm).1
    have := hbl b hbad
    omega
  exact ⟨v, x', hr', ηV hr η R, rfl, h4, hb, View.heap hh hfree h1 h2, vw_sound hh hfree h2 x x' h3 hx⟩
end
end Go.Aw
/- Marks: what the laws write into what they were handed. -/
namespace Go.Aw
def marks (k : Int) (n : Nat) : List Int := (List.range n).map fun i : Nat => k + (i : Int)
def marksR : Int → List (List Int) → List (List Int)
  | _, [] => []
  | k, r :: m => marks k r.length :: marksR (k + r.length) m
def tot : List (List Int) → Nat
  | [] => 0
  | r :: m => r.length + tot m
theorem marksR_length : ∀ (k : Int) (m : List (List Int)), (marksR k m).length = m.length
  | _, [] => rfl
  | k, _ :: m => by simp [marksR, marksR_length _ m]
theorem tot_append : ∀ (m m' : List (List Int)), tot (m ++ m') = tot m + tot m'
  | [], _ => by simp [tot]
  | r :: m, m' => by simp [tot, tot_append m m', Nat.add_assoc]
theorem tot_take_le : ∀ (m : List (List Int)) (i : Nat), tot (m.take i) ≤ tot m
  | [], _ => by simp [tot]
  | _ :: _, 0 => by simp [tot]
  | r :: m, i + 1 => by have := tot_take_le m i; simp [tot]; exact this
theorem tot_take_succ : ∀ (m : List (List Int)) (i : Nat), i < m.length → tot (m.take (i + 1)) = tot (m.take i) + (m.getD i []).length
  | [], _, h => by simp at h
  | r :: m, 0, _ => by simp [tot]
  | r :: m, i + 1, h => by have := tot_take_succ m i (by simpa using h); simp [tot] at this ⊢; omega
theorem marksR_append : ∀ (k : Int) (m m' : List (List Int)), marksR k (m ++ m') = marksR k m ++ marksR (k + tot m) m'
  | _, [], _ => by simp [marksR, tot]
  | k, r :: m, m' => by simp [marksR, marksR_append _ m m', tot, Int.add_assoc]
theorem marksR_take_succ (k : Int) (m : List (List Int)) (i : Nat) (h : i < m.length) : marksR k (m.take (i + 1)) = marksR k (m.take i) ++ [marks (k + tot (m.take i)) (m.getD i []).length] := by
  rw [List.take_succ_eq_append_getElem h, marksR_append]
  simp [marksR, List.getD, h]
theorem marksR_get : ∀ (k : Int) (m : List (List Int)) (i : Nat), i < m.length → (marksR k m).getD i [] = marks (k + tot (m.take i)) (m.getD i []).length
  | _, [], _, h => by simp at h
  | k, r :: m, 0, _ => by simp [marksR, tot]
  | k, r :: m, i + 1, h => by
    have := marksR_get (k + r.length) m i (by simpa using h)
    simp only [marksR, List.getD_cons_succ, List.take_succ_cons, tot]
    rw [this, Int.add_assoc]; simp
theorem marks_length (k : Int) (n : Nat) : (marks k n).length = n := by simp [marks]
theorem marks_get {k : Int} {n i : Nat} (h : i < n) : (marks k n).getD i 0 = k + i := by simp [marks, List.getD, h]
theorem tot_mem : ∀ {m : List (List Int)} {r : List Int}, r ∈ m → r.length ≤ tot m
  | [], _, h => by simp at h
  | q :: m, r, h => by
    rcases List.mem_cons.1 h with rfl | h
    · simp [tot]
    · have := tot_mem h; simp [tot]; omega
def InR (n : Int) : Prop := -9223372036854775808 ≤ n ∧ n ≤ 9223372036854775807
def OkI (l : List Int) : Prop := l.length ≤ 9223372036854775807 ∧ ∀ x, x ∈ l → InR x
def OkM (m : List (List Int)) : Prop := m.length ≤ 9223372036854775807 ∧ ∀ r, r ∈ m → OkI r
theorem OkM.len {m : List (List Int)} (h : OkM m) : ∀ r, r ∈ m → r.length ≤ 9223372036854775807 := fun r hr => (h.2 r hr).1
def SzI (l : List Int) : Prop := l.length ≤ 1048576
def SzM (m : List (List Int)) : Prop := m.length + tot m ≤ 1048576
theorem SzM.all {m : List (List Int)} (h : SzM m) : m.length ≤ 1048576 ∧ (∀ r, r ∈ m → r.length ≤ 1048576) ∧ tot m ≤ 1048576 := by
  unfold SzM at h
  exact ⟨by omega, fun r hr => by have := tot_mem hr; omega, by omega⟩
end Go.Aw
namespace Go.Proofs.Ytkjdplglenjijaa
open Go.Aw
theorem szGo_tot : ∀ {m : List (List Int)} {left : Int}, 0 ≤ szGo m left → szGo m left = left - tot m
  | [], left, _ => by simp [szGo, tot]
  | r :: m, left, h => by
    simp only [szGo] at h ⊢
    split at h
    · omega
    · rename_i hn
      rw [if_neg hn, szGo_tot h]
      simp [tot]
      omega
theorem szSS_tot {m : List (List Int)} {left : Int} (h : 0 ≤ szSS m left) : 0 ≤ szSS m left ∧ szSS m left = left - m.length - tot m := by
  refine ⟨h, ?_⟩
  unfold szSS at h ⊢
  split at h
  · omega
  · rename_i hn
    rw [if_neg hn, szGo_tot h]

theorem marks_step (l : List Int) (k : Int) (i : Nat) (h : i < l.length) : (marks k i ++ l.drop i).set i (k + i) = marks k (i + 1) ++ l.drop (i + 1) := by
  rw [List.set_append_right _ _ (by simp [marks]), marks_length, Nat.sub_self, List.drop_eq_getElem_cons h, List.set_cons_zero]
  simp [marks, List.range_succ]




end Go.Proofs.Ytkjdplglenjijaa
/- Small facts and small functions that many texts use. -/
namespace Go.Aw
abbrev W (n : Int) : Int := IntKind.i64.wrap n
def fo {α : Type} (f : α → Nat → α) (a : α) : Nat → α
  | 0 => a
  | n + 1 => f (fo f a n) n
theorem fo_congr {α : Type} {f g : α → Nat → α} {a : α} : ∀ {n : Nat}, (∀ b k, k < n → f b k = g b k) → fo f a n = fo g a n
  | 0, _ => rfl
  | n + 1, h => by rw [fo, fo, fo_congr (fun b k hk => h b k (by omega)), h _ n (by omega)]
theorem nat_wrap {k : Nat} (h : k ≤ 9223372036854775806) : IntKind.i64.wrap ((k : Int) + 1) = ((k + 1 : Nat) : Int) := by rw [w64 (by omega) (by omega)]; omega
theorem map_range_succ {α : Type} (f : Nat → α) (k : Nat) : (List.range k).map f ++ [f k] = (List.range (k + 1)).map f := by rw [List.range_succ, List.map_append]; rfl
theorem shl_one {n : Nat} (h : n ≤ 12) : shl .i64 1 n = ((2 ^ n : Nat) : Int) := by
  have : n = 0 ∨ n = 1 ∨ n = 2 ∨ n = 3 ∨ n = 4 ∨ n = 5 ∨ n = 6 ∨ n = 7 ∨ n = 8 ∨ n = 9 ∨ n = 10 ∨ n = 11 ∨ n = 12 := by omega
  rcases this with h | h | h | h | h | h | h | h | h | h | h | h | h <;> subst h <;> rfl
theorem two_pow_le {n : Nat} (h : n ≤ 12) : 2 ^ n ≤ 4096 := by
  have := Nat.pow_le_pow_right (n := 2) (by omega) h
  simpa using this
end Go.Aw
namespace Go.Aw
section
variable {P : Program}
/-- (slice, bool): nil where it is false -/
def nilOr (ok : Bool) (r : ARow) : AVal → List (Nat × ARow) → Prop := fun x h =>
  (ok = false ∧ x = .tu [.c (.slice none 0 0), .c (.bool false)] ∧ h = []) ∨ (ok = true ∧ x = .tu [.own 0, .c (.bool true)] ∧ h = [(0, r)])

theorem view_rows {f : FuncId} {args : List AVal} {ok : Bool} {e e1 : Nat} {m : List (List Int)} (h : FSpec P f args (nilOr ok (.rows e e1 true m))) :
    FSpec P f args (ex (.tu [.own 0, .c (.bool ok)]) [(0, .rows e e1 true (if ok then m else []))]) := by
  refine FSpec.view h ?_
  rintro x hr (⟨rfl, rfl, rfl⟩ | ⟨rfl, rfl, rfl⟩)
  · exact ⟨[(0, .nil)], .tu [.own 0, .c (.bool false)], [(0, .rows e e1 true [])], rfl, ⟨rfl, trivial, trivial⟩, ⟨⟨rfl, rfl, rfl⟩, rfl, trivial⟩, rfl, rfl⟩
  · exact ⟨[(0, .row 0)], .tu [.own 0, .c (.bool true)], [(0, .rows e e1 true m)], rfl, ⟨rfl, rfl, trivial⟩, ⟨⟨rfl, rfl⟩, rfl, trivial⟩, rfl, rfl⟩

theorem view_ints {f : FuncId} {args : List AVal} {ok : Bool} {e : Nat} {k : IntKind} {l : List Int} (h : FSpec P f args (nilOr ok (.ints e k l))) :
    FSpec P f args (ex (.tu [.own 0, .c (.bool ok)]) [(0, .ints e k (if ok then l else []))]) := by
  refine FSpec.view h ?_
  rintro x hr (⟨rfl, rfl, rfl⟩ | ⟨rfl, rfl, rfl⟩)
  · exact ⟨[(0, .nil)], .tu [.own 0, .c (.bool false)], [(0, .ints e k [])], rfl, ⟨rfl, trivial, trivial⟩, ⟨⟨rfl, rfl, rfl⟩, rfl, trivial⟩, rfl, rfl⟩
  · exact ⟨[(0, .row 0)], .tu [.own 0, .c (.bool true)], [(0, .ints e k l)], rfl, ⟨rfl, rfl, trivial⟩, ⟨⟨rfl, rfl⟩, rfl, trivial⟩, rfl, rfl⟩
end
theorem tot_le_mul {m : List (List Int)} {n : Nat} (h : ∀ r, r ∈ m → r.length ≤ n) : tot m ≤ m.length * n := by
  induction m with
  | nil => simp [tot]
  | cons r m ih =>
    have h1 := h r (by simp)
    have h2 := ih (fun q hq => h q (by simp [hq]))
    simp only [tot, List.length_cons, Nat.succ_mul]
    omega
end Go.Aw
namespace Go.Aw
theorem map_getD {α β : Type} {f : α → β} {l : List α} {i : Nat} {d : α} {e : β} (h : i < l.length) : (l.map f).getD i e = f (l.getD i d) := by
  simp [List.getD, h]
theorem range_getD {β : Type} {f : Nat → β} {n i : Nat} {e : β} (h : i < n) : ((List.range n).map f).getD i e = f i := by
  simp [List.getD, h]
theorem rall_succ {p : Nat → Bool} {k : Nat} (h1 : (List.range k).all p = true) (h2 : p k = true) : (List.range (k + 1)).all p = true := by
  rw [List.range_succ, List.all_append, h1]; simp [h2]
theorem rall_false {p : Nat → Bool} {k n : Nat} (h : k < n) (h2 : p k = false) : (List.range n).all p = false := by
  rw [List.all_eq_false]
  exact ⟨k, by simpa using h, by simp [h2]⟩
end Go.Aw
namespace Go.Proofs.Ytkjdplglenjijaa
open Go.Aw
set_option maxRecDepth 100000

theorem getD_lt {α : Type} {l : List α} {d : α} {i : Nat} (h : i < l.length) : l.getD i d = l[i] := by rw [List.getD_eq_getElem?_getD, List.getElem?_eq_getElem h]; rfl

def inR (x a b : Int) : Bool := decide (a ≤ x ∧ x ≤ b)
def rowIn (r : List Int) (a b : Int) : Bool := r.all (fun x => inR x a b)
theorem all_take_succ {α : Type} {m : List α} {d : α} {p : α → Bool} {k : Nat} (h : k < m.length) (h1 : (m.take k).all p = true) (h2 : p (m.getD k d) = true) : (m.take (k + 1)).all p = true := by
  rw [List.take_succ_eq_append_getElem h, List.all_append, h1]
  rw [List.getD_eq_getElem?_getD, List.getElem?_eq_getElem h] at h2
  simpa using h2

theorem all_false {α : Type} {m : List α} {d : α} {p : α → Bool} {k : Nat} (h : k < m.length) (h2 : p (m.getD k d) = false) : m.all p = false := by
  rw [List.all_eq_false]
  exact ⟨m.getD k d, getD_mem h, by simpa using h2⟩

theorem all_end {α : Type} {m : List α} {p : α → Bool} {k : Nat} (h : ¬ k < m.length) (h1 : (m.take k).all p = true) : m.all p = true := by
  rwa [List.take_of_length_le (by omega)] at h1

theorem l1In_spec (x a b : Int) : FSpec Try.prog 31 [.c (.int .i64 x), .c (.int .i64 a), .c (.int .i64 b)] (ex (.c (.bool (inR x a b))) []) := by
  refine fspec tyOk mx Try.func31 rfl (by kernel_rfl) rfl ?_
  refine ⟨fun h => ?_, fun h => ?_⟩ <;> (conv => whnf) <;> refine ⟨?_, rfl⟩ <;> simp only [inR, decide_eq_true_eq, decide_eq_false_iff_not] at h ⊢
  · simp [h]
  · simp [show ¬ a ≤ x by omega]

theorem within_spec (x a b : Int) : FSpec Try.prog 28 [.c (.int .i64 x), .c (.int .i64 a), .c (.int .i64 b)] (ex (.c (.bool (inR x a b))) []) := by
  refine fspec tyOk mx Try.func28 rfl (by kernel_rfl) rfl ?_
  refine ⟨fun h => ?_, fun h => ?_⟩ <;> (conv => whnf) <;> refine ⟨?_, rfl⟩ <;> simp only [inR, decide_eq_true_eq, decide_eq_false_iff_not] at h ⊢
  · simp [h]
  · simp [show ¬ a ≤ x by omega]

theorem allWithin_spec (r : List Int) (a b : Int) (hl : r.length ≤ 9223372036854775807) :
    FSpec Try.prog 38 [.t (.ints .i64 r), .c (.int .i64 a), .c (.int .i64 b)] (ex (.c (.bool (rowIn r a b))) []) := by
  refine fspec tyOk mx Try.func38 rfl (by kernel_rfl) rfl ?_
  conv => whnf
  refine aloopI tyOk mx (fun k : Nat => (⟨21, [(0, .t (.ints .i64 r)), (1, .c (.int .i64 a)), (2, .c (.int .i64 b)), (9, .t (.ints .i64 r)), (10, .c (.int .i64 r.length)), (11, .c (.int .i64 (k : Int)))], [], 0⟩ : St)) (fun k => k ≤ r.length ∧ (r.take k).all (fun x => inR x a b) = true) (fun k => r.length - k)
    0 ⟨by omega, rfl⟩ none (by refine ⟨rfl, rfl, ?_, ?_⟩ <;> ((repeat' (first | exact trivial | exact rfl | refine And.intro ?_ ?_)) <;> (try ((conv => whnf); first | refine vint ?_ | refine vboo ?_ | refine rint ?_ | refine rrow ?_ | skip)) <;> (try first | omega | (simp; done) | ((repeat rw [flts_closed _ (by assumption)]); exact vws_closed _ (by assumption))))) (fun k hI => ?_)
  obtain ⟨hk, hp⟩ := hI
  refine ⟨fun h => ?_, fun h => ?_⟩
  · have hk1 : k < r.length := by simpa using h
    conv => whnf
    refine ⟨k, rfl, hk1, ?_⟩
    conv => whnf
    refine ACall.use (within_spec _ _ _) ?_
    refine ⟨fun h => ?_, fun h => ?_⟩
    · conv => whnf
      refine ⟨?_, rfl⟩
      rw [rowIn, all_false (d := 0) hk1 (by simpa using h)]
    · conv => whnf
      rw [w64 (by omega) (by omega)]
      exact ⟨k + 1, none, (by refine ⟨rfl, rfl, ?_, ?_⟩ <;> ((repeat' (first | exact trivial | exact rfl | refine And.intro ?_ ?_)) <;> (try ((conv => whnf); first | refine vint ?_ | refine vboo ?_ | refine rint ?_ | refine rrow ?_ | skip)) <;> (try first | omega | (simp; done) | ((repeat rw [flts_closed _ (by assumption)]); exact vws_closed _ (by assumption))))), ⟨by omega, all_take_succ (d := 0) hk1 hp (by simpa using h)⟩, by omega⟩
  · have hk1 : ¬ k < r.length := by simpa using h
    conv => whnf
    refine ⟨?_, rfl⟩
    rw [rowIn, all_end hk1 hp]

end Go.Proofs.Ytkjdplglenjijaa
/- Finite sums. -/
namespace Go.Aw
def sm (f : Nat → Int) : Nat → Int
  | 0 => 0
  | n + 1 => sm f n + f n
theorem sm_congr {f g : Nat → Int} : ∀ {n : Nat}, (∀ i, i < n → f i = g i) → sm f n = sm g n
  | 0, _ => rfl
  | n + 1, h => by rw [sm, sm, sm_congr (fun i hi => h i (by omega)), h n (by omega)]
theorem sm_add (f g : Nat → Int) : ∀ n, sm (fun i => f i + g i) n = sm f n + sm g n
  | 0 => rfl
  | n + 1 => by simp only [sm]; rw [sm_add f g n]; omega
theorem sm_sub (f g : Nat → Int) : ∀ n, sm (fun i => f i - g i) n = sm f n - sm g n
  | 0 => rfl
  | n + 1 => by simp only [sm]; rw [sm_sub f g n]; omega
theorem sm_bd {f : Nat → Int} {b : Int} : ∀ {n : Nat}, (∀ i, i < n → -b ≤ f i ∧ f i ≤ b) → -(n * b) ≤ sm f n ∧ sm f n ≤ n * b
  | 0, _ => by simp [sm]
  | n + 1, h => by
      have h1 := sm_bd (fun i hi => h i (Nat.lt_succ_of_lt hi)) (n := n)
      have h2 := h n (by omega)
      rw [sm, show ((n + 1 : Nat) : Int) * b = n * b + b by rw [Int.natCast_add, Int.add_mul]; simp]
      omega
theorem sm_mul (c : Int) (f : Nat → Int) : ∀ n, sm (fun i => c * f i) n = c * sm f n
  | 0 => by simp [sm]
  | n + 1 => by simp only [sm]; rw [sm_mul c f n, Int.mul_add]
theorem sm_mul_r (c : Int) (f : Nat → Int) : ∀ n, sm (fun i => f i * c) n = sm f n * c
  | 0 => by simp [sm]
  | n + 1 => by simp only [sm]; rw [sm_mul_r c f n, Int.add_mul]
theorem sm_zero : ∀ n, sm (fun _ => 0) n = 0
  | 0 => rfl
  | n + 1 => by simp only [sm]; rw [sm_zero n]; rfl
theorem sm_comm (f : Nat → Nat → Int) (k : Nat) : ∀ n, sm (fun i => sm (fun j => f i j) k) n = sm (fun j => sm (fun i => f i j) n) k
  | 0 => by simp only [sm]; exact (sm_zero k).symm
  | n + 1 => by simp only [sm]; rw [sm_comm f k n, ← sm_add]
theorem sm_le {f g : Nat → Int} : ∀ {n : Nat}, (∀ i, i < n → f i ≤ g i) → sm f n ≤ sm g n
  | 0, _ => Int.le_refl _
  | n + 1, h => by
      have h1 := sm_le (fun i hi => h i (Nat.lt_succ_of_lt hi)) (n := n)
      have h2 := h n (by omega)
      simp only [sm]; omega
theorem sm_pos {f : Nat → Int} {n : Nat} (h : ∀ i, i < n → 0 ≤ f i) : 0 ≤ sm f n := by
  have := sm_le (f := fun _ => 0) (g := f) h
  rwa [sm_zero] at this
theorem sm_flat (f : Nat → Int) (k : Nat) : ∀ n, sm (fun i => sm (fun j => f (i * k + j)) k) n = sm f (n * k)
  | 0 => by simp [sm]
  | n + 1 => by
      have hs : ∀ j, sm f (n * k + j) = sm f (n * k) + sm (fun i => f (n * k + i)) j := by
        intro j
        induction j with
        | zero => simp [sm]
        | succ j ih => rw [← Nat.add_assoc]; simp only [sm]; rw [ih]; omega
      simp only [sm]
      rw [sm_flat f k n, Nat.add_mul, Nat.one_mul, hs]
/-- sums that the machine wraps, where they stay small -/
theorem foA {g : Int → Nat → Int} {F : Nat → Int} {B K : Int} {n : Nat} (hF : ∀ x, x < n → 0 ≤ F x ∧ F x ≤ B) (hg : ∀ a x, x < n → 0 ≤ a → a ≤ K → g a x = a + F x) {a0 : Int} (h0 : 0 ≤ a0) (hB : 0 ≤ B) (hK : a0 + n * B ≤ K) :
    ∀ k, k ≤ n → fo g a0 k = a0 + sm F k ∧ a0 ≤ fo g a0 k ∧ fo g a0 k ≤ a0 + k * B
  | 0, _ => by simp [fo, sm]
  | k + 1, hk => by
      obtain ⟨h1, h2, h3⟩ := foA hF hg h0 hB hK k (by omega)
      have hf := hF k (by omega)
      have hm : (k : Int) * B ≤ n * B := Int.mul_le_mul_of_nonneg_right (by omega) hB
      have e := hg (fo g a0 k) k (by omega) (by omega) (by omega)
      have e2 : ((k + 1 : Nat) : Int) * B = k * B + B := by rw [Int.natCast_add, Int.add_mul]; simp
      simp only [fo, sm]
      rw [e, e2]
      exact ⟨by rw [h1]; omega, by omega, by omega⟩
/-- the greatest of some numbers that are 0 at least -/
theorem foM {m2 : Int → Int → Int} (hm : ∀ a b, m2 a b = if b > a then b else a) {f : Nat → Int} : ∀ {n : Nat}, (∀ k, k < n → 0 ≤ f k) →
    0 ≤ fo (fun b k => m2 b (f k)) 0 n ∧ (∀ k, k < n → f k ≤ fo (fun b k => m2 b (f k)) 0 n) ∧ (0 < n → ∃ k, k < n ∧ fo (fun b k => m2 b (f k)) 0 n = f k)
  | 0, _ => ⟨Int.le_refl _, fun k hk => absurd hk (by omega), fun h => absurd h (by omega)⟩
  | n + 1, h => by
      obtain ⟨h0, h1, h2⟩ := foM hm (fun k hk => h k (Nat.lt_succ_of_lt hk)) (n := n)
      have hn := h n (by omega)
      simp only [fo]
      rw [hm]
      split
      · rename_i hgt
        refine ⟨hn, fun k hk => ?_, fun _ => ⟨n, by omega, rfl⟩⟩
        by_cases e : k = n
        · subst e; exact Int.le_refl _
        · have := h1 k (by omega); omega
      · rename_i hgt
        refine ⟨h0, fun k hk => ?_, fun _ => ?_⟩
        · by_cases e : k = n
          · subst e; omega
          · exact h1 k (by omega)
        · by_cases hz : 0 < n
          · obtain ⟨k, hk, e⟩ := h2 hz
            exact ⟨k, by omega, e⟩
          · have : n = 0 := by omega
            subst this
            refine ⟨0, by omega, ?_⟩
            simp only [fo] at hgt ⊢
            omega
end Go.Aw
/- Sign games: the test of the shape. -/
namespace Go.Proofs.Ytkjdplglenjijaa
open Go.Aw

def goodM (m : List (List Int)) : Bool := inR m.length 1 3 && m.all (fun r => inR r.length 1 3 && decide (r.length = (m.getD 0 []).length) && rowIn r (-9) 9)

theorem l5Row_spec (r : List Int) (n most : Int) (hm : 0 ≤ most) (hm' : most ≤ 9223372036854775807) (hl : r.length ≤ 9223372036854775807) :
    FSpec Try.prog 40 [.t (.ints .i64 r), .c (.int .i64 n), .c (.int .i64 most)] (ex (.c (.bool (rowIn r (-most) most && decide ((r.length : Int) = n)))) []) := by
  refine fspec tyOk mx Try.func40 rfl (by kernel_rfl) rfl ?_
  conv => whnf
  have hw : IntKind.i64.wrap (0 - most) = -most := by rw [w64 (by omega) (by omega)]; omega
  refine aloopI tyOk mx (fun k : Nat => (⟨27, [(0, .t (.ints .i64 r)), (1, .c (.int .i64 n)), (2, .c (.int .i64 most)), (7, .c (.int .i64 (k : Int)))], [], 0⟩ : St)) (fun k => k ≤ r.length ∧ (r.take k).all (fun x => inR x (-most) most) = true) (fun k => r.length - k)
    0 ⟨by omega, rfl⟩ none (by refine ⟨rfl, rfl, ?_, ?_⟩ <;> ((repeat' (first | exact trivial | exact rfl | refine And.intro ?_ ?_)) <;> (try ((conv => whnf); first | refine vint ?_ | refine vboo ?_ | refine rint ?_ | refine rrow ?_ | skip)) <;> (try first | omega | (simp; done) | ((repeat rw [flts_closed _ (by assumption)]); exact vws_closed _ (by assumption))))) (fun k hI => ?_)
  obtain ⟨hk, hp⟩ := hI
  refine ⟨fun h => ?_, fun h => ?_⟩
  · have hk1 : k < r.length := by simpa using h
    conv => whnf
    refine ⟨k, rfl, hk1, ?_⟩
    conv => whnf
    rw [hw]
    refine ACall.use (l1In_spec _ _ _) ?_
    refine ⟨fun h => ?_, fun h => ?_⟩
    · conv => whnf
      refine ⟨?_, rfl⟩
      rw [rowIn, all_false (d := 0) hk1 (by simpa using h)]
      rfl
    · conv => whnf
      rw [w64 (by omega) (by omega)]
      exact ⟨k + 1, none, (by refine ⟨rfl, rfl, ?_, ?_⟩ <;> ((repeat' (first | exact trivial | exact rfl | refine And.intro ?_ ?_)) <;> (try ((conv => whnf); first | refine vint ?_ | refine vboo ?_ | refine rint ?_ | refine rrow ?_ | skip)) <;> (try first | omega | (simp; done) | ((repeat rw [flts_closed _ (by assumption)]); exact vws_closed _ (by assumption))))), ⟨by omega, all_take_succ (d := 0) hk1 hp (by simpa using h)⟩, by omega⟩
  · have hk1 : ¬ k < r.length := by simpa using h
    conv => whnf
    refine ⟨?_, rfl⟩
    rw [rowIn, all_end hk1 hp, Bool.true_and]
    rfl

theorem l5Good_spec (m : List (List Int)) (hm : m.length ≤ 9223372036854775807) (hr : ∀ r, r ∈ m → r.length ≤ 9223372036854775807) :
    FSpec Try.prog 30 [.t (.rows m)] (ex (.c (.bool (goodM m))) []) := by
  refine fspec tyOk mx Try.func30 rfl (by kernel_rfl) rfl ?_
  conv => whnf
  refine aloopI tyOk mx (fun k : Nat => (⟨32, [(0, .t (.rows m)), (3, .c (.int .i64 (k : Int)))], [], 0⟩ : St))
    (fun k => k ≤ m.length ∧ (m.take k).all (fun r => inR r.length 1 3 && decide (r.length = (m.getD 0 []).length) && rowIn r (-9) 9) = true) (fun k => m.length - k)
    0 ⟨by omega, rfl⟩ none (by refine ⟨rfl, rfl, ?_, ?_⟩ <;> ((repeat' (first | exact trivial | exact rfl | refine And.intro ?_ ?_)) <;> (try ((conv => whnf); first | refine vint ?_ | refine vboo ?_ | refine rint ?_ | refine rrow ?_ | skip)) <;> (try first | omega | (simp; done) | ((repeat rw [flts_closed _ (by assumption)]); exact vws_closed _ (by assumption))))) (fun k hI => ?_)
  obtain ⟨hk, hp⟩ := hI
  refine ⟨fun h => ?_, fun h => ?_⟩
  · have hk1 : k < m.length := by simpa using h
    conv => whnf
    refine ADraw.std tyOk mx ⟨by kernel_rfl, k, rfl, hk1, ?_⟩
    conv => whnf
    refine QCall.use (l1In_spec _ _ _) ?_
    refine ⟨fun h => ?_, fun h => ?_⟩
    · conv => whnf
      refine ⟨k, rfl, hk1, 0, rfl, by omega, ?_⟩
      conv => whnf
      refine QCall.use (l5Row_spec _ _ _ (by omega) (by omega) (hr _ (getD_mem hk1))) ?_
      refine ⟨fun h2 => ?_, fun h2 => ?_⟩
      · conv => whnf
        refine ⟨?_, rfl⟩
        rw [goodM, all_false (d := []) hk1, Bool.and_false]
        simp at h h2 ⊢
        intro _ h3
        rcases h2 with h2 | h2
        · exact h2
        · omega
      · conv => whnf
        rw [w64 (by omega) (by omega)]
        refine ⟨k + 1, none, (by refine ⟨rfl, rfl, ?_, ?_⟩ <;> ((repeat' (first | exact trivial | exact rfl | refine And.intro ?_ ?_)) <;> (try ((conv => whnf); first | refine vint ?_ | refine vboo ?_ | refine rint ?_ | refine rrow ?_ | skip)) <;> (try first | omega | (simp; done) | ((repeat rw [flts_closed _ (by assumption)]); exact vws_closed _ (by assumption))))), ⟨by omega, all_take_succ (d := []) hk1 hp ?_⟩, by omega⟩
        simp at h h2 ⊢
        exact ⟨⟨h, by omega⟩, h2.1⟩
    · refine ⟨fun _ => ?_, fun h => nomatch h⟩
      conv => whnf
      refine ⟨?_, rfl⟩
      rw [goodM, all_false (d := []) hk1, Bool.and_false]
      simp at h ⊢
      simp [h]
  · have hk1 : ¬ k < m.length := by simpa using h
    conv => whnf
    refine ACall.use (l1In_spec _ _ _) ?_
    conv => whnf
    refine ⟨?_, rfl⟩
    rw [goodM, all_end hk1 hp, Bool.and_true]

theorem iIsSignGame_spec (m : List (List Int)) (hm : m.length ≤ 9223372036854775807) (hr : ∀ r, r ∈ m → r.length ≤ 9223372036854775807) :
    FSpec Try.prog 27 [.t (.rows m)] (ex (.c (.bool (goodM m))) []) := by
  refine fspec tyOk mx Try.func27 rfl (by kernel_rfl) rfl ?_
  conv => whnf
  refine ACall.use (within_spec _ _ _) ?_
  refine ⟨fun h => ?_, fun h => ?_⟩
  · conv => whnf
    refine ⟨?_, rfl⟩
    simp only [Bool.not_eq_true'] at h
    rw [goodM, h, Bool.false_and]
  have h0 : inR m.length 1 3 = true := by simpa using h
  conv => whnf
  refine aloopI tyOk mx (fun k : Nat => (⟨34, [(0, .t (.rows m)), (9, .t (.rows m)), (10, .c (.int .i64 m.length)), (11, .c (.int .i64 (k : Int)))], [], 0⟩ : St))
    (fun k => k ≤ m.length ∧ (m.take k).all (fun r => inR r.length 1 3 && decide (r.length = (m.getD 0 []).length) && rowIn r (-9) 9) = true) (fun k => m.length - k)
    0 ⟨by omega, rfl⟩ none (by refine ⟨rfl, rfl, ?_, ?_⟩ <;> ((repeat' (first | exact trivial | exact rfl | refine And.intro ?_ ?_)) <;> (try ((conv => whnf); first | refine vint ?_ | refine vboo ?_ | refine rint ?_ | refine rrow ?_ | skip)) <;> (try first | omega | (simp; done) | ((repeat rw [flts_closed _ (by assumption)]); exact vws_closed _ (by assumption))))) (fun k hI => ?_)
  obtain ⟨hk, hp⟩ := hI
  refine ⟨fun h => ?_, fun h => ?_⟩
  · have hk1 : k < m.length := by simpa using h
    conv => whnf
    refine ⟨k, rfl, hk1, ?_⟩
    conv => whnf
    have q : ∀ b, (inR (m.getD k []).length 1 3 && decide ((m.getD k []).length = (m.getD 0 []).length) && rowIn (m.getD k []) (-9) 9) = b → b = false → goodM m = false := fun b hb hf => by
      rw [goodM, all_false (d := []) hk1 (by rw [hb, hf]), Bool.and_false]
    refine ACall.use (within_spec _ _ _) ?_
    refine ⟨fun h1 => ?_, fun h1 => ?_⟩
    · simp only [Bool.not_eq_false'] at h1
      refine ⟨0, rfl, by omega, ?_⟩
      refine ⟨fun h2 => ?_, fun h2 => ?_⟩
      · simp only [bne_eq_false_iff_eq, Int.natCast_inj] at h2
        refine ACall.use (allWithin_spec _ _ _ (hr _ (getD_mem hk1))) ?_
        refine ⟨fun h3 => ?_, fun h3 => ?_⟩
        · simp only [Bool.not_eq_true'] at h3
          conv => whnf
          exact ⟨by rw [q false (by rw [h3, Bool.and_false]) rfl], rfl⟩
        · simp only [Bool.not_eq_false'] at h3
          conv => whnf
          rw [w64 (by omega) (by omega)]
          exact ⟨k + 1, none, (by refine ⟨rfl, rfl, ?_, ?_⟩ <;> ((repeat' (first | exact trivial | exact rfl | refine And.intro ?_ ?_)) <;> (try ((conv => whnf); first | refine vint ?_ | refine vboo ?_ | refine rint ?_ | refine rrow ?_ | skip)) <;> (try first | omega | (simp; done) | ((repeat rw [flts_closed _ (by assumption)]); exact vws_closed _ (by assumption))))), ⟨by omega, all_take_succ (d := []) hk1 hp (by rw [h1, h3, decide_eq_true h2]; rfl)⟩, by omega⟩
      · refine ⟨fun _ => ?_, fun h => nomatch h⟩
        simp only [bne_iff_ne, ne_eq, Int.natCast_inj] at h2
        conv => whnf
        exact ⟨by rw [q false (by simp only [h2]; simp) rfl], rfl⟩
    · simp only [Bool.not_eq_true'] at h1
      refine ⟨fun h => (nomatch h), fun _ => ?_⟩
      refine ⟨fun _ => ?_, fun h => nomatch h⟩
      conv => whnf
      exact ⟨by rw [q false (by rw [h1]; rfl) rfl], rfl⟩
  · have hk1 : ¬ k < m.length := by simpa using h
    conv => whnf
    refine ⟨?_, rfl⟩
    rw [goodM, all_end hk1 hp, Bool.and_true, h0]

end Go.Proofs.Ytkjdplglenjijaa
/- Signs and sums. -/
namespace Go.Proofs.Ytkjdplglenjijaa
open Go.Aw

def sgAt (n code i : Nat) : Int := W (W (2 * bits .and .i64 (shr .i64 code ((n : Int) - 1 - i)) 1) - 1)
def sgRow (n code : Nat) : List Int := (List.range n).map (sgAt n code)
def signsL (n : Nat) : List (List Int) := (List.range (2 ^ n)).map (sgRow n)

theorem signsOf_spec (n : Nat) (hn : n ≤ 12) : FSpec Try.prog 50 [.c (.int .i64 n)] (ex (.own 0) [(0, .rows 25 3 true (signsL n))]) := by
  have h2 := two_pow_le hn
  refine fspec tyOk mx Try.func50 rfl (by kernel_rfl) rfl ?_
  conv => whnf
  refine ⟨by omega, ?_⟩
  rw [shl_one hn]
  conv => whnf
  refine aloopI tyOk mx (fun c : Nat => (⟨37, [(0, .c (.int .i64 n)), (3, .own 0), (9, .c (.int .i64 ((2 ^ n : Nat)))), (10, .c (.int .i64 (c)))], [(0, .rows 25 3 true ((List.range c).map (sgRow n)))], 1⟩ : St)) (fun c => c ≤ 2 ^ n) (fun c => 2 ^ n - c) 0 (Nat.zero_le _) none (by refine ⟨rfl, rfl, ?_, ?_⟩ <;> ((repeat' (first | exact trivial | exact rfl | refine And.intro ?_ ?_)) <;> (try ((conv => whnf); first | refine vint ?_ | refine vboo ?_ | refine rint ?_ | refine rrow ?_ | skip)) <;> (try first | omega | (simp; done) | ((repeat rw [flts_closed _ (by assumption)]); exact vws_closed _ (by assumption))))) (fun c hc => ?_)
  refine ⟨fun h => ?_, fun h => ?_⟩
  · have hc1 : c < 2 ^ n := Int.ofNat_lt.1 (of_decide_eq_true h)
    conv => whnf
    refine aloopI tyOk mx (fun i : Nat => (⟨37, [(0, .c (.int .i64 n)), (3, .own 0), (4, .c (.int .i64 (c))), (5, .own 1), (9, .c (.int .i64 ((2 ^ n : Nat)))), (10, .c (.int .i64 (c))), (14, .c (.int .i64 n)), (15, .c (.int .i64 (i)))], [(0, .rows 25 3 true ((List.range c).map (sgRow n))), (1, .ints 3 .i64 ((List.range i).map (sgAt n c)))], 2⟩ : St)) (fun i => i ≤ n) (fun i => n - i) 0 (by omega) none (by refine ⟨rfl, rfl, ?_, ?_⟩ <;> ((repeat' (first | exact trivial | exact rfl | refine And.intro ?_ ?_)) <;> (try ((conv => whnf); first | refine vint ?_ | refine vboo ?_ | refine rint ?_ | refine rrow ?_ | skip)) <;> (try first | omega | (simp; done) | ((repeat rw [flts_closed _ (by assumption)]); exact vws_closed _ (by assumption))))) (fun i hi => ?_)
    refine ⟨fun h => ?_, fun h => ?_⟩
    · have hi1 : i < n := by simpa using h
      have e1 : IntKind.i64.wrap (IntKind.i64.wrap ((n : Int) - 1) - i) = (n : Int) - 1 - i := by rw [w64 (n := (n : Int) - 1) (by omega) (by omega), w64 (by omega) (by omega)]
      conv => whnf
      rw [e1]
      refine ⟨by omega, ?_⟩
      conv => whnf
      refine ⟨by simp [room]; omega, ?_⟩
      conv => whnf
      rw [nat_wrap (by omega)]
      refine ⟨i + 1, none, ?_, hi1, by omega⟩
      (refine ⟨rfl, rfl, ?_, ?_⟩ <;> ((repeat' (first | exact trivial | exact rfl | refine And.intro ?_ ?_)) <;> (try ((conv => whnf); first | refine vint ?_ | refine vboo ?_ | refine rint ?_ | refine rrow ?_ | skip)) <;> (try first | omega | (simp; done) | ((repeat rw [flts_closed _ (by assumption)]); exact vws_closed _ (by assumption)))))
      rw [← map_range_succ]; rfl
    · have hi1 : n ≤ i := by simpa using h
      obtain rfl : i = n := by omega
      conv => whnf
      refine ⟨by simp [room]; omega, ?_⟩
      conv => whnf
      rw [nat_wrap (by omega)]
      refine ⟨c + 1, none, ?_, hc1, by omega⟩
      (refine ⟨rfl, rfl, ?_, ?_⟩ <;> ((repeat' (first | exact trivial | exact rfl | refine And.intro ?_ ?_)) <;> (try ((conv => whnf); first | refine vint ?_ | refine vboo ?_ | refine rint ?_ | refine rrow ?_ | skip)) <;> (try first | omega | (simp; done) | ((repeat rw [flts_closed _ (by assumption)]); exact vws_closed _ (by assumption)))))
      rw [← map_range_succ]; rfl
  · have hc1 : 2 ^ n ≤ c := Nat.not_lt.1 fun hh => of_decide_eq_false h (Int.ofNat_lt.2 hh)
    obtain rfl : c = 2 ^ n := by omega
    conv => whnf
    exact ⟨rfl, rfl⟩

def sumRow (r places : List Int) (c s : Int) (n : Nat) : Int := fo (fun s y => W (s + W (W (r.getD y 0 * c) * places.getD y 0))) s n
def sumTo (m : List (List Int)) (rows places : List Int) (n : Nat) : Int := fo (fun s x => sumRow (m.getD x []) places (rows.getD x 0) s (m.getD x []).length) 0 n
def sumW (m : List (List Int)) (rows places : List Int) : Int := sumTo m rows places m.length

theorem signed_spec (m : List (List Int)) (rows places : List Int) (h1 : m.length ≤ rows.length) (h2 : ∀ r, r ∈ m → r.length ≤ places.length) (h3 : rows.length ≤ 1000) (h4 : places.length ≤ 1000) :
    FSpec Try.prog 51 [.t (.rows m), .t (.ints .i64 rows), .t (.ints .i64 places)] (ex (.c (.int .i64 (sumW m rows places))) []) := by
  refine fspec tyOk mx Try.func51 rfl (by kernel_rfl) rfl ?_
  conv => whnf
  refine aloopI tyOk mx (fun x : Nat => (⟨42, [(1, .t (.ints .i64 rows)), (2, .t (.ints .i64 places)), (7, .c (.int .i64 (sumTo m rows places x))), (12, .t (.rows m)), (13, .c (.int .i64 m.length)), (14, .c (.int .i64 (x)))], [], 0⟩ : St)) (fun x => x ≤ m.length) (fun x => m.length - x) 0 (by omega) none (by refine ⟨rfl, rfl, ?_, ?_⟩ <;> ((repeat' (first | exact trivial | exact rfl | refine And.intro ?_ ?_)) <;> (try ((conv => whnf); first | refine vint ?_ | refine vboo ?_ | refine rint ?_ | refine rrow ?_ | skip)) <;> (try first | omega | (simp; done) | ((repeat rw [flts_closed _ (by assumption)]); exact vws_closed _ (by assumption))))) (fun x hx => ?_)
  refine ⟨fun h => ?_, fun h => ?_⟩
  · have hx1 : x < m.length := by simpa using h
    have h5 := h2 _ (getD_mem (d := []) hx1)
    conv => whnf
    refine ⟨x, rfl, hx1, ?_⟩
    conv => whnf
    refine aloopI tyOk mx (fun y : Nat => (⟨42, [(1, .t (.ints .i64 rows)), (2, .t (.ints .i64 places)), (7, .c (.int .i64 (sumRow (m.getD x []) places (rows.getD x 0) (sumTo m rows places x) y))), (8, .c (.int .i64 (x))), (12, .t (.rows m)), (13, .c (.int .i64 m.length)), (14, .c (.int .i64 (x))), (19, .t (.ints .i64 (m.getD x []))), (20, .c (.int .i64 ((m.getD x []).length))), (21, .c (.int .i64 (y)))], [], 0⟩ : St)) (fun y => y ≤ (m.getD x []).length) (fun y => (m.getD x []).length - y) 0 (by omega) none (by refine ⟨rfl, rfl, ?_, ?_⟩ <;> ((repeat' (first | exact trivial | exact rfl | refine And.intro ?_ ?_)) <;> (try ((conv => whnf); first | refine vint ?_ | refine vboo ?_ | refine rint ?_ | refine rrow ?_ | skip)) <;> (try first | omega | (simp; done) | ((repeat rw [flts_closed _ (by assumption)]); exact vws_closed _ (by assumption))))) (fun y hy => ?_)
    refine ⟨fun h => ?_, fun h => ?_⟩
    · have hy1 : y < (m.getD x []).length := of_decide_eq_true h |> Int.ofNat_lt.1
      conv => whnf
      refine ⟨y, rfl, hy1, ?_⟩
      conv => whnf
      refine ADraw.std tyOk mx ⟨by kernel_rfl, x, rfl, by omega, y, rfl, by omega, ?_⟩
      conv => whnf
      rw [nat_wrap (by omega)]
      exact ⟨y + 1, none, (by refine ⟨rfl, rfl, ?_, ?_⟩ <;> ((repeat' (first | exact trivial | exact rfl | refine And.intro ?_ ?_)) <;> (try ((conv => whnf); first | refine vint ?_ | refine vboo ?_ | refine rint ?_ | refine rrow ?_ | skip)) <;> (try first | omega | (simp; done) | ((repeat rw [flts_closed _ (by assumption)]); exact vws_closed _ (by assumption))))), hy1, by omega⟩
    · have hy1 : ¬ y < (m.getD x []).length := fun hh => of_decide_eq_false h (Int.ofNat_lt.2 hh)
      obtain rfl : y = (m.getD x []).length := by omega
      conv => whnf
      rw [nat_wrap (by omega)]
      exact ⟨x + 1, none, (by refine ⟨rfl, rfl, ?_, ?_⟩ <;> ((repeat' (first | exact trivial | exact rfl | refine And.intro ?_ ?_)) <;> (try ((conv => whnf); first | refine vint ?_ | refine vboo ?_ | refine rint ?_ | refine rrow ?_ | skip)) <;> (try first | omega | (simp; done) | ((repeat rw [flts_closed _ (by assumption)]); exact vws_closed _ (by assumption))))), hx1, by omega⟩
  · have hx1 : ¬ x < m.length := by simpa using h
    obtain rfl : x = m.length := by omega
    conv => whnf
    exact ⟨rfl, rfl⟩
theorem goodM_spec {m : List (List Int)} (h : goodM m = true) : 1 ≤ m.length ∧ m.length ≤ 3 ∧ 1 ≤ (m.getD 0 []).length ∧ (m.getD 0 []).length ≤ 3 ∧ (∀ r, r ∈ m → r.length = (m.getD 0 []).length ∧ ∀ x, x ∈ r → -9 ≤ x ∧ x ≤ 9) := by
  simp only [goodM, inR, rowIn, Bool.and_eq_true, decide_eq_true_eq, List.all_eq_true] at h
  obtain ⟨⟨h1, h2⟩, h3⟩ := h
  have h0 : m.getD 0 [] ∈ m := getD_mem (by omega)
  have := h3 _ h0
  exact ⟨by omega, by omega, by omega, by omega, fun r hr => ⟨(h3 r hr).1.2, (h3 r hr).2⟩⟩

end Go.Proofs.Ytkjdplglenjijaa
/- Determinants: the reference's expansion, row by row. -/
namespace Go.Aw
def sgn : Nat → Int
  | 0 => 1
  | i + 1 => W (0 - sgn i)
def detF (num sub : Nat → Int) : Nat → Int
  | 0 => 0
  | i + 1 => if num i = 0 then detF num sub i else W (detF num sub i + W (W (sgn i * num i) * sub i))
def entry (a : List (List Int)) (r c : Int) : Int := (a.getD r.toNat []).getD c.toNat 0
def detL (a : List (List Int)) : List Int → List Int → Int
  | [], _ => 1
  | r :: rs, cols => detF (fun i => entry a r (cols.getD i 0)) (fun i => detL a rs (cols.take i ++ cols.drop (i + 1))) cols.length
/-- a square matrix -/
def Sq (a : List (List Int)) : Prop := a.length ≤ 1000 ∧ ∀ r, r ∈ a → r.length = a.length
def Pl (n : Nat) (l : List Int) : Prop := l.length ≤ 1000 ∧ ∀ x, x ∈ l → 0 ≤ x ∧ x < n
theorem Pl.tail {n : Nat} {r : Int} {l : List Int} (h : Pl n (r :: l)) : Pl n l := ⟨by have := h.1; simp at this; omega, fun x hx => h.2 x (by simp [hx])⟩
theorem Pl.cut {n : Nat} {l : List Int} (h : Pl n l) (i : Nat) : Pl n (l.take i ++ l.drop (i + 1)) := by
  refine ⟨?_, fun x hx => ?_⟩
  · have := h.1
    rw [List.length_append, List.length_take, List.length_drop]; omega
  · rcases List.mem_append.1 hx with hx | hx
    · exact h.2 x (List.mem_of_mem_take hx)
    · exact h.2 x (List.mem_of_mem_drop hx)
theorem Pl.drop {n : Nat} {l : List Int} (h : Pl n l) (i : Nat) : Pl n (l.drop i) := ⟨by have := h.1; rw [List.length_drop]; omega, fun x hx => h.2 x (List.mem_of_mem_drop hx)⟩
end Go.Aw
namespace Go.Proofs.Ytkjdplglenjijaa
open Go.Aw
set_option maxRecDepth 100000
set_option maxHeartbeats 4000000

theorem l1Own_spec (l : List Int) (hl : l.length ≤ 1048576) : FSpec Try.prog 43 [.t (.ints .i64 l)] (ex (.own 0) [(0, .ints 3 .i64 l)]) := by
  refine fspec tyOk mx Try.func43 rfl (by kernel_rfl) rfl ?_
  conv => whnf
  refine ⟨by simp [room]; omega, ?_⟩
  conv => whnf
  exact ⟨rfl, rfl⟩

theorem l5Minor_spec (a : List (List Int)) (ha : Sq a) : ∀ (rows cols : List Int), Pl a.length rows → Pl a.length cols →
    FSpec Try.prog 49 [.t (.rows a), .t (.ints .i64 rows), .t (.ints .i64 cols)] (ex (.c (.int .i64 (detL a rows cols))) []) := by
  intro rows
  induction rows with
  | nil =>
    intro cols _ _
    refine fspec tyOk mx Try.func49 rfl (by kernel_rfl) rfl ?_
    conv => whnf
    refine ⟨fun h => ?_, fun h => ?_⟩
    · conv => whnf
      exact ⟨rfl, rfl⟩
    · cases h
  | cons r rs ih =>
    intro cols hr hc
    have hr0 := hr.2 r (by simp)
    have hrl := ha.2 _ (getD_mem (d := []) (k := r.toNat) (show r.toNat < a.length by omega))
    have ha1 := ha.1
    have hc1 := hc.1
    have hc2 := hc.2
    have hr1 := hr.1
    simp only [List.length_cons] at hr1
    refine fspec tyOk mx Try.func49 rfl (by kernel_rfl) rfl ?_
    conv => whnf
    refine ⟨fun h => ?_, fun h => ?_⟩
    · have := of_decide_eq_true (p := (((r :: rs).length : Int) = 0)) (by simpa using h)
      simp at this
      omega
    · conv => whnf
      refine aloopI tyOk mx (fun i : Nat => (⟨58, [(0, .t (.rows a)), (1, .t (.ints .i64 (r :: rs))), (2, .t (.ints .i64 cols)), (7, .c (.int .i64 (detF (fun i => entry a r (cols.getD i 0)) (fun i => detL a rs (cols.take i ++ cols.drop (i + 1))) i))), (8, .c (.int .i64 (sgn i))), (9, .c (.int .i64 (i)))], [], 0⟩ : St)) (fun i => i ≤ cols.length) (fun i => cols.length - i) 0 (Nat.zero_le _) none (by refine ⟨rfl, rfl, ?_, ?_⟩ <;> ((repeat' (first | exact trivial | exact rfl | refine And.intro ?_ ?_)) <;> (try ((conv => whnf); first | refine vint ?_ | refine vboo ?_ | refine rint ?_ | refine rrow ?_ | skip)) <;> (try first | omega | (simp; done) | ((repeat rw [flts_closed _ (by assumption)]); exact vws_closed _ (by assumption))))) (fun i hi => ?_)
      refine ⟨fun h2 => ?_, fun h2 => ?_⟩
      · have h2 : i < cols.length := by have := ltT h2; omega
        have hci := hc2 _ (getD_mem (d := 0) h2)
        conv => whnf
        refine ADraw.std tyOk mx ⟨by kernel_rfl, 0, rfl, by simp, r.toNat, by show r = _; omega, by omega, i, rfl, h2, (cols.getD i 0).toNat, by omega, by omega, ?_⟩
        conv => whnf
        refine ⟨fun h3 => ?_, fun h3 => ?_⟩
        · have h3 : entry a r (cols.getD i 0) ≠ 0 := by simpa [entry] using h3
          conv => whnf
          refine ADraw.plan tyOk mx (.q 0 (.q 1 (.q 2 (.q 4 (.q 5 (.q 6 (.q 7 (.last 3 (.last 8 (.q 9 (.done)))))))))) : Plan) (by kernel_rfl) ?_
          conv => whnf
          have hlt : (cols.take i).length = i := by rw [List.length_take]; omega
          have hld : (cols.drop (i + 1)).length = cols.length - (i + 1) := List.length_drop
          repeat' (first | (refine ⟨i, rfl, by omega, ?_⟩; conv => whnf) | (refine ⟨i + 1, nat_wrap (by omega), by omega, ?_⟩; conv => whnf) | (refine ACall.useR (l1Own_spec _ (by omega)) ?_; conv => whnf) | (refine ⟨by simp only [room]; omega, ?_⟩; conv => whnf) | (refine And.intro ?_ ?_ <;> (conv => whnf)))
          all_goals
            refine ⟨1, rfl, by simp, ?_⟩
            conv => whnf
            refine ACall.use (ih _ hr.tail (hc.cut i)) ?_
            conv => whnf
            rw [nat_wrap (by omega)]
            refine ⟨i + 1, none, ?_, by omega, by omega⟩
            (refine ⟨rfl, rfl, ?_, ?_⟩ <;> ((repeat' (first | exact trivial | exact rfl | refine And.intro ?_ ?_)) <;> (try ((conv => whnf); first | refine vint ?_ | refine vboo ?_ | refine rint ?_ | refine rrow ?_ | skip)) <;> (try first | omega | (simp; done) | ((repeat rw [flts_closed _ (by assumption)]); exact vws_closed _ (by assumption)))))
            rw [detF, if_neg h3]; rfl
        · have h3 : entry a r (cols.getD i 0) = 0 := by simpa [entry] using h3
          conv => whnf
          rw [nat_wrap (by omega)]
          refine ⟨i + 1, none, ?_, by omega, by omega⟩
          (refine ⟨rfl, rfl, ?_, ?_⟩ <;> ((repeat' (first | exact trivial | exact rfl | refine And.intro ?_ ?_)) <;> (try ((conv => whnf); first | refine vint ?_ | refine vboo ?_ | refine rint ?_ | refine rrow ?_ | skip)) <;> (try first | omega | (simp; done) | ((repeat rw [flts_closed _ (by assumption)]); exact vws_closed _ (by assumption)))))
          rw [detF, if_pos h3]
      · have h2 : ¬ i < cols.length := by have := ltF h2; omega
        obtain rfl : i = cols.length := by omega
        conv => whnf
        exact ⟨rfl, rfl⟩
end Go.Proofs.Ytkjdplglenjijaa
/- Determinants: the program's expansion by a closure that captures itself. -/
namespace Go.Aw
def cloneP (l : List Int) (e : Nat) (x : AVal) (h : List (Nat × ARow)) : Prop := (l = [] ∧ x = .c (.slice none 0 0) ∧ h = []) ∨ (x = .own 0 ∧ h = [(0, .ints e .i64 l)])
end Go.Aw
namespace Go.Proofs.Ytkjdplglenjijaa
open Go.Aw
set_option maxRecDepth 100000
set_option maxHeartbeats 4000000

theorem clone_spec (l : List Int) (hl : l.length ≤ 1048576) : FSpec Try.prog 54 [.t (.ints .i64 l)] (ex (.own 0) [(0, .ints 3 .i64 l)]) := by
  have h : FSpec Try.prog 54 [.t (.ints .i64 l)] (cloneP l 3) := by
    refine fspec tyOk mx Try.func54 rfl (by kernel_rfl) rfl ?_
    conv => whnf
    intro b hb
    conv => whnf
    refine ⟨fun h => ?_, fun h => ?_⟩
    · conv => whnf
      exact .inl ⟨hb h, rfl, rfl⟩
    · conv => whnf
      refine ⟨by simp [room]; omega, ?_⟩
      conv => whnf
      exact .inr ⟨rfl, rfl⟩
  refine h.view (fun x hr e => ?_)
  rcases e with ⟨rfl, rfl, rfl⟩ | ⟨rfl, rfl⟩
  · exact ⟨[(0, .nil)], .own 0, [(0, .ints 3 .i64 [])], rfl, ⟨rfl, trivial, trivial⟩, ⟨rfl, rfl, rfl⟩, rfl, rfl⟩
  · exact ⟨[(0, .row 0)], .own 0, [(0, .ints 3 .i64 l)], rfl, ⟨rfl, rfl, trivial⟩, ⟨rfl, rfl⟩, rfl, rfl⟩

theorem expand_spec (a : List (List Int)) (set : List Int) (ha : Sq a) (hs : Pl a.length set) : ∀ (n i : Nat) (cols : List Int), i + n = set.length → Pl a.length cols →
    FSpec Try.prog 53 [.c (.int .i64 (i)), .t (.ints .i64 cols), .rp [.t (.ints .i64 set)] 0, .rp [.t (.rows a)] 0, .knot 53 [.rp [.t (.ints .i64 set)] 0, .rp [.t (.rows a)] 0] 2] (ex (.c (.int .i64 (detL a (set.drop i) cols))) []) := by
  have hs1 := hs.1
  have ha1 := ha.1
  intro n
  induction n with
  | zero =>
    intro i cols hi _
    obtain rfl : i = set.length := by omega
    refine fspec tyOk mx Try.func53 rfl (by kernel_rfl) rfl ?_
    conv => whnf
    refine ⟨fun h => ?_, fun h => ?_⟩
    · conv => whnf
      refine ⟨?_, rfl⟩
      rw [List.drop_length]; rfl
    · simp at h
  | succ n ih =>
    intro i cols hi hc
    have hi2 : i < set.length := by omega
    have hc1 := hc.1
    have hr0 := hs.2 _ (getD_mem (d := 0) hi2)
    have hrl := ha.2 _ (getD_mem (d := []) (k := (set.getD i 0).toNat) (show (set.getD i 0).toNat < a.length by omega))
    have edrop : set.drop i = set.getD i 0 :: set.drop (i + 1) := by rw [List.drop_eq_getElem_cons hi2, getD_lt hi2]
    refine fspec tyOk mx Try.func53 rfl (by kernel_rfl) rfl ?_
    conv => whnf
    refine ⟨fun h => ?_, fun h => ?_⟩
    · have h : (i : Int) = (set.length : Int) := by simpa using h
      omega
    · conv => whnf
      refine aloopI tyOk mx (fun j : Nat => (⟨68, [(0, .c (.int .i64 (i))), (1, .t (.ints .i64 cols)), (2, .rp [.t (.ints .i64 set)] 0), (3, .rp [.t (.rows a)] 0), (4, .knot 53 [.rp [.t (.ints .i64 set)] 0, .rp [.t (.rows a)] 0] 2), (8, .c (.int .i64 (detF (fun j => entry a (set.getD i 0) (cols.getD j 0)) (fun j => detL a (set.drop (i + 1)) (cols.take j ++ cols.drop (j + 1))) j))), (9, .c (.int .i64 (sgn j))), (17, .t (.ints .i64 cols)), (18, .c (.int .i64 (cols.length))), (19, .c (.int .i64 (j)))], [], 0⟩ : St)) (fun j => j ≤ cols.length) (fun j => cols.length - j) 0 (Nat.zero_le _) none (by refine ⟨rfl, rfl, ?_, ?_⟩ <;> ((repeat' (first | exact trivial | exact rfl | refine And.intro ?_ ?_)) <;> (try ((conv => whnf); first | refine vint ?_ | refine vboo ?_ | refine rint ?_ | refine rrow ?_ | skip)) <;> (try first | omega | (simp; done) | ((repeat rw [flts_closed _ (by assumption)]); exact vws_closed _ (by assumption))))) (fun j hj => ?_)
      refine ⟨fun h2 => ?_, fun h2 => ?_⟩
      · have h2 : j < cols.length := by have := ltT h2; omega
        have hci := hc.2 _ (getD_mem (d := 0) h2)
        conv => whnf
        refine ⟨j, rfl, h2, ?_⟩
        conv => whnf
        refine ADraw.std tyOk mx ⟨by kernel_rfl, i, rfl, hi2, (set.getD i 0).toNat, by omega, by omega, (cols.getD j 0).toNat, by omega, by omega, ?_⟩
        conv => whnf
        refine ⟨fun h3 => ?_, fun h3 => ?_⟩
        · have h3 : entry a (set.getD i 0) (cols.getD j 0) ≠ 0 := by simpa [entry] using h3
          conv => whnf
          refine ADraw.plan tyOk mx (.q 0 (.q 1 (.q 2 (.q 4 (.q 5 (.q 6 (.q 7 (.last 3 (.last 8 (.q 9 (.done)))))))))) : Plan) (by kernel_rfl) ?_
          conv => whnf
          have hlt : (cols.take j).length = j := by rw [List.length_take]; omega
          have hld : (cols.drop (j + 1)).length = cols.length - (j + 1) := List.length_drop
          repeat' (first | (refine ⟨j, rfl, by omega, ?_⟩; conv => whnf) | (refine ⟨j + 1, nat_wrap (by omega), by omega, ?_⟩; conv => whnf) | (refine ACall.useR (clone_spec _ (by omega)) ?_; conv => whnf) | (refine ⟨by simp only [room]; omega, ?_⟩; conv => whnf) | (refine And.intro ?_ ?_ <;> (conv => whnf)))
          all_goals
            refine ADraw.std tyOk mx ⟨by kernel_rfl, i, rfl, hi2, (set.getD i 0).toNat, by omega, by omega, (cols.getD j 0).toNat, by omega, by omega, ?_⟩
            conv => whnf
            rw [nat_wrap (by omega)]
            refine QCall.use (ih (i + 1) _ (by omega) (hc.cut j)) ?_
            conv => whnf
            rw [nat_wrap (by omega)]
            refine ⟨j + 1, none, ?_, by omega, by omega⟩
            (refine ⟨rfl, rfl, ?_, ?_⟩ <;> ((repeat' (first | exact trivial | exact rfl | refine And.intro ?_ ?_)) <;> (try ((conv => whnf); first | refine vint ?_ | refine vboo ?_ | refine rint ?_ | refine rrow ?_ | skip)) <;> (try first | omega | (simp; done) | ((repeat rw [flts_closed _ (by assumption)]); exact vws_closed _ (by assumption)))))
            rw [detF, if_neg h3]; rfl
        · have h3 : entry a (set.getD i 0) (cols.getD j 0) = 0 := by simpa [entry] using h3
          conv => whnf
          rw [nat_wrap (by omega)]
          refine ⟨j + 1, none, ?_, by omega, by omega⟩
          (refine ⟨rfl, rfl, ?_, ?_⟩ <;> ((repeat' (first | exact trivial | exact rfl | refine And.intro ?_ ?_)) <;> (try ((conv => whnf); first | refine vint ?_ | refine vboo ?_ | refine rint ?_ | refine rrow ?_ | skip)) <;> (try first | omega | (simp; done) | ((repeat rw [flts_closed _ (by assumption)]); exact vws_closed _ (by assumption)))))
          rw [detF, if_pos h3]
      · have h2 : ¬ j < cols.length := by have := ltF h2; omega
        obtain rfl : j = cols.length := by omega
        conv => whnf
        refine ⟨?_, rfl⟩
        rw [edrop]; rfl

theorem determinant_spec (a : List (List Int)) (set : List Int) (ha : Sq a) (hs : Pl a.length set) :
    FSpec Try.prog 48 [.t (.rows a), .t (.ints .i64 set)] (ex (.c (.int .i64 (detL a set set))) []) := by
  refine fspec tyOk mx Try.func48 rfl (by kernel_rfl) rfl ?_
  conv => whnf
  refine ⟨fun h => ?_, fun h => ?_⟩
  · have h : set = [] := by
      have h : (set.length : Int) = 0 := by simpa using h
      exact List.eq_nil_of_length_eq_zero (by omega)
    conv => whnf
    subst h
    exact ⟨rfl, rfl⟩
  · conv => whnf
    refine ACall.use (expand_spec a set ha hs set.length 0 set (by omega) hs) ?_
    conv => whnf
    exact ⟨rfl, rfl⟩
end Go.Proofs.Ytkjdplglenjijaa
/- Matrices that are never negative: reference and program. -/
namespace Go.Aw
def bitB (c i : Nat) : Bool := bits .and .i64 (shr .i64 (c : Int) (i : Int)) 1 == 1
def setN (n c : Nat) : List Int := ((List.range n).filter (bitB c)).map (fun i : Nat => (i : Int))
theorem setN_yes {c k : Nat} (h : bitB c k = true) : setN k c ++ [(k : Int)] = setN (k + 1) c := by simp [setN, List.range_succ, h]
theorem setN_no {c k : Nat} (h : bitB c k = false) : setN k c = setN (k + 1) c := by simp [setN, List.range_succ, h]
theorem setN_len (n c : Nat) : (setN n c).length ≤ n := by
  have := List.length_filter_le (bitB c) (List.range n)
  simpa [setN] using this
theorem setN_pl {n k c : Nat} (hk : k ≤ n) (hn : n ≤ 1000) : Pl n (setN k c) := by
  refine ⟨by have := setN_len k c; omega, fun x hx => ?_⟩
  simp only [setN, List.mem_map, List.mem_filter, List.mem_range] at hx
  obtain ⟨i, ⟨h1, _⟩, rfl⟩ := hx
  omega
theorem setN_zero {n : Nat} (h : n ≤ 6) : setN n 0 = [] := by
  have : n = 0 ∨ n = 1 ∨ n = 2 ∨ n = 3 ∨ n = 4 ∨ n = 5 ∨ n = 6 := by omega
  rcases this with rfl | rfl | rfl | rfl | rfl | rfl | rfl <;> decide +kernel
def codeOk (a : List (List Int)) (c : Nat) : Bool := decide (¬ detL a (setN a.length c) (setN a.length c) < 0)
def neverA (a : List (List Int)) : Bool := (List.range (2 ^ a.length)).all (codeOk a)
theorem codeOk_zero {a : List (List Int)} (h : a.length ≤ 6) : codeOk a 0 = true := by
  rw [codeOk, setN_zero h]; rfl
def ent (a : List (List Int)) (i k : Nat) : Int := (a.getD i []).getD k 0
def symm1 (a : List (List Int)) (i : Nat) : Nat → Bool := fun k => decide (ent a i k = ent a k i)
def symm (a : List (List Int)) : Bool := (List.range a.length).all fun i => (List.range i).all (symm1 a i)
def symm2 (a : List (List Int)) : Bool := (List.range a.length).all fun i => (List.range a.length).all (symm1 a i)
theorem symm_eq (a : List (List Int)) : symm2 a = symm a := by
  rw [Bool.eq_iff_iff]
  simp only [symm, symm2, symm1, List.all_eq_true, List.mem_range, decide_eq_true_eq]
  refine ⟨fun h i hi k hk => h i hi k (by omega), fun h i hi k hk => ?_⟩
  rcases Nat.lt_trichotomy k i with h1 | h1 | h1
  · exact h i hi k h1
  · rw [h1]
  · exact (h k hk i h1).symm
end Go.Aw
namespace Go.Proofs.Ytkjdplglenjijaa
open Go.Aw
set_option maxRecDepth 100000
set_option maxHeartbeats 4000000

theorem l5Never_spec (a : List (List Int)) (ha : Sq a) (hn : a.length ≤ 6) : FSpec Try.prog 41 [.t (.rows a)] (ex (.c (.bool (neverA a))) []) := by
  have h64 : 2 ^ a.length ≤ 64 := by
    have := Nat.pow_le_pow_right (n := 2) (by omega) hn
    simpa using this
  have hpos : 1 ≤ 2 ^ a.length := Nat.one_le_two_pow
  refine fspec tyOk mx Try.func41 rfl (by kernel_rfl) rfl ?_
  conv => whnf
  refine aloopI tyOk mx (fun c : Nat => (⟨34, [(0, .t (.rows a)), (3, .c (.int .i64 (c)))], [], 0⟩ : St)) (fun c => 1 ≤ c ∧ c ≤ 2 ^ a.length ∧ (List.range c).all (codeOk a) = true) (fun c => 2 ^ a.length - c) 1 ⟨Nat.le_refl _, hpos, by simp [codeOk_zero hn]⟩ none (by refine ⟨rfl, rfl, ?_, ?_⟩ <;> ((repeat' (first | exact trivial | exact rfl | refine And.intro ?_ ?_)) <;> (try ((conv => whnf); first | refine vint ?_ | refine vboo ?_ | refine rint ?_ | refine rrow ?_ | skip)) <;> (try first | omega | (simp; done) | ((repeat rw [flts_closed _ (by assumption)]); exact vws_closed _ (by assumption))))) (fun c hc => ?_)
  obtain ⟨hc0, hc, hp⟩ := hc
  refine ⟨by omega, fun h => ?_, fun h => ?_⟩
  · rw [shl_one (by omega)] at h
    have hc1 : c < 2 ^ a.length := Int.ofNat_lt.1 (of_decide_eq_true h)
    conv => whnf
    refine aloopI tyOk mx (fun i : Nat => (⟨34, [(0, .t (.rows a)), (3, .c (.int .i64 (c))), (4, .own 0), (5, .c (.int .i64 (i)))], [(0, .ints 3 .i64 (setN i c))], 1⟩ : St)) (fun i => i ≤ a.length) (fun i => a.length - i) 0 (Nat.zero_le _) none (by refine ⟨rfl, rfl, ?_, ?_⟩ <;> ((repeat' (first | exact trivial | exact rfl | refine And.intro ?_ ?_)) <;> (try ((conv => whnf); first | refine vint ?_ | refine vboo ?_ | refine rint ?_ | refine rrow ?_ | skip)) <;> (try first | omega | (simp; done) | ((repeat rw [flts_closed _ (by assumption)]); exact vws_closed _ (by assumption))))) (fun i hi => ?_)
    have hsl := setN_len i c
    refine ⟨fun h2 => ?_, fun h2 => ?_⟩
    · have h2 : i < a.length := by have := ltT h2; omega
      conv => whnf
      refine ⟨by omega, ?_⟩
      conv => whnf
      refine ⟨fun h3 => ?_, fun h3 => ?_⟩
      · have h3 : bitB c i = true := h3
        conv => whnf
        refine ⟨by simp [room]; omega, ?_⟩
        conv => whnf
        rw [nat_wrap (by omega)]
        refine ⟨i + 1, none, ?_, by omega, by omega⟩
        (refine ⟨rfl, rfl, ?_, ?_⟩ <;> ((repeat' (first | exact trivial | exact rfl | refine And.intro ?_ ?_)) <;> (try ((conv => whnf); first | refine vint ?_ | refine vboo ?_ | refine rint ?_ | refine rrow ?_ | skip)) <;> (try first | omega | (simp; done) | ((repeat rw [flts_closed _ (by assumption)]); exact vws_closed _ (by assumption)))))
        exact setN_yes h3
      · have h3 : bitB c i = false := h3
        conv => whnf
        rw [nat_wrap (by omega)]
        refine ⟨i + 1, none, ?_, by omega, by omega⟩
        (refine ⟨rfl, rfl, ?_, ?_⟩ <;> ((repeat' (first | exact trivial | exact rfl | refine And.intro ?_ ?_)) <;> (try ((conv => whnf); first | refine vint ?_ | refine vboo ?_ | refine rint ?_ | refine rrow ?_ | skip)) <;> (try first | omega | (simp; done) | ((repeat rw [flts_closed _ (by assumption)]); exact vws_closed _ (by assumption)))))
        exact setN_no h3
    · have h2 : ¬ i < a.length := by have := ltF h2; omega
      obtain rfl : i = a.length := by omega
      have hpl := setN_pl (n := a.length) (c := c) (Nat.le_refl _) (by omega)
      conv => whnf
      refine ACall.use (l5Minor_spec a ha _ _ hpl hpl) ?_
      conv => whnf
      refine ⟨fun h3 => ?_, fun h3 => ?_⟩
      · have h3 := of_decide_eq_true h3
        conv => whnf
        refine ⟨?_, rfl⟩
        rw [neverA, rall_false hc1 (by rw [codeOk]; exact decide_eq_false (fun h => h h3))]
      · have h3 := of_decide_eq_false h3
        conv => whnf
        rw [nat_wrap (by omega)]
        refine ⟨c + 1, none, ?_, ⟨by omega, by omega, rall_succ hp (by rw [codeOk]; exact decide_eq_true h3)⟩, by omega⟩
        (refine ⟨rfl, rfl, ?_, ?_⟩ <;> ((repeat' (first | exact trivial | exact rfl | refine And.intro ?_ ?_)) <;> (try ((conv => whnf); first | refine vint ?_ | refine vboo ?_ | refine rint ?_ | refine rrow ?_ | skip)) <;> (try first | omega | (simp; done) | ((repeat rw [flts_closed _ (by assumption)]); exact vws_closed _ (by assumption)))))
  · rw [shl_one (by omega)] at h
    have hc1 : ¬ c < 2 ^ a.length := fun hh => of_decide_eq_false h (Int.ofNat_lt.2 hh)
    obtain rfl : c = 2 ^ a.length := by omega
    conv => whnf
    refine ⟨?_, rfl⟩
    rw [neverA, hp]

theorem neverNegative_spec (a : List (List Int)) (ha : Sq a) (hn : a.length ≤ 6) : FSpec Try.prog 39 [.t (.rows a)] (ex (.c (.bool (neverA a))) []) := by
  have h64 : 2 ^ a.length ≤ 64 := by
    have := Nat.pow_le_pow_right (n := 2) (by omega) hn
    simpa using this
  refine fspec tyOk mx Try.func39 rfl (by kernel_rfl) rfl ?_
  conv => whnf
  refine ⟨by omega, ?_⟩
  rw [shl_one (by omega)]
  conv => whnf
  refine aloopI tyOk mx (fun c : Nat => (⟨33, [(0, .t (.rows a)), (8, .c (.int .i64 ((2 ^ a.length : Nat)))), (9, .c (.int .i64 (c)))], [], 0⟩ : St)) (fun c => c ≤ 2 ^ a.length ∧ (List.range c).all (codeOk a) = true) (fun c => 2 ^ a.length - c) 0 ⟨Nat.zero_le _, rfl⟩ none (by refine ⟨rfl, rfl, ?_, ?_⟩ <;> ((repeat' (first | exact trivial | exact rfl | refine And.intro ?_ ?_)) <;> (try ((conv => whnf); first | refine vint ?_ | refine vboo ?_ | refine rint ?_ | refine rrow ?_ | skip)) <;> (try first | omega | (simp; done) | ((repeat rw [flts_closed _ (by assumption)]); exact vws_closed _ (by assumption))))) (fun c hc => ?_)
  obtain ⟨hc, hp⟩ := hc
  refine ⟨fun h => ?_, fun h => ?_⟩
  · have hc1 : c < 2 ^ a.length := Int.ofNat_lt.1 (of_decide_eq_true h)
    conv => whnf
    refine aloopI tyOk mx (fun i : Nat => (⟨33, [(0, .t (.rows a)), (3, .c (.int .i64 (c))), (4, .own 0), (8, .c (.int .i64 ((2 ^ a.length : Nat)))), (9, .c (.int .i64 (c))), (14, .c (.int .i64 (a.length))), (15, .c (.int .i64 (i)))], [(0, .ints 3 .i64 (setN i c))], 1⟩ : St)) (fun i => i ≤ a.length) (fun i => a.length - i) 0 (Nat.zero_le _) none (by refine ⟨rfl, rfl, ?_, ?_⟩ <;> ((repeat' (first | exact trivial | exact rfl | refine And.intro ?_ ?_)) <;> (try ((conv => whnf); first | refine vint ?_ | refine vboo ?_ | refine rint ?_ | refine rrow ?_ | skip)) <;> (try first | omega | (simp; done) | ((repeat rw [flts_closed _ (by assumption)]); exact vws_closed _ (by assumption))))) (fun i hi => ?_)
    have hsl := setN_len i c
    refine ⟨fun h2 => ?_, fun h2 => ?_⟩
    · have h2 : i < a.length := by have := ltT h2; omega
      conv => whnf
      refine ⟨by omega, ?_⟩
      conv => whnf
      refine ⟨fun h3 => ?_, fun h3 => ?_⟩
      · have h3 : bitB c i = true := h3
        conv => whnf
        refine ⟨by simp [room]; omega, ?_⟩
        conv => whnf
        rw [nat_wrap (by omega)]
        refine ⟨i + 1, none, ?_, by omega, by omega⟩
        (refine ⟨rfl, rfl, ?_, ?_⟩ <;> ((repeat' (first | exact trivial | exact rfl | refine And.intro ?_ ?_)) <;> (try ((conv => whnf); first | refine vint ?_ | refine vboo ?_ | refine rint ?_ | refine rrow ?_ | skip)) <;> (try first | omega | (simp; done) | ((repeat rw [flts_closed _ (by assumption)]); exact vws_closed _ (by assumption)))))
        exact setN_yes h3
      · have h3 : bitB c i = false := h3
        conv => whnf
        rw [nat_wrap (by omega)]
        refine ⟨i + 1, none, ?_, by omega, by omega⟩
        (refine ⟨rfl, rfl, ?_, ?_⟩ <;> ((repeat' (first | exact trivial | exact rfl | refine And.intro ?_ ?_)) <;> (try ((conv => whnf); first | refine vint ?_ | refine vboo ?_ | refine rint ?_ | refine rrow ?_ | skip)) <;> (try first | omega | (simp; done) | ((repeat rw [flts_closed _ (by assumption)]); exact vws_closed _ (by assumption)))))
        exact setN_no h3
    · have h2 : ¬ i < a.length := by have := ltF h2; omega
      obtain rfl : i = a.length := by omega
      have hpl := setN_pl (n := a.length) (c := c) (Nat.le_refl _) (by omega)
      conv => whnf
      refine ACall.use (determinant_spec a _ ha hpl) ?_
      conv => whnf
      refine ⟨fun h3 => ?_, fun h3 => ?_⟩
      · have h3 := of_decide_eq_true h3
        conv => whnf
        refine ⟨?_, rfl⟩
        rw [neverA, rall_false hc1 (by rw [codeOk]; exact decide_eq_false (fun h => h h3))]
      · have h3 := of_decide_eq_false h3
        conv => whnf
        rw [nat_wrap (by omega)]
        refine ⟨c + 1, none, ?_, ⟨by omega, rall_succ hp (by rw [codeOk]; exact decide_eq_true h3)⟩, by omega⟩
        (refine ⟨rfl, rfl, ?_, ?_⟩ <;> ((repeat' (first | exact trivial | exact rfl | refine And.intro ?_ ?_)) <;> (try ((conv => whnf); first | refine vint ?_ | refine vboo ?_ | refine rint ?_ | refine rrow ?_ | skip)) <;> (try first | omega | (simp; done) | ((repeat rw [flts_closed _ (by assumption)]); exact vws_closed _ (by assumption)))))
  · have hc1 : ¬ c < 2 ^ a.length := fun hh => of_decide_eq_false h (Int.ofNat_lt.2 hh)
    obtain rfl : c = 2 ^ a.length := by omega
    conv => whnf
    refine ⟨?_, rfl⟩
    rw [neverA, hp]
end Go.Proofs.Ytkjdplglenjijaa
/- Spreads: the lengths of lists; the reference. -/
namespace Go.Aw
def dotF (a b : List Int) : Nat → Int
  | 0 => 0
  | i + 1 => W (dotF a b i + W (a.getD i 0 * b.getD i 0))
def dot (a b : List Int) : Int := dotF a b a.length
end Go.Aw
namespace Go.Proofs.Ytkjdplglenjijaa
open Go.Aw
set_option maxRecDepth 100000
set_option maxHeartbeats 4000000

def sprRow (r0 r : List Int) : Bool := rowIn r (-9) 9 && decide (r.length = r0.length) && decide (dot r r = dot r0 r0)
def sprOk (m rows places : List (List Int)) : Bool :=
  decide (rows.length = m.length) && decide (places.length = (m.getD 0 []).length) && inR (rows.getD 0 []).length 1 4 && (rows ++ places).all (sprRow (rows.getD 0 []))
def sprLen (m rows places : List (List Int)) : Int := if sprOk m rows places then dot (rows.getD 0 []) (rows.getD 0 []) else 0

theorem l5Dot_spec (a b : List Int) (h : a.length ≤ b.length) (hl : a.length ≤ 9223372036854775806) : FSpec Try.prog 37 [.t (.ints .i64 a), .t (.ints .i64 b)] (ex (.c (.int .i64 (dot a b))) []) := by
  refine fspec tyOk mx Try.func37 rfl (by kernel_rfl) rfl ?_
  conv => whnf
  refine aloopI tyOk mx (fun i : Nat => (⟨25, [(0, .t (.ints .i64 a)), (1, .t (.ints .i64 b)), (5, .c (.int .i64 (dotF a b i))), (6, .c (.int .i64 (i)))], [], 0⟩ : St)) (fun i => i ≤ a.length) (fun i => a.length - i) 0 (Nat.zero_le _) none (by refine ⟨rfl, rfl, ?_, ?_⟩ <;> ((repeat' (first | exact trivial | exact rfl | refine And.intro ?_ ?_)) <;> (try ((conv => whnf); first | refine vint ?_ | refine vboo ?_ | refine rint ?_ | refine rrow ?_ | skip)) <;> (try first | omega | (simp; done) | ((repeat rw [flts_closed _ (by assumption)]); exact vws_closed _ (by assumption))))) (fun i hi => ?_)
  refine ⟨fun h1 => ?_, fun h1 => ?_⟩
  · have h1 : i < a.length := by have := ltT h1; omega
    conv => whnf
    refine ADraw.std tyOk mx ⟨by kernel_rfl, i, rfl, h1, i, rfl, by omega, ?_⟩
    conv => whnf
    rw [nat_wrap (by omega)]
    exact ⟨i + 1, none, (by refine ⟨rfl, rfl, ?_, ?_⟩ <;> ((repeat' (first | exact trivial | exact rfl | refine And.intro ?_ ?_)) <;> (try ((conv => whnf); first | refine vint ?_ | refine vboo ?_ | refine rint ?_ | refine rrow ?_ | skip)) <;> (try first | omega | (simp; done) | ((repeat rw [flts_closed _ (by assumption)]); exact vws_closed _ (by assumption))))), by omega, by omega⟩
  · have h1 : ¬ i < a.length := by have := ltF h1; omega
    obtain rfl : i = a.length := by omega
    conv => whnf
    exact ⟨rfl, rfl⟩

theorem product_spec (a b : List Int) (h : a.length ≤ b.length) (hl : a.length ≤ 9223372036854775806) : FSpec Try.prog 35 [.t (.ints .i64 a), .t (.ints .i64 b)] (ex (.c (.int .i64 (dot a b))) []) := by
  refine fspec tyOk mx Try.func35 rfl (by kernel_rfl) rfl ?_
  conv => whnf
  refine aloopI tyOk mx (fun i : Nat => (⟨25, [(1, .t (.ints .i64 b)), (5, .c (.int .i64 (dotF a b i))), (8, .t (.ints .i64 a)), (9, .c (.int .i64 (a.length))), (10, .c (.int .i64 (i)))], [], 0⟩ : St)) (fun i => i ≤ a.length) (fun i => a.length - i) 0 (Nat.zero_le _) none (by refine ⟨rfl, rfl, ?_, ?_⟩ <;> ((repeat' (first | exact trivial | exact rfl | refine And.intro ?_ ?_)) <;> (try ((conv => whnf); first | refine vint ?_ | refine vboo ?_ | refine rint ?_ | refine rrow ?_ | skip)) <;> (try first | omega | (simp; done) | ((repeat rw [flts_closed _ (by assumption)]); exact vws_closed _ (by assumption))))) (fun i hi => ?_)
  refine ⟨fun h1 => ?_, fun h1 => ?_⟩
  · have h1 : i < a.length := by have := ltT h1; omega
    conv => whnf
    refine ⟨i, rfl, h1, i, rfl, by omega, ?_⟩
    conv => whnf
    rw [nat_wrap (by omega)]
    exact ⟨i + 1, none, (by refine ⟨rfl, rfl, ?_, ?_⟩ <;> ((repeat' (first | exact trivial | exact rfl | refine And.intro ?_ ?_)) <;> (try ((conv => whnf); first | refine vint ?_ | refine vboo ?_ | refine rint ?_ | refine rrow ?_ | skip)) <;> (try first | omega | (simp; done) | ((repeat rw [flts_closed _ (by assumption)]); exact vws_closed _ (by assumption))))), by omega, by omega⟩
  · have h1 : ¬ i < a.length := by have := ltF h1; omega
    obtain rfl : i = a.length := by omega
    conv => whnf
    exact ⟨rfl, rfl⟩
end Go.Proofs.Ytkjdplglenjijaa
/- Spreads: the length of a spread; the reference. -/
namespace Go.Aw
theorem neF {a b : Nat} (h : ((a : Int) != (b : Int)) = false) : a = b := by
  have : (a : Int) = b := by simpa using h
  omega
theorem neT {a b : Nat} (h : ((a : Int) != (b : Int)) = true) : ¬ a = b := fun e => by subst e; simp at h
end Go.Aw
namespace Go.Proofs.Ytkjdplglenjijaa
open Go.Aw
set_option maxRecDepth 100000
set_option maxHeartbeats 4000000

theorem l5Length_spec (m rows places : List (List Int)) (hg : goodM m = true) (kr : SzM rows) (kp : SzM places) :
    FSpec Try.prog 36 [.t (.rows m), .t (.rows rows), .t (.rows places)] (ex (.c (.int .i64 (sprLen m rows places))) []) := by
  obtain ⟨g1, g2, g3, g4, g5⟩ := goodM_spec hg
  obtain ⟨r1, r2, r3⟩ := kr.all
  obtain ⟨p1, p2, p3⟩ := kp.all
  have bad : sprOk m rows places = false → sprLen m rows places = 0 := fun h => by rw [sprLen, h]; rfl
  refine fspec tyOk mx Try.func36 rfl (by kernel_rfl) rfl ?_
  conv => whnf
  refine ⟨fun h1 => ?_, fun h1 => ?_⟩
  · have h1 : rows.length = m.length := neF h1
    conv => whnf
    refine ⟨0, rfl, by omega, ?_⟩
    conv => whnf
    refine ⟨fun h2 => ?_, fun h2 => ?_⟩
    · have h2 : places.length = (m.getD 0 []).length := neF h2
      conv => whnf
      refine ⟨0, rfl, by omega, ?_⟩
      conv => whnf
      refine ACall.use (l1In_spec _ _ _) ?_
      conv => whnf
      refine ⟨fun h3 => ?_, fun h3 => ?_⟩
      · have h3 : inR (rows.getD 0 []).length 1 4 = false := by simpa using h3
        conv => whnf
        refine ⟨?_, rfl⟩
        rw [bad (by rw [sprOk, h3, Bool.and_false, Bool.false_and])]
      · have h3 : inR (rows.getD 0 []).length 1 4 = true := by simpa using h3
        have hall : ∀ r, r ∈ rows ++ places → r.length ≤ 1048576 := fun r hr => (List.mem_append.1 hr).elim (r2 r) (p2 r)
        have hlen : (rows ++ places).length = rows.length + places.length := List.length_append
        have hok : ∀ i : Nat, ((rows ++ places).take i).all (sprRow (rows.getD 0 [])) = true → ¬ i < (rows ++ places).length → sprLen m rows places = dot (rows.getD 0 []) (rows.getD 0 []) := fun i h4 h5 => by
          rw [sprLen, sprOk, h3, all_end h5 h4, decide_eq_true h1, decide_eq_true h2]; rfl
        conv => whnf
        refine ⟨by simp [room]; omega, ?_⟩
        conv => whnf
        refine ⟨by simp [room]; omega, ?_⟩
        conv => whnf
        refine aloopI tyOk mx (fun i : Nat => (⟨78, [(1, .t (.rows rows)), (7, .own 0), (8, .c (.int .i64 (i)))], [(0, .rows 25 3 false (rows ++ places))], 1⟩ : St)) (fun i => i ≤ (rows ++ places).length ∧ ((rows ++ places).take i).all (sprRow (rows.getD 0 [])) = true) (fun i => (rows ++ places).length - i) 0 ⟨Nat.zero_le _, rfl⟩ none (by refine ⟨rfl, rfl, ?_, ?_⟩ <;> ((repeat' (first | exact trivial | exact rfl | refine And.intro ?_ ?_)) <;> (try ((conv => whnf); first | refine vint ?_ | refine vboo ?_ | refine rint ?_ | refine rrow ?_ | skip)) <;> (try first | omega | (simp; done) | ((repeat rw [flts_closed _ (by assumption)]); exact vws_closed _ (by assumption))))) (fun i hi => ?_)
        obtain ⟨hi, hp⟩ := hi
        refine ⟨fun h4 => ?_, fun h4 => ?_⟩
        · have h4 : i < (rows ++ places).length := by have := ltT h4; omega
          have hri := hall _ (getD_mem (d := []) h4)
          have hr0 := r2 _ (getD_mem (d := []) (show 0 < rows.length by omega))
          have badi : sprRow (rows.getD 0 []) ((rows ++ places).getD i []) = false → sprLen m rows places = 0 := fun h5 => bad (by
            rw [sprOk, all_false (d := []) h4 h5, Bool.and_false])
          refine ADraw.std tyOk mx ⟨by kernel_rfl, i, rfl, h4, ?_⟩
          conv => whnf
          refine ⟨0, rfl, by omega, ?_⟩
          conv => whnf
          refine QCall.use (l5Row_spec _ _ 9 (by omega) (by omega) (by omega)) ?_
          conv => whnf
          refine ⟨fun h5 => ?_, fun h5 => ?_⟩
          · conv => whnf
            refine ⟨i, rfl, h4, i, rfl, h4, ?_⟩
            conv => whnf
            refine QCall.use (l5Dot_spec _ _ (Nat.le_refl _) (by omega)) ?_
            conv => whnf
            refine ⟨0, rfl, by omega, 0, rfl, by omega, ?_⟩
            conv => whnf
            refine QCall.use (l5Dot_spec _ _ (Nat.le_refl _) (by omega)) ?_
            conv => whnf
            refine ⟨fun h6 => ?_, fun h6 => ?_⟩
            · conv => whnf
              refine ⟨?_, rfl⟩
              rw [badi (by rw [sprRow, decide_eq_false (p := dot _ _ = dot _ _) (by simpa using h6), Bool.and_false])]
            · conv => whnf
              rw [nat_wrap (by omega)]
              refine ⟨i + 1, none, ?_, ⟨by omega, all_take_succ (d := []) h4 hp ?_⟩, by omega⟩
              · (refine ⟨rfl, rfl, ?_, ?_⟩ <;> ((repeat' (first | exact trivial | exact rfl | refine And.intro ?_ ?_)) <;> (try ((conv => whnf); first | refine vint ?_ | refine vboo ?_ | refine rint ?_ | refine rrow ?_ | skip)) <;> (try first | omega | (simp; done) | ((repeat rw [flts_closed _ (by assumption)]); exact vws_closed _ (by assumption)))))
              · simp only [sprRow]
                simp at h5 h6 ⊢
                exact ⟨⟨h5.1, by omega⟩, h6⟩
          · conv => whnf
            first | refine ⟨fun h => absurd h (by decide), fun _ => ?_⟩ | refine ⟨fun _ => ?_, fun h => absurd h (by decide)⟩
            conv => whnf
            refine ⟨?_, rfl⟩
            rw [badi (by
              have h5 : (rowIn ((rows ++ places).getD i []) (-9) 9 && decide ((((rows ++ places).getD i []).length : Int) = ((rows.getD 0 []).length : Int))) = false := by simpa only [Bool.not_eq_true'] using h5
              simp only [Int.natCast_inj] at h5
              rw [sprRow, h5, Bool.false_and])]
        · have h4 : ¬ i < (rows ++ places).length := by have := ltF h4; omega
          have e := hok i hp h4
          have hr0 := r2 _ (getD_mem (d := []) (show 0 < rows.length by omega))
          conv => whnf
          refine ADraw.std tyOk mx ⟨by kernel_rfl, 0, rfl, by omega, 0, rfl, by omega, ?_⟩
          conv => whnf
          refine QCall.use (l5Dot_spec _ _ (Nat.le_refl _) (by omega)) ?_
          conv => whnf
          exact ⟨by rw [e], rfl⟩
    · have h2 : ¬ places.length = (m.getD 0 []).length := neT h2
      conv => whnf
      first | refine ⟨fun h => absurd h (by decide), fun _ => ?_⟩ | refine ⟨fun _ => ?_, fun h => absurd h (by decide)⟩
      conv => whnf
      refine ⟨?_, rfl⟩
      rw [bad (by rw [sprOk, decide_eq_false h2, Bool.and_false, Bool.false_and, Bool.false_and])]
  · have h1 : ¬ rows.length = m.length := neT h1
    conv => whnf
    (repeat (conv => whnf); (first | refine ⟨fun h => absurd h (by decide), fun _ => ?_⟩ | refine ⟨fun _ => ?_, fun h => absurd h (by decide)⟩)); conv => whnf
    refine ⟨?_, rfl⟩
    rw [bad (by rw [sprOk, decide_eq_false h1, Bool.false_and, Bool.false_and, Bool.false_and])]
end Go.Proofs.Ytkjdplglenjijaa
/- IsNeverNegative, reference and program. -/
namespace Go.Proofs.Ytkjdplglenjijaa
open Go.Aw
set_option maxRecDepth 100000
set_option maxHeartbeats 4000000

def sqRow (a : List (List Int)) (r : List Int) : Bool := rowIn r (-99) 99 && decide (r.length = a.length)
def nnOk (a : List (List Int)) : Bool := inR a.length 1 6 && a.all (sqRow a) && symm a
def nnIs (a : List (List Int)) : Bool := nnOk a && neverA a
theorem inR6 {n : Nat} (h : inR n 1 6 = true) : 1 ≤ n ∧ n ≤ 6 := by
  simp only [inR, decide_eq_true_eq] at h; omega
theorem sq_of {a : List (List Int)} (h : inR a.length 1 6 = true) (h2 : a.all (sqRow a) = true) : Sq a ∧ a.length ≤ 6 := by
  have h1 := inR6 h
  simp only [sqRow, List.all_eq_true, Bool.and_eq_true, decide_eq_true_eq] at h2
  exact ⟨⟨by omega, fun r hr => (h2 r hr).2⟩, by omega⟩

theorem IsNeverNegative_s (a : List (List Int)) (_ha : OkM a) (ka : SzM a) : FSpec Try.prog 18 [.t (.rows a)] (ex (.tu [.c (.bool (nnIs a)), .c (.bool (nnOk a))]) []) := by
  obtain ⟨k1, k2, k3⟩ := ka.all
  have bad : nnOk a = false → nnIs a = false := fun h => by rw [nnIs, h]; rfl
  refine fspec tyOk mx Try.func18 rfl (by kernel_rfl) rfl ?_
  conv => whnf
  refine ACall.use (l1In_spec _ _ _) ?_
  conv => whnf
  refine ⟨fun h => ?_, fun h => ?_⟩
  · have h : inR a.length 1 6 = false := by simpa using h
    have e : nnOk a = false := by rw [nnOk, h]; rfl
    conv => whnf
    exact ⟨by rw [bad e, e], rfl⟩
  · have h0 : inR a.length 1 6 = true := by simpa using h
    clear h
    have hr := inR6 h0
    conv => whnf
    refine aloopI tyOk mx (fun i : Nat => (⟨53, [(0, .t (.rows a)), (4, .c (.int .i64 (i)))], [], 0⟩ : St)) (fun i => i ≤ a.length ∧ (a.take i).all (sqRow a) = true) (fun i => a.length - i) 0 ⟨Nat.zero_le _, rfl⟩ none (by refine ⟨rfl, rfl, ?_, ?_⟩ <;> ((repeat' (first | exact trivial | exact rfl | refine And.intro ?_ ?_)) <;> (try ((conv => whnf); first | refine vint ?_ | refine vboo ?_ | refine rint ?_ | refine rrow ?_ | skip)) <;> (try first | omega | (simp; done) | ((repeat rw [flts_closed _ (by assumption)]); exact vws_closed _ (by assumption))))) (fun i hi => ?_)
    obtain ⟨hi, hp⟩ := hi
    refine ⟨fun h => ?_, fun h => ?_⟩
    · have h : i < a.length := by have := ltT h; omega
      have hri := k2 _ (getD_mem (d := []) h)
      conv => whnf
      refine ⟨i, rfl, h, ?_⟩
      conv => whnf
      refine ACall.use (l5Row_spec (a.getD i []) _ 99 (by omega) (by omega) (by omega)) ?_
      conv => whnf
      refine ⟨fun h2 => ?_, fun h2 => ?_⟩
      · have h2 : sqRow a (a.getD i []) = false := by
          have h2 : (rowIn (a.getD i []) (-99) 99 && decide (((a.getD i []).length : Int) = (a.length : Int))) = false := by simpa only [Bool.not_eq_true'] using h2
          simp only [Int.natCast_inj] at h2
          exact h2
        have e : nnOk a = false := by rw [nnOk, all_false (d := []) h h2, Bool.and_false, Bool.false_and]
        conv => whnf
        exact ⟨by rw [bad e, e], rfl⟩
      · have h2 : sqRow a (a.getD i []) = true := by
          have h2 : (rowIn (a.getD i []) (-99) 99 && decide (((a.getD i []).length : Int) = (a.length : Int))) = true := by simpa only [Bool.not_eq_false'] using h2
          simp only [Int.natCast_inj] at h2
          exact h2
        conv => whnf
        rw [nat_wrap (by omega)]
        exact ⟨i + 1, none, (by refine ⟨rfl, rfl, ?_, ?_⟩ <;> ((repeat' (first | exact trivial | exact rfl | refine And.intro ?_ ?_)) <;> (try ((conv => whnf); first | refine vint ?_ | refine vboo ?_ | refine rint ?_ | refine rrow ?_ | skip)) <;> (try first | omega | (simp; done) | ((repeat rw [flts_closed _ (by assumption)]); exact vws_closed _ (by assumption))))), ⟨by omega, all_take_succ (d := []) h hp h2⟩, by omega⟩
    · have h : ¬ i < a.length := by have := ltF h; omega
      have hall := all_end h hp
      obtain ⟨hsq, hn⟩ := sq_of h0 hall
      have hlen : ∀ i : Nat, i < a.length → (a.getD i []).length = a.length := fun i h => hsq.2 _ (getD_mem (d := []) h)
      conv => whnf
      refine aloopI tyOk mx (fun i : Nat => (⟨53, [(0, .t (.rows a)), (5, .c (.int .i64 (i)))], [], 0⟩ : St)) (fun i => i ≤ a.length ∧ (List.range i).all (fun i => (List.range i).all (symm1 a i)) = true) (fun i => a.length - i) 0 ⟨Nat.zero_le _, rfl⟩ none (by refine ⟨rfl, rfl, ?_, ?_⟩ <;> ((repeat' (first | exact trivial | exact rfl | refine And.intro ?_ ?_)) <;> (try ((conv => whnf); first | refine vint ?_ | refine vboo ?_ | refine rint ?_ | refine rrow ?_ | skip)) <;> (try first | omega | (simp; done) | ((repeat rw [flts_closed _ (by assumption)]); exact vws_closed _ (by assumption))))) (fun i hi => ?_)
      obtain ⟨hi, hp⟩ := hi
      refine ⟨fun h => ?_, fun h => ?_⟩
      · have h : i < a.length := by have := ltT h; omega
        conv => whnf
        refine aloopI tyOk mx (fun k : Nat => (⟨53, [(0, .t (.rows a)), (5, .c (.int .i64 (i))), (6, .c (.int .i64 (k)))], [], 0⟩ : St)) (fun k => k ≤ i ∧ (List.range k).all (symm1 a i) = true) (fun k => i - k) 0 ⟨Nat.zero_le _, rfl⟩ none (by refine ⟨rfl, rfl, ?_, ?_⟩ <;> ((repeat' (first | exact trivial | exact rfl | refine And.intro ?_ ?_)) <;> (try ((conv => whnf); first | refine vint ?_ | refine vboo ?_ | refine rint ?_ | refine rrow ?_ | skip)) <;> (try first | omega | (simp; done) | ((repeat rw [flts_closed _ (by assumption)]); exact vws_closed _ (by assumption))))) (fun k hk => ?_)
        obtain ⟨hk, hq⟩ := hk
        refine ⟨fun h2 => ?_, fun h2 => ?_⟩
        · have h2 : k < i := by have := ltT h2; omega
          have l1 := hlen i h
          have l2 := hlen k (by omega)
          conv => whnf
          refine ADraw.std tyOk mx ⟨by kernel_rfl, i, rfl, h, k, rfl, by omega, k, rfl, by omega, i, rfl, by omega, ?_⟩
          conv => whnf
          refine ⟨fun h3 => ?_, fun h3 => ?_⟩
          · have h3 : symm1 a i k = false := by
              have h3 : ¬ ent a i k = ent a k i := by simpa [ent] using h3
              exact decide_eq_false h3
            have e : nnOk a = false := by rw [nnOk, symm, rall_false h (rall_false h2 h3), Bool.and_false]
            conv => whnf
            exact ⟨by rw [bad e, e], rfl⟩
          · have h3 : symm1 a i k = true := by
              have h3 : ent a i k = ent a k i := by simpa [ent] using h3
              exact decide_eq_true h3
            conv => whnf
            rw [nat_wrap (by omega)]
            exact ⟨k + 1, none, (by refine ⟨rfl, rfl, ?_, ?_⟩ <;> ((repeat' (first | exact trivial | exact rfl | refine And.intro ?_ ?_)) <;> (try ((conv => whnf); first | refine vint ?_ | refine vboo ?_ | refine rint ?_ | refine rrow ?_ | skip)) <;> (try first | omega | (simp; done) | ((repeat rw [flts_closed _ (by assumption)]); exact vws_closed _ (by assumption))))), ⟨by omega, rall_succ hq h3⟩, by omega⟩
        · have h2 : ¬ k < i := by have := ltF h2; omega
          obtain rfl : k = i := by omega
          conv => whnf
          rw [nat_wrap (by omega)]
          exact ⟨k + 1, none, (by refine ⟨rfl, rfl, ?_, ?_⟩ <;> ((repeat' (first | exact trivial | exact rfl | refine And.intro ?_ ?_)) <;> (try ((conv => whnf); first | refine vint ?_ | refine vboo ?_ | refine rint ?_ | refine rrow ?_ | skip)) <;> (try first | omega | (simp; done) | ((repeat rw [flts_closed _ (by assumption)]); exact vws_closed _ (by assumption))))), ⟨by omega, rall_succ hp hq⟩, by omega⟩
      · have h : ¬ i < a.length := by have := ltF h; omega
        obtain rfl : i = a.length := by omega
        have e : nnOk a = true := by rw [nnOk, h0, hall, symm, hp]; rfl
        conv => whnf
        refine ACall.use (l5Never_spec a hsq hn) ?_
        conv => whnf
        exact ⟨by rw [nnIs, e, Bool.true_and], rfl⟩

theorem IsNeverNegative_i (a : List (List Int)) (_ha : OkM a) (ka : SzM a) : FSpec Try.prog 17 [.t (.rows a)] (ex (.tu [.c (.bool (nnIs a)), .c (.bool (nnOk a))]) []) := by
  obtain ⟨k1, k2, k3⟩ := ka.all
  have bad : nnOk a = false → nnIs a = false := fun h => by rw [nnIs, h]; rfl
  refine fspec tyOk mx Try.func17 rfl (by kernel_rfl) rfl ?_
  conv => whnf
  refine ACall.use (within_spec _ _ _) ?_
  conv => whnf
  refine ⟨fun h => ?_, fun h => ?_⟩
  · have h : inR a.length 1 6 = false := by simpa using h
    have e : nnOk a = false := by rw [nnOk, h]; rfl
    conv => whnf
    exact ⟨by rw [bad e, e], rfl⟩
  · have h0 : inR a.length 1 6 = true := by simpa using h
    clear h
    have hr := inR6 h0
    conv => whnf
    refine aloopI tyOk mx (fun i : Nat => (⟨59, [(0, .t (.rows a)), (4, .c (.int .i64 (a.length))), (16, .t (.rows a)), (17, .c (.int .i64 (a.length))), (18, .c (.int .i64 (i)))], [], 0⟩ : St)) (fun i => i ≤ a.length ∧ (a.take i).all (sqRow a) = true) (fun i => a.length - i) 0 ⟨Nat.zero_le _, rfl⟩ none (by refine ⟨rfl, rfl, ?_, ?_⟩ <;> ((repeat' (first | exact trivial | exact rfl | refine And.intro ?_ ?_)) <;> (try ((conv => whnf); first | refine vint ?_ | refine vboo ?_ | refine rint ?_ | refine rrow ?_ | skip)) <;> (try first | omega | (simp; done) | ((repeat rw [flts_closed _ (by assumption)]); exact vws_closed _ (by assumption))))) (fun i hi => ?_)
    obtain ⟨hi, hp⟩ := hi
    refine ⟨fun h => ?_, fun h => ?_⟩
    · have h : i < a.length := by have := ltT h; omega
      have hri := k2 _ (getD_mem (d := []) h)
      conv => whnf
      refine ⟨i, rfl, h, ?_⟩
      conv => whnf
      refine ⟨fun h2 => ?_, fun h2 => ?_⟩
      · have h2 : (a.getD i []).length = a.length := neF h2
        conv => whnf
        refine ACall.use (allWithin_spec (a.getD i []) _ _ (by omega)) ?_
        conv => whnf
        refine ⟨fun h3 => ?_, fun h3 => ?_⟩
        · have h3 : rowIn (a.getD i []) (-99) 99 = false := by simpa using h3
          have e : nnOk a = false := by rw [nnOk, all_false (d := []) h (by rw [sqRow, h3, Bool.false_and]), Bool.and_false, Bool.false_and]
          conv => whnf
          exact ⟨by rw [bad e, e], rfl⟩
        · have h3 : rowIn (a.getD i []) (-99) 99 = true := by simpa using h3
          conv => whnf
          rw [nat_wrap (by omega)]
          exact ⟨i + 1, none, (by refine ⟨rfl, rfl, ?_, ?_⟩ <;> ((repeat' (first | exact trivial | exact rfl | refine And.intro ?_ ?_)) <;> (try ((conv => whnf); first | refine vint ?_ | refine vboo ?_ | refine rint ?_ | refine rrow ?_ | skip)) <;> (try first | omega | (simp; done) | ((repeat rw [flts_closed _ (by assumption)]); exact vws_closed _ (by assumption))))), ⟨by omega, all_take_succ (d := []) h hp (by rw [sqRow, h3, decide_eq_true h2]; rfl)⟩, by omega⟩
      · have h2 : ¬ (a.getD i []).length = a.length := neT h2
        have e : nnOk a = false := by rw [nnOk, all_false (d := []) h (by rw [sqRow, decide_eq_false h2, Bool.and_false]), Bool.and_false, Bool.false_and]
        conv => whnf
        (repeat (conv => whnf); (first | refine ⟨fun h => absurd h (by decide), fun _ => ?_⟩ | refine ⟨fun _ => ?_, fun h => absurd h (by decide)⟩)); conv => whnf
        exact ⟨by rw [bad e, e], rfl⟩
    · have h : ¬ i < a.length := by have := ltF h; omega
      have hall := all_end h hp
      obtain ⟨hsq, hn⟩ := sq_of h0 hall
      have hlen : ∀ i : Nat, i < a.length → (a.getD i []).length = a.length := fun i h => hsq.2 _ (getD_mem (d := []) h)
      conv => whnf
      refine aloopI tyOk mx (fun i : Nat => (⟨59, [(0, .t (.rows a)), (32, .t (.rows a)), (33, .c (.int .i64 (a.length))), (34, .c (.int .i64 (i)))], [], 0⟩ : St)) (fun i => i ≤ a.length ∧ (List.range i).all (fun i => (List.range a.length).all (symm1 a i)) = true) (fun i => a.length - i) 0 ⟨Nat.zero_le _, rfl⟩ none (by refine ⟨rfl, rfl, ?_, ?_⟩ <;> ((repeat' (first | exact trivial | exact rfl | refine And.intro ?_ ?_)) <;> (try ((conv => whnf); first | refine vint ?_ | refine vboo ?_ | refine rint ?_ | refine rrow ?_ | skip)) <;> (try first | omega | (simp; done) | ((repeat rw [flts_closed _ (by assumption)]); exact vws_closed _ (by assumption))))) (fun i hi => ?_)
      obtain ⟨hi, hp⟩ := hi
      refine ⟨fun h => ?_, fun h => ?_⟩
      · have h : i < a.length := by have := ltT h; omega
        have l1 := hlen i h
        conv => whnf
        refine ⟨i, rfl, h, ?_⟩
        conv => whnf
        refine aloopI tyOk mx (fun k : Nat => (⟨59, [(0, .t (.rows a)), (7, .c (.int .i64 (i))), (32, .t (.rows a)), (33, .c (.int .i64 (a.length))), (34, .c (.int .i64 (i))), (39, .t (.ints .i64 (a.getD i []))), (40, .c (.int .i64 ((a.getD i []).length))), (41, .c (.int .i64 (k)))], [], 0⟩ : St)) (fun k => k ≤ a.length ∧ (List.range k).all (symm1 a i) = true) (fun k => a.length - k) 0 ⟨Nat.zero_le _, rfl⟩ none (by refine ⟨rfl, rfl, ?_, ?_⟩ <;> ((repeat' (first | exact trivial | exact rfl | refine And.intro ?_ ?_)) <;> (try ((conv => whnf); first | refine vint ?_ | refine vboo ?_ | refine rint ?_ | refine rrow ?_ | skip)) <;> (try first | omega | (simp; done) | ((repeat rw [flts_closed _ (by assumption)]); exact vws_closed _ (by assumption))))) (fun k hk => ?_)
        obtain ⟨hk, hq⟩ := hk
        refine ⟨fun h2 => ?_, fun h2 => ?_⟩
        · have h2 : k < a.length := by have := ltT h2; omega
          have l2 := hlen k (by omega)
          conv => whnf
          refine ⟨k, rfl, by omega, ?_⟩
          conv => whnf
          refine ⟨k, rfl, by omega, ?_⟩
          conv => whnf
          refine ⟨i, rfl, by omega, ?_⟩
          conv => whnf
          refine ⟨fun h3 => ?_, fun h3 => ?_⟩
          · have h3 : symm1 a i k = false := by
              have h3 : ¬ ent a i k = ent a k i := by simpa [ent] using h3
              exact decide_eq_false h3
            have e : nnOk a = false := by rw [nnOk, ← symm_eq, symm2, rall_false h (rall_false h2 h3), Bool.and_false]
            conv => whnf
            exact ⟨by rw [bad e, e], rfl⟩
          · have h3 : symm1 a i k = true := by
              have h3 : ent a i k = ent a k i := by simpa [ent] using h3
              exact decide_eq_true h3
            conv => whnf
            rw [nat_wrap (by omega)]
            exact ⟨k + 1, none, (by refine ⟨rfl, rfl, ?_, ?_⟩ <;> ((repeat' (first | exact trivial | exact rfl | refine And.intro ?_ ?_)) <;> (try ((conv => whnf); first | refine vint ?_ | refine vboo ?_ | refine rint ?_ | refine rrow ?_ | skip)) <;> (try first | omega | (simp; done) | ((repeat rw [flts_closed _ (by assumption)]); exact vws_closed _ (by assumption))))), ⟨by omega, rall_succ hq h3⟩, by omega⟩
        · have h2 : ¬ k < a.length := by have := ltF h2; omega
          obtain rfl : k = a.length := by omega
          conv => whnf
          rw [nat_wrap (by omega)]
          exact ⟨i + 1, none, (by refine ⟨rfl, rfl, ?_, ?_⟩ <;> ((repeat' (first | exact trivial | exact rfl | refine And.intro ?_ ?_)) <;> (try ((conv => whnf); first | refine vint ?_ | refine vboo ?_ | refine rint ?_ | refine rrow ?_ | skip)) <;> (try first | omega | (simp; done) | ((repeat rw [flts_closed _ (by assumption)]); exact vws_closed _ (by assumption))))), ⟨by omega, rall_succ hp hq⟩, by omega⟩
      · have h : ¬ i < a.length := by have := ltF h; omega
        obtain rfl : i = a.length := by omega
        have e : nnOk a = true := by rw [nnOk, h0, hall, ← symm_eq, symm2, hp]; rfl
        conv => whnf
        refine ACall.use (neverNegative_spec a hsq hn) ?_
        conv => whnf
        exact ⟨by rw [nnIs, e, Bool.true_and], rfl⟩
end Go.Proofs.Ytkjdplglenjijaa
