/- A region that draws its order, by a plan: what only reads is taken as it comes up, calls in every order. -/
import Derived.Test.YtpakfehinfcdoaaAw16
namespace Go.Aw
open Go.RowKit

/-- an order of going on: 'q' takes one that only reads; 'alt' .. 'last' go through all that may be next -/
inductive Plan where
  | done
  | q (i : Nat) (p : Plan)
  | last (i : Nat) (p : Plan)
  | alt (i : Nat) (p rest : Plan)
  | inl (i : Nat) (p : Plan)
  | alti (i : Nat) (p rest : Plan)
  | ql (i : Nat) (p : Plan)

def Plan.ok (fr : Bool) (xs : List Nat) (ops : Array Oper) : Plan → Array Bool → Option (List Nat) → Bool
  | .done, listed, none => (Region.ready .any ops listed).isEmpty
  | .q i p, listed, none => (Region.ready .any ops listed).contains i && Region.free .any ops listed i && calm xs .any ops i && p.ok fr xs ops (listed.setIfInBounds i true) none
  | .last i p, listed, todo => (match todo.getD (Region.ready .any ops listed) with | [j] => j == i | _ => false) && p.ok fr xs ops (listed.setIfInBounds i true) none
  | .alt i p rest, listed, todo => match todo.getD (Region.ready .any ops listed) with
    | j :: t => j == i && p.ok fr xs ops (listed.setIfInBounds i true) none && rest.ok fr xs ops listed (some t)
    | [] => false
  | .inl i p, listed, todo => xs.contains i && (match todo.getD (Region.ready .any ops listed) with | [j] => j == i | _ => false) && p.ok fr xs ops (listed.setIfInBounds i true) none
  | .alti i p rest, listed, todo => match todo.getD (Region.ready .any ops listed) with
    | j :: t => xs.contains i && j == i && p.ok fr xs ops (listed.setIfInBounds i true) none && rest.ok fr xs ops listed (some t)
    | [] => false
  | .ql i p, listed, none => (Region.ready .any ops listed).contains i && Region.free .any ops listed i && calmC 1 fr xs .any ops i && p.ok fr xs ops (listed.setIfInBounds i true) none
  | _, _, _ => false

def Plan.deep : Plan → Nat
  | .done => 0
  | .q _ p => p.deep + 1
  | .last _ p => p.deep + 1
  | .alt _ p rest => max (p.deep + 1) rest.deep
  | .inl _ p => p.deep + 1
  | .alti _ p rest => max (p.deep + 1) rest.deep
  | .ql _ p => p.deep + 1

/-- a call, in such a region -/
def astep (P : Program) (Γ : Tys) (ops : List Oper) (i : Nat) (st : St) (dec : List (Nat × Bool)) (K : St → List (Nat × Bool) → Prop) : Prop :=
  match nth ops i with
  | none => False
  | some o => aguard ops st dec o
      (fun dec => match isPick o with
        | some (c, a, b) => apick st dec c a b fun v => putD st o v fun st' => K st' (decOff o dec)
        | none => match isCall o with
          | some c => acallR P st c fun v st' => putD st' o v fun st'' => K st'' (decOff o dec)
          | none => match isNQ o with
            | true => an Γ st o fun v st' => putD st' o v fun st'' => K st'' (decOff o dec)
            | false => match cutOf st o with
              | some (t, k, lo, hi) => acut Γ st t k lo hi fun v st' => putD st' o v fun st'' => K st'' (decOff o dec)
              | none => aq Γ st o fun v => putD st o v fun st' => K st' (decOff o dec))
      (fun dec => putD st o (.tu []) fun st' => K st' (decOff o dec))

/-- a call that may write rows of its caller, in such a region -/
def astepI (P : Program) (ops : List Oper) (i : Nat) (st : St) (dec : List (Nat × Bool)) (K : St → List (Nat × Bool) → Prop) : Prop :=
  match nth ops i with
  | none => False
  | some o => match o.guard with
    | some _ => False
    | none => match isCall o with
      | some c => acall P st c fun v st' => putD st' o v fun st'' => K st'' (decOff o dec)
      | none => False

/-- a call that of what is there writes but the row 0 -/
structure ACallT (P : Program) (st : St) (f : FuncId) (args : List AVal) (K : AVal → St → Prop) : Prop where
  fok : FOk P f
  run : ∀ w0 ob a w η, SRep w0 ob st a w η → ∀ vs, VReps w (fun b => ob b ∨ ownB st.hp η b) st.hp st.nx η args vs →
    Calls P f vs.toArray w fun e w' => (∃ v x st' η', e = .returned v ∧ K x st' ∧ st'.sz = st.sz ∧ SRep w0 ob st' a w' η' ∧ VRep w' (fun b => ob b ∨ ownB st'.hp η' b) st'.hp st'.nx η' x v) ∧
      w.heap.size ≤ w'.heap.size ∧ ∀ r, look st.hp 0 = some r → ∀ b, b < w.heap.size → b ∉ bsOf η 0 r → w'.heap[b]? = w.heap[b]?

/-- slot z lies behind the frame and points to row 0 -/
def gho (z : Nat) (st : St) (K : Prop) : Prop :=
  match look st.sl z with
  | some (.ptr 0 0) => match look st.hp 0 with
    | some (.cells _ _) => match Nat.ble st.sz z with
      | true => K
      | false => False
    | _ => False
  | _ => False

def acallT (P : Program) (z : Nat) (st : St) (c : Call) (K : AVal → St → Prop) : Prop :=
  match callee st c with
  | none => False
  | some (f, args) => gho z st (frSt st fun st => frL args fun args => ACallT P st f args K)

def astepT (P : Program) (z : Nat) (ops : List Oper) (i : Nat) (st : St) (dec : List (Nat × Bool)) (K : St → List (Nat × Bool) → Prop) : Prop :=
  match nth ops i with
  | none => False
  | some o => match o.guard with
    | some _ => False
    | none => match isCall o with
      | some c => acallT P z st c fun v st' => putD st' o v fun st'' => K st'' (decOff o dec)
      | none => False

/-- a cell of a row of the call's own (not row 0) is read -/
def aloadC (Γ : Tys) (z : Nat) (st : St) (t : Nat) (x : Operand) (K : AVal → Prop) : Prop :=
  match ev st x with
  | some (.ptr k off) => match k with
    | 0 => False
    | k + 1 => match look st.hp (k + 1) with
      | some (.cells _ l) => match look Γ t with
        | some ti => match ti.d.agg with
          | false => match nth l off with
            | some y => gho z st (K y)
            | none => False
          | true => False
        | none => False
      | _ => False
  | _ => False

def areadL (Γ : Tys) (z : Nat) (ops : List Oper) (i : Nat) (st : St) (dec : List (Nat × Bool)) (K : St → List (Nat × Bool) → Prop) : Prop :=
  match nth ops i with
  | none => False
  | some o => match o.guard with
    | some _ => False
    | none => match o.op with
      | .load t x => aloadC Γ z st t x fun v => putD st o v fun st' => K st' (decOff o dec)
      | _ => False

/-- an operation that only reads -/
def aread (Γ : Tys) (ops : List Oper) (i : Nat) (st : St) (dec : List (Nat × Bool)) (K : St → List (Nat × Bool) → Prop) : Prop :=
  match nth ops i with
  | none => False
  | some o => aguard ops st dec o
      (fun dec => match isPick o with
        | some (c, a, b) => apick st dec c a b fun v => putD st o v fun st' => K st' (decOff o dec)
        | none => match isCall o with
          | some _ => False
          | none => aq Γ st o fun v => putD st o v fun st' => K st' (decOff o dec))
      (fun dec => putD st o (.tu []) fun st' => K st' (decOff o dec))

def apl (P : Program) (Γ : Tys) (tz : Option Nat) (ops : List Oper) (K : St → Prop) (p : Plan) : St → List (Nat × Bool) → Prop :=
  @Plan.rec (fun _ => St → List (Nat × Bool) → Prop)
    (fun st _ => K st)
    (fun i _ ih st dec => aread Γ ops i st dec ih)
    (fun i _ ih st dec => astep P Γ ops i st dec ih)
    (fun i _ _ ih ih' st dec => astep P Γ ops i st dec ih ∧ ih' st dec)
    (fun i _ ih st dec => match tz with | none => astepI P ops i st dec ih | some z => astepT P z ops i st dec ih)
    (fun i _ _ ih ih' st dec => (match tz with | none => astepI P ops i st dec ih | some z => astepT P z ops i st dec ih) ∧ ih' st dec)
    (fun i _ ih st dec => match tz with | none => False | some z => areadL Γ z ops i st dec ih) p

section
variable {P : Program} {Γ : Tys} {w0 : Base} {w w' : World} {ob : Nat → Prop} {st : St} {a : Act} {η : Env} {ops : Array Oper} {xs : List Nat} {fr : Bool} {g : Value}

def Fin (w0 : Base) (ob : Nat → Prop) (K : St → Prop) (a : Act) (w : World) : Prop := ∃ st η, K st ∧ SRep w0 ob st a w η

theorem yields_mf {o : Oper} {v : Value} (hy : Yields1 P w a o v) : ∀ w', (mfOp0 o = true ∨ Below w.heap.size w w') → (execOp a.eval o).run P w' = .ok (.value v) w' := by
  intro w' h
  rcases h with h | h
  · have h0 := hy w (Below.refl _ _)
    obtain ⟨dst, op, type, pos, after, guard⟩ := o
    unfold mfOp0 at h
    split at h
    case h_1 x hx =>
      simp only at hx
      subst hx
      simp only [execOp, Sem.run_pure, Result.ok.injEq] at h0 ⊢
      exact ⟨h0.1, trivial⟩
    case h_2 x hx =>
      simp only at hx
      subst hx
      simp only [execOp, Sem.run_pure, Result.ok.injEq] at h0 ⊢
      exact ⟨h0.1, trivial⟩
    case h_3 x i hx =>
      simp only at hx
      subst hx
      simp only [execOp, Sem.run_bind, Sem.run_pure] at h0 ⊢
      unfold Instr.extract at h0 ⊢
      split at h0
      case h_1 vs =>
        split at h0
        case h_1 u hu =>
          simp only [Sem.run_pure, Result.andThen_ok, Result.ok.injEq] at h0 ⊢
          exact ⟨h0.1, trivial⟩
        case h_2 => simp at h0
      case h_2 => simp at h0
    case h_4 => cases h
  · exact hy w' h

/-- what looks at no memory yields the same in every world -/
theorem aq_mf (hΓ : TysOk P Γ) (h : SRep w0 ob st a w η) {o : Oper} {K : AVal → Prop} (hk : aq Γ st o K) :
    ∃ v x, K x ∧ VR w ob st η x v ∧ ∀ w', (mfOp o = true ∨ Below w.heap.size w w') → (execOp a.eval o).run P w' = .ok (.value v) w' := by
  by_cases h0 : mfOp o = true ∧ mfOp0 o = false
  · obtain ⟨dst, op, type, pos, after, guard⟩ := o
    cases op <;> simp [mfOp, mfOp0] at h0
    case fieldAddr s x f =>
      have hk : (match ev st x with | some a => afaddr Γ st s a f K | none => False) := hk
      cases hx : ev st x with
      | none => rw [hx] at hk; exact hk.elim
      | some p =>
        rw [hx] at hk
        obtain ⟨v, z, h1, h2, h3⟩ := afaddr_sound hΓ h (ev_sound h hx) hk
        exact ⟨v, z, h1, h2, fun w' _ => by simp [execOp, h3 w']⟩
    case indexAddr t x ix =>
      have hk : (match ev st x with
        | some a => match ev st ix with | some b => aidx Γ st t a b K | none => False
        | none => False) := hk
      cases hx : ev st x with
      | none => rw [hx] at hk; exact hk.elim
      | some p =>
        rw [hx] at hk
        cases hy : ev st ix with
        | none => rw [hy] at hk; exact hk.elim
        | some q =>
          rw [hy] at hk
          obtain ⟨v, z, h1, h2, h3⟩ := aidx_sound hΓ h (ev_sound h hx) (ev_sound h hy) hk
          exact ⟨v, z, h1, h2, fun w' _ => by simp [execOp, h3 w']⟩
  · obtain ⟨v, z, h1, h2, h3⟩ := aq_sound hΓ h hk
    refine ⟨v, z, h1, h2, fun w' hw => yields_mf h3 w' (hw.imp (fun hm => ?_) id)⟩
    cases h5 : mfOp0 o with
    | true => rfl
    | false => exact absurd ⟨hm, h5⟩ h0

theorem gho_spec (h : SRep w0 ob st a w η) {z : Nat} {K : Prop} (hk : gho z st K) : K ∧ ∃ e l b, look st.hp 0 = some (.cells e l) ∧ bsOf η 0 (.cells e l) = [b] ∧ blk (w0.γ z) = [b] := by
  unfold gho at hk
  split at hk
  case h_2 => exact hk.elim
  case h_1 hz =>
    split at hk
    case h_2 => exact hk.elim
    case h_1 e l hr =>
      split at hk
      case h_2 => exact hk.elim
      case h_1 hle =>
        have hle := Nat.le_of_ble_eq_true hle
        have hs := h.slot _ _ hz
        rw [Array.getD_eq_getD_getElem?, Array.getElem?_eq_none (by rw [h.size]; exact hle)] at hs
        obtain ⟨_, hs⟩ := (hs : VRep w _ _ _ _ (.ptr 0 0) (w0.γ z))
        obtain ⟨_, b, h1, h2⟩ := hs _ hr
        exact ⟨hk, e, l, b, hr, by simp [bsOf, ARow.kind, h1], by rw [show w0.γ z = _ from h2]; rfl⟩

theorem acallT_sound (h : SRep w0 ob st a w η) {z : Nat} {c : Call} {K : AVal → St → Prop} (hk : acallT P z st c K) {o : Oper} (ho : o.op = .call c) {next : Act → World → Prop} {Q : Exit → Act → World → Prop}
    (hn : ∀ v x st' w' η', K x st' → st'.sz = st.sz → Frm (w0.γ z) w w' → SRep w0 ob st' a w' η' → VR w' ob st' η' x v → next (a.put o.dst v) w') : o.wp P a w next Q := by
  unfold acallT at hk
  split at hk
  case h_1 => exact hk.elim
  case h_2 f args hcal =>
    obtain ⟨hk, e, l, b0, hr0, hb0, hg0⟩ := gho_spec h hk
    obtain ⟨st1, hk, e1, e2, e3, e4⟩ := frSt_spec hk
    rw [frL_eq] at hk
    obtain ⟨vs, hvs, hrun⟩ := callee_run h hcal hk.fok ho
    unfold Oper.wp
    rw [hrun w, Oper.upon_enter]
    refine (hk.run w0 ob a w η (h.same e1 e2 e3 e4) vs (by rw [e2, e3]; exact hvs)).mono ?_
    rintro e' w' ⟨⟨v, x, st', η', rfl, hK, hsz, hs', hv⟩, hsize, hfr⟩
    refine hn v x st' w' η' hK (hsz.trans e1) ⟨hsize, fun b hb hnb => hfr _ (by rw [e2]; exact hr0) b hb (by rw [hb0, ← hg0]; exact hnb)⟩ hs' hv

theorem astepT_sound {z : Nat} {i : Nat} (hxs : xs.contains i = true) (h : SRep w0 ob st a w η) {dec : List (Nat × Bool)} {K : St → List (Nat × Bool) → Prop} (hd : DecOk dec a) (hk : astepT P z ops.toList i st dec K) {next : Act → World → Prop}
    (hn : ∀ st' dec' a' w' η', K st' dec' → SRep w0 ob st' a' w' η' → DecOk dec' a' → next a' w') : wpOp P ops NoQ i (fun a' w' => StpG fr (w0.γ z) xs ops i w w' ∧ next a' w') a w := by
  unfold astepT at hk
  split at hk
  case h_1 => exact hk.elim
  case h_2 o ho =>
    have hoi : ops[i]? = some o := by rw [nth_eq] at ho; simpa using ho
    have hnb : ¬ nbAt xs ops i = false := fun h => by
      simp only [nbAt, hoi, Bool.or_eq_false_iff] at h
      rw [hxs] at h
      exact absurd h.2 (by simp)
    split at hk
    case h_1 => exact hk.elim
    case h_2 hg =>
      split at hk
      case h_2 => exact hk.elim
      case h_1 c hc =>
        have hw : Region.wanted o (yielded ops a.tmps) = true := by unfold Region.wanted; rw [hg]
        unfold wpOp
        simp only [hoi]
        rw [if_pos hw]
        refine .inl ?_
        refine acallT_sound h hk (isCall_op hc) (fun v x st' w' η' hK _ hF hs' hv => ?_)
        obtain ⟨st2, hk2, hs2, _⟩ := putD_sound hs' hK hv
        exact ⟨⟨fun h => absurd h hnb, fun _ => hF⟩, hn _ _ _ _ _ hk2 hs2 (hd.put o v)⟩

theorem aloadC_sound (hΓ : TysOk P Γ) (h : SRep w0 ob st a w η) {z t : Nat} {x : Operand} {K : AVal → Prop} (hk : aloadC Γ z st t x K) :
    ∃ v y, K y ∧ VR w ob st η y v ∧ ∀ w', Frm (w0.γ z) w w' → (Instr.loadAt t (a.eval x)).run P w' = .ok v w' := by
  unfold aloadC at hk
  split at hk
  case h_2 => exact hk.elim
  case h_1 k off hx =>
  split at hk
  case h_1 => exact hk.elim
  case h_2 k =>
  split at hk
  case h_2 => exact hk.elim
  case h_1 e l hr =>
  split at hk
  case h_2 => exact hk.elim
  case h_1 ti hti =>
  split at hk
  case h_2 => exact hk.elim
  case h_1 ha =>
  split at hk
  case h_2 => exact hk.elim
  case h_1 y hy =>
  obtain ⟨hK, e0, l0, b0, hr0, hb0, hg0⟩ := gho_spec h hk
  obtain ⟨_, hp⟩ := (ev_sound h hx : VR w ob st η (.ptr (k + 1) off) (a.eval x))
  obtain ⟨_, b, hb, hval⟩ := hp _ hr
  have hrow := h.heap.row _ _ hr
  obtain ⟨b', h1, h2, h3, h4⟩ := hrow
  obtain ⟨v, hv, hvy⟩ := VReps.nth h4 hy
  have hc := row_cell (h.heap.row _ _ hr) hb hv
  have hmem : b ∈ bsOf η (k + 1) (.cells e l) := by simp [bsOf, ARow.kind, hb]
  have hlt := (RowRep.lt (h.heap.row _ _ hr) b hmem).2
  have hne : b ∉ blk (w0.γ z) := by
    rw [hg0, ← hb0]
    exact h.heap.apart _ _ 0 _ hr hr0 (by omega) b hmem
  refine ⟨v, y, hK, hvy, fun w' hF => ?_⟩
  rw [hval, run_loadAt]
  exact run_loadVar1 (hΓ.at hti) ha (by rw [World.cell?_of_block (w := w) (hF.2 b hlt hne)]; exact hc)

theorem areadL_sound (hΓ : TysOk P Γ) (h : SRep w0 ob st a w η) {z i : Nat} {dec : List (Nat × Bool)} {K : St → List (Nat × Bool) → Prop} (hd : DecOk dec a) (hk : areadL Γ z ops.toList i st dec K) :
    ∃ o v, ops[i]? = some o ∧ YieldsNC P ops (w0.γ z) 1 w o v a ∧ ∃ st' dec', K st' dec' ∧ SRep w0 ob st' (a.put o.dst v) w η ∧ DecOk dec' (a.put o.dst v) := by
  unfold areadL at hk
  split at hk
  case h_1 => exact hk.elim
  case h_2 o ho =>
    have hoi : ops[i]? = some o := by rw [nth_eq] at ho; simpa using ho
    split at hk
    case h_1 => exact hk.elim
    case h_2 hg =>
      split at hk
      case h_2 => exact hk.elim
      case h_1 t x hop =>
        have hw : Region.wanted o (yielded ops a.tmps) = true := by unfold Region.wanted; rw [hg]
        obtain ⟨v, q, hq, hv, hy⟩ := aloadC_sound hΓ h hk
        obtain ⟨st2, hk2, hs2, _⟩ := putD_sound h hq hv
        exact ⟨o, v, hoi, .inl ⟨hw, fun w' hF => by simp [execOp, hop, hy w' hF]⟩, st2, _, hk2, hs2, hd.put o v⟩

theorem aread_sound (hΓ : TysOk P Γ) (h : SRep w0 ob st a w η) {i : Nat} {dec : List (Nat × Bool)} {K : St → List (Nat × Bool) → Prop} (hd : DecOk dec a) (hk : aread Γ ops.toList i st dec K) :
    ∃ o v, ops[i]? = some o ∧ YieldsNC P ops g (if mfOp o then 2 else 0) w o v a ∧ ∃ st' dec', K st' dec' ∧ SRep w0 ob st' (a.put o.dst v) w η ∧ DecOk dec' (a.put o.dst v) := by
  unfold aread at hk
  split at hk
  case h_1 => exact hk.elim
  case h_2 o ho =>
    have hoi : ops[i]? = some o := by rw [nth_eq] at ho; simpa using ho
    obtain ⟨dec', hdec', hg⟩ := aguard_sound h hd hk
    rcases hg with ⟨hw, hk⟩ | ⟨hw, hk⟩
    · split at hk
      case h_1 c x y hp =>
        obtain ⟨v, q, hq, hv, hy⟩ := apick_sound (P := P) h hdec' (isPick_op hp) hk
        obtain ⟨st2, hk2, hs2, _⟩ := putD_sound h hq hv
        have hm : mfOp o = false := by simp [mfOp, isPick_op hp]
        exact ⟨o, v, hoi, .inl ⟨hw, fun w' hw' => hy w' (by simpa [hm, Rl] using hw')⟩, st2, _, hk2, hs2, hdec'.put o v⟩
      case h_2 =>
        split at hk
        case h_1 => exact hk.elim
        case h_2 =>
          obtain ⟨v, q, hq, hv, hy⟩ := aq_mf hΓ h hk
          obtain ⟨st2, hk2, hs2, _⟩ := putD_sound h hq hv
          exact ⟨o, v, hoi, .inl ⟨hw, fun w' hw' => hy w' (by
            cases hm : mfOp o with
            | true => exact .inl rfl
            | false => exact .inr (by simpa [hm, Rl] using hw'))⟩, st2, _, hk2, hs2, hdec'.put o v⟩
    · obtain ⟨st2, hk2, hs2, _⟩ := putD_sound h hk (undef_rep st)
      exact ⟨o, undef, hoi, .inr ⟨hw, rfl⟩, _, _, hk2, hs2, hdec'.put o undef⟩

theorem astep_sound (hΓ : TysOk P Γ) (h : SRep w0 ob st a w η) {i : Nat} {dec : List (Nat × Bool)} {K : St → List (Nat × Bool) → Prop} (hd : DecOk dec a) (hk : astep P Γ ops.toList i st dec K) {next : Act → World → Prop}
    (hn : ∀ st' dec' a' w' η', K st' dec' → StpG fr g xs ops i w w' → SRep w0 ob st' a' w' η' → DecOk dec' a' → next a' w') : wpOp P ops NoQ i next a w := by
  unfold astep at hk
  split at hk
  case h_1 => exact hk.elim
  case h_2 o ho =>
    have hoi : ops[i]? = some o := by rw [nth_eq] at ho; simpa using ho
    obtain ⟨dec', hdec', hg⟩ := aguard_sound h hd hk
    unfold wpOp
    simp only [hoi]
    rcases hg with ⟨hw, hk⟩ | ⟨hw, hk⟩
    · rw [if_pos hw]
      refine .inl ?_
      split at hk
      case h_1 c x y hp =>
        obtain ⟨v, q, hq, hv, hy⟩ := apick_sound (P := P) h hdec' (isPick_op hp) hk
        obtain ⟨st2, hk2, hs2, _⟩ := putD_sound h hq hv
        exact wp_of_yields hy (hn _ _ _ _ _ hk2 (.below (Below.refl _ _)) hs2 (hdec'.put o v))
      case h_2 =>
        split at hk
        case h_1 c hc =>
          refine acallR_sound h hk (isCall_op hc) (fun v x st' w' η' hK _ hb hs' hv => ?_)
          obtain ⟨st2, hk2, hs2, _⟩ := putD_sound hs' hK hv
          exact hn _ _ _ _ _ hk2 (.below hb) hs2 (hdec'.put o v)
        case h_2 =>
          split at hk
          case h_2 =>
            split at hk
            case h_1 t k lo hi hcut =>
              obtain ⟨v, x, st', η', hK, _, hs', hv, hrun⟩ := acut_sound hΓ h hcut hk
              obtain ⟨st2, hk2, hs2, _⟩ := putD_sound hs' hK hv
              have := hn _ _ _ _ _ hk2 (.below (Below.refl _ _)) hs2 (hdec'.put o v)
              unfold Oper.wp
              rw [hrun, Oper.upon_value]; exact this
            case h_2 =>
            obtain ⟨v, q, hq, hv, hy⟩ := aq_sound hΓ h hk
            obtain ⟨st2, hk2, hs2, _⟩ := putD_sound h hq hv
            exact wp_of_yields hy (hn _ _ _ _ _ hk2 (.below (Below.refl _ _)) hs2 (hdec'.put o v))
          case h_1 hnq =>
            have hnb : nbAt xs ops i = false → nbOp o = false := fun h => by simp only [nbAt, hoi, Bool.or_eq_false_iff] at h; exact h.1
            have hnf : nfAt fr xs ops i = false → nbOp o = false := fun h => by simp only [nfAt, hoi, Bool.or_eq_false_iff] at h; exact h.1
            obtain ⟨v, x, st', w', η', hK, _, hs', hv, hrun, hbw⟩ := an_sound hΓ h hk
            obtain ⟨st2, hk2, hs2, _⟩ := putD_sound hs' hK hv
            have := hn _ _ _ _ _ hk2 ⟨fun hf => hbw (hnb hf), fun hf => (StpG.below (fr := fr) (g := g) (xs := []) (ops := #[]) (i := 0) (hbw (hnf hf))).2 rfl⟩ hs2 (hdec'.put o v)
            unfold Oper.wp
            rcases hrun with hrun | ⟨hrun, rfl⟩
            · rw [hrun, Oper.upon_value]; exact this
            · rw [hrun, Oper.upon_skip]; exact this
    · rw [if_neg (by rw [hw]; simp)]
      obtain ⟨st2, hk2, hs2, _⟩ := putD_sound h hk (undef_rep st)
      exact hn _ _ _ _ _ hk2 (.below (Below.refl _ _)) hs2 (hdec'.put o undef)

theorem astepI_sound {i : Nat} (hfr : fr = false) (hxs : xs.contains i = true) (h : SRep w0 ob st a w η) {dec : List (Nat × Bool)} {K : St → List (Nat × Bool) → Prop} (hd : DecOk dec a) (hk : astepI P ops.toList i st dec K) {next : Act → World → Prop}
    (hn : ∀ st' dec' a' w' η', K st' dec' → SRep w0 ob st' a' w' η' → DecOk dec' a' → next a' w') : wpOp P ops NoQ i (fun a' w' => StpG fr g xs ops i w w' ∧ next a' w') a w := by
  unfold astepI at hk
  split at hk
  case h_1 => exact hk.elim
  case h_2 o ho =>
    have hoi : ops[i]? = some o := by rw [nth_eq] at ho; simpa using ho
    have hnb : ¬ nbAt xs ops i = false := fun h => by
      simp only [nbAt, hoi, Bool.or_eq_false_iff] at h
      rw [hxs] at h
      exact absurd h.2 (by simp)
    split at hk
    case h_1 => exact hk.elim
    case h_2 hg =>
      split at hk
      case h_2 => exact hk.elim
      case h_1 c hc =>
        have hw : Region.wanted o (yielded ops a.tmps) = true := by unfold Region.wanted; rw [hg]
        unfold wpOp
        simp only [hoi]
        rw [if_pos hw]
        refine .inl ?_
        refine acall_sound h hk (isCall_op hc) (fun v x st' w' η' hK _ hs' hv => ?_)
        obtain ⟨st2, hk2, hs2, _⟩ := putD_sound hs' hK hv
        exact ⟨⟨fun h => absurd h hnb, fun h => by simp only [nfAt, hoi, hfr, Bool.or_eq_false_iff, Bool.not_false, Bool.true_and] at h; rw [hxs] at h; exact absurd h.2 (by simp)⟩, hn _ _ _ _ _ hk2 hs2 (hd.put o v)⟩

def frO (tz : Option Nat) : Bool := match tz with | none => false | some _ => true
def gO (w0 : Base) (tz : Option Nat) : Value := match tz with | none => undef | some z => w0.γ z
theorem astepX_sound {tz : Option Nat} {i : Nat} (hxs : xs.contains i = true) (h : SRep w0 ob st a w η) {dec : List (Nat × Bool)} {K : St → List (Nat × Bool) → Prop} (hd : DecOk dec a)
    (hk : match tz with | none => astepI P ops.toList i st dec K | some z => astepT P z ops.toList i st dec K) {next : Act → World → Prop}
    (hn : ∀ st' dec' a' w' η', K st' dec' → SRep w0 ob st' a' w' η' → DecOk dec' a' → next a' w') : wpOp P ops NoQ i (fun a' w' => StpG (frO tz) (gO w0 tz) xs ops i w w' ∧ next a' w') a w := by
  cases tz with
  | none => exact astepI_sound rfl hxs h hd hk hn
  | some z => exact astepT_sound hxs h hd hk hn

theorem clo_none (ops : Array Oper) : Clo .any ops (Array.replicate ops.size false) := fun j o _ hj => by
  simp only [Array.getD_eq_getD_getElem?, Array.getElem?_replicate] at hj
  split at hj <;> simp at hj

theorem apl_sound {tz : Option Nat} (hΓ : TysOk P Γ) (hsel : Region.noSelect ops = true) {K : St → Prop} : ∀ (p : Plan) (listed : Array Bool) (todo : Option (List Nat)) (f : Nat) (st : St) (dec : List (Nat × Bool)) (a : Act) (w : World) (η : Env),
    p.ok (frO tz) xs ops listed todo = true → p.deep ≤ f → Clo .any ops listed → (∀ t, todo = some t → ∀ i ∈ t, i ∈ Region.ready .any ops listed) → SRep w0 ob st a w η → DecOk dec a → apl P Γ tz ops.toList K p st dec →
      (todo = none → wpG (frO tz) (gO w0 tz) xs P .any ops (Fin w0 ob K) f listed a w) ∧
      ∀ t, todo = some t → ∃ f', f = f' + 1 ∧ ∀ i ∈ t, wpOp P ops NoQ i (fun a' w' => StpG (frO tz) (gO w0 tz) xs ops i w w' ∧ wpG (frO tz) (gO w0 tz) xs P .any ops (Fin w0 ob K) f' (listed.setIfInBounds i true) a' w') a w
  | .done, listed, some t, f, st, dec, a, w, η, hok, _, hclo, htd, h, hd, hk => by simp [Plan.ok] at hok
  | .done, listed, none, f, st, dec, a, w, η, hok, _, hclo, htd, h, hd, hk => by
    have hr : Region.ready .any ops listed = [] := by simpa [Plan.ok] using hok
    refine ⟨fun _ => ?_, fun t ht => by cases ht⟩
    cases f with
    | zero => exact ⟨hr, st, η, hk, h⟩
    | succ f => exact ⟨fun _ => ⟨st, η, hk, h⟩, fun i hi => by rw [hr] at hi; cases hi⟩
  | .q i p, listed, some t, f, st, dec, a, w, η, hok, _, hclo, htd, h, hd, hk => by simp [Plan.ok] at hok
  | .q i p, listed, none, f, st, dec, a, w, η, hok, hf, hclo, htd, h, hd, hk => by
    simp only [Plan.ok, Bool.and_eq_true] at hok
    obtain ⟨⟨⟨h1, h2⟩, hcalm⟩, h3⟩ := hok
    have hrdy : i ∈ Region.ready .any ops listed := by simpa using h1
    obtain ⟨o, v, hoi, hy, st', dec', hk', hs', hd'⟩ := aread_sound hΓ h hd (show aread Γ ops.toList i st dec (apl P Γ tz ops.toList K p) from hk)
    simp only [Plan.deep] at hf
    obtain ⟨f', rfl⟩ : ∃ f', f = f' + 1 := ⟨f - 1, by omega⟩
    refine ⟨fun _ => ?_, fun t ht => by cases ht⟩
    have := (apl_sound hΓ hsel p _ none f' st' dec' _ w η h3 (by omega) (hclo.set hrdy) (fun t ht => by cases ht) hs' hd' hk').1 rfl
    refine wpG_first hoi (Region.noSelect_spec hsel) f' listed a w (Region.free_spec hoi h2) hrdy hy hclo ?_ this
    cases hm : mfOp o with
    | true => rfl
    | false => simpa [calm, hoi, hm, calmC] using hcalm
  | .ql i p, listed, some t, f, st, dec, a, w, η, hok, _, hclo, htd, h, hd, hk => by simp [Plan.ok] at hok
  | .ql i p, listed, none, f, st, dec, a, w, η, hok, hf, hclo, htd, h, hd, hk => by
    simp only [Plan.ok, Bool.and_eq_true] at hok
    obtain ⟨⟨⟨h1, h2⟩, hcalm⟩, h3⟩ := hok
    have hrdy : i ∈ Region.ready .any ops listed := by simpa using h1
    simp only [Plan.deep] at hf
    obtain ⟨f', rfl⟩ : ∃ f', f = f' + 1 := ⟨f - 1, by omega⟩
    refine ⟨fun _ => ?_, fun t ht => by cases ht⟩
    cases tz with
    | none => exact hk.elim
    | some z =>
      obtain ⟨o, v, hoi, hy, st', dec', hk', hs', hd'⟩ := areadL_sound hΓ h hd (show areadL Γ z ops.toList i st dec (apl P Γ (some z) ops.toList K p) from hk)
      have := (apl_sound hΓ hsel p _ none f' st' dec' _ w η h3 (by omega) (hclo.set hrdy) (fun t ht => by cases ht) hs' hd' hk').1 rfl
      exact wpG_first (c := 1) hoi (Region.noSelect_spec hsel) f' listed a w (Region.free_spec hoi h2) hrdy hy hclo hcalm this
  | .last i p, listed, todo, f, st, dec, a, w, η, hok, hf, hclo, htd, h, hd, hk => by
    simp only [Plan.ok, Bool.and_eq_true] at hok
    obtain ⟨h1, h3⟩ := hok
    simp only [Plan.deep] at hf
    obtain ⟨f', rfl⟩ : ∃ f', f = f' + 1 := ⟨f - 1, by omega⟩
    have hone : todo.getD (Region.ready .any ops listed) = [i] := by
      split at h1
      case h_1 j hj => rw [hj, eq_of_beq h1]
      case h_2 => cases h1
    have hrdy : i ∈ Region.ready .any ops listed := by
      cases todo with
      | none => simp only [Option.getD_none] at hone; rw [hone]; simp
      | some t => simp only [Option.getD_some] at hone; subst hone; exact htd _ rfl i (by simp)
    have key : wpOp P ops NoQ i (fun a' w' => StpG (frO tz) (gO w0 tz) xs ops i w w' ∧ wpG (frO tz) (gO w0 tz) xs P .any ops (Fin w0 ob K) f' (listed.setIfInBounds i true) a' w') a w :=
      astep_sound hΓ h hd (show astep P Γ ops.toList i st dec (apl P Γ tz ops.toList K p) from hk) (fun st' dec' a' w' η' hk' hb hs' hd' =>
        ⟨hb, (apl_sound hΓ hsel p _ none f' st' dec' a' w' η' h3 (by omega) (hclo.set hrdy) (fun t ht => by cases ht) hs' hd' hk').1 rfl⟩)
    refine ⟨fun ht => ?_, fun t ht => ⟨f', rfl, fun j hj => ?_⟩⟩
    · subst ht
      simp only [Option.getD_none] at hone
      refine ⟨fun h0 => (by rw [h0] at hone; cases hone), fun j hj => ?_⟩
      rw [hone] at hj
      obtain rfl := List.mem_singleton.1 hj
      exact key
    · subst ht
      simp only [Option.getD_some] at hone
      subst hone
      obtain rfl := List.mem_singleton.1 hj
      exact key
  | .alt i p rest, listed, todo, f, st, dec, a, w, η, hok, hf, hclo, htd, h, hd, hk => by
    simp only [Plan.ok] at hok
    simp only [Plan.deep] at hf
    obtain ⟨f', rfl⟩ : ∃ f', f = f' + 1 := ⟨f - 1, by omega⟩
    split at hok
    case h_2 => cases hok
    case h_1 j t hj =>
      simp only [Bool.and_eq_true] at hok
      obtain ⟨⟨h1, h3⟩, h4⟩ := hok
      obtain rfl := eq_of_beq h1
      obtain ⟨hk1, hk2⟩ := (show astep P Γ ops.toList j st dec (apl P Γ tz ops.toList K p) ∧ apl P Γ tz ops.toList K rest st dec from hk)
      have hrdys : ∀ i ∈ j :: t, i ∈ Region.ready .any ops listed := by
        cases todo with
        | none => simp only [Option.getD_none] at hj; rw [hj]; exact fun i hi => hi
        | some t' => simp only [Option.getD_some] at hj; subst hj; exact htd _ rfl
      have hrdy := hrdys j (by simp)
      have key : wpOp P ops NoQ j (fun a' w' => StpG (frO tz) (gO w0 tz) xs ops j w w' ∧ wpG (frO tz) (gO w0 tz) xs P .any ops (Fin w0 ob K) f' (listed.setIfInBounds j true) a' w') a w :=
        astep_sound hΓ h hd hk1 (fun st' dec' a' w' η' hk' hb hs' hd' =>
          ⟨hb, (apl_sound hΓ hsel p _ none f' st' dec' a' w' η' h3 (by omega) (hclo.set hrdy) (fun t ht => by cases ht) hs' hd' hk').1 rfl⟩)
      obtain ⟨f2, hf2, hrest⟩ := (apl_sound hΓ hsel rest listed (some t) (f' + 1) st dec a w η h4 (by omega) hclo (fun t' ht' => by obtain rfl := Option.some.inj ht'; exact fun i hi => hrdys i (by simp [hi])) h hd hk2).2 t rfl
      obtain rfl : f' = f2 := by omega
      have all : ∀ i ∈ j :: t, wpOp P ops NoQ i (fun a' w' => StpG (frO tz) (gO w0 tz) xs ops i w w' ∧ wpG (frO tz) (gO w0 tz) xs P .any ops (Fin w0 ob K) f' (listed.setIfInBounds i true) a' w') a w := fun i hi => by
        rcases List.mem_cons.1 hi with rfl | hi
        · exact key
        · exact hrest i hi
      refine ⟨fun ht => ?_, fun t' ht => ⟨f', rfl, fun i hi => ?_⟩⟩
      · subst ht
        simp only [Option.getD_none] at hj
        refine ⟨fun h0 => (by rw [h0] at hj; cases hj), fun i hi => ?_⟩
        rw [hj] at hi
        exact all i hi
      · subst ht
        simp only [Option.getD_some] at hj
        subst hj
        exact all i hi

  | .inl i p, listed, todo, f, st, dec, a, w, η, hok, hf, hclo, htd, h, hd, hk => by
    simp only [Plan.ok, Bool.and_eq_true] at hok
    obtain ⟨⟨hxs, h1⟩, h3⟩ := hok
    simp only [Plan.deep] at hf
    obtain ⟨f', rfl⟩ : ∃ f', f = f' + 1 := ⟨f - 1, by omega⟩
    have hone : todo.getD (Region.ready .any ops listed) = [i] := by
      split at h1
      case h_1 j hj => rw [hj, eq_of_beq h1]
      case h_2 => cases h1
    have hrdy : i ∈ Region.ready .any ops listed := by
      cases todo with
      | none => simp only [Option.getD_none] at hone; rw [hone]; simp
      | some t => simp only [Option.getD_some] at hone; subst hone; exact htd _ rfl i (by simp)
    have key : wpOp P ops NoQ i (fun a' w' => StpG (frO tz) (gO w0 tz) xs ops i w w' ∧ wpG (frO tz) (gO w0 tz) xs P .any ops (Fin w0 ob K) f' (listed.setIfInBounds i true) a' w') a w :=
      astepX_sound (tz := tz) hxs h hd hk (fun st' dec' a' w' η' hk' hs' hd' =>
        (apl_sound hΓ hsel p _ none f' st' dec' a' w' η' h3 (by omega) (hclo.set hrdy) (fun t ht => by cases ht) hs' hd' hk').1 rfl)
    refine ⟨fun ht => ?_, fun t ht => ⟨f', rfl, fun j hj => ?_⟩⟩
    · subst ht
      simp only [Option.getD_none] at hone
      refine ⟨fun h0 => (by rw [h0] at hone; cases hone), fun j hj => ?_⟩
      rw [hone] at hj
      obtain rfl := List.mem_singleton.1 hj
      exact key
    · subst ht
      simp only [Option.getD_some] at hone
      subst hone
      obtain rfl := List.mem_singleton.1 hj
      exact key
  | .alti i p rest, listed, todo, f, st, dec, a, w, η, hok, hf, hclo, htd, h, hd, hk => by
    simp only [Plan.ok] at hok
    simp only [Plan.deep] at hf
    obtain ⟨f', rfl⟩ : ∃ f', f = f' + 1 := ⟨f - 1, by omega⟩
    split at hok
    case h_2 => cases hok
    case h_1 j t hj =>
      simp only [Bool.and_eq_true] at hok
      obtain ⟨⟨⟨hxs, h1⟩, h3⟩, h4⟩ := hok
      obtain rfl := eq_of_beq h1
      obtain ⟨hk1, hk2⟩ := hk
      have hrdys : ∀ i ∈ j :: t, i ∈ Region.ready .any ops listed := by
        cases todo with
        | none => simp only [Option.getD_none] at hj; rw [hj]; exact fun i hi => hi
        | some t' => simp only [Option.getD_some] at hj; subst hj; exact htd _ rfl
      have hrdy := hrdys j (by simp)
      have key : wpOp P ops NoQ j (fun a' w' => StpG (frO tz) (gO w0 tz) xs ops j w w' ∧ wpG (frO tz) (gO w0 tz) xs P .any ops (Fin w0 ob K) f' (listed.setIfInBounds j true) a' w') a w :=
        astepX_sound (tz := tz) hxs h hd hk1 (fun st' dec' a' w' η' hk' hs' hd' =>
          (apl_sound hΓ hsel p _ none f' st' dec' a' w' η' h3 (by omega) (hclo.set hrdy) (fun t ht => by cases ht) hs' hd' hk').1 rfl)
      obtain ⟨f2, hf2, hrest⟩ := (apl_sound hΓ hsel rest listed (some t) (f' + 1) st dec a w η h4 (by omega) hclo (fun t' ht' => by obtain rfl := Option.some.inj ht'; exact fun i hi => hrdys i (by simp [hi])) h hd hk2).2 t rfl
      obtain rfl : f' = f2 := by omega
      have all : ∀ i ∈ j :: t, wpOp P ops NoQ i (fun a' w' => StpG (frO tz) (gO w0 tz) xs ops i w w' ∧ wpG (frO tz) (gO w0 tz) xs P .any ops (Fin w0 ob K) f' (listed.setIfInBounds i true) a' w') a w := fun i hi => by
        rcases List.mem_cons.1 hi with rfl | hi
        · exact key
        · exact hrest i hi
      refine ⟨fun ht => ?_, fun t' ht => ⟨f', rfl, fun i hi => ?_⟩⟩
      · subst ht
        simp only [Option.getD_none] at hj
        refine ⟨fun h0 => (by rw [h0] at hj; cases hj), fun i hi => ?_⟩
        rw [hj] at hi
        exact all i hi
      · subst ht
        simp only [Option.getD_some] at hj
        subst hj
        exact all i hi

/-- a drawn region by a plan -/
theorem ADraw.planZ (tz : Option Nat) (xs : List Nat) (hΓ : TysOk P Γ) (hm : P.follows .mixedOrders = true) {K : St → Prop} (p : Plan) (hp : (Region.noSelect ops && p.ok (frO tz) xs ops (Array.replicate ops.size false) none && Nat.ble p.deep ops.size) = true)
    (hk : apl P Γ tz ops.toList K p st []) : ADraw P ops st K := by
  refine ⟨fun id w0 ob a w ⟨η, h⟩ => ?_⟩
  simp only [Bool.and_eq_true] at hp
  obtain ⟨⟨h1, h2⟩, h3⟩ := hp
  refine wp_region_any hm (wpG_any (fr := frO tz) (g := gO w0 tz) (xs := xs) (K := Fin w0 ob K) (fun a w ⟨st', η', hk', hs'⟩ => ⟨rfl, st', hk', η', hs'⟩) _ _ _ _ ?_)
  exact (apl_sound hΓ h1 p _ none _ st [] a _ η h2 (Nat.le_of_ble_eq_true h3) (clo_none _) (fun t ht => by cases ht) (h.mono (below_drawn w)) (fun d b hd => by simp [look] at hd) hk).1 rfl

theorem ADraw.planX (xs : List Nat) (hΓ : TysOk P Γ) (hm : P.follows .mixedOrders = true) {K : St → Prop} (p : Plan) (hp : (Region.noSelect ops && p.ok false xs ops (Array.replicate ops.size false) none && Nat.ble p.deep ops.size) = true)
    (hk : apl P Γ none ops.toList K p st []) : ADraw P ops st K := ADraw.planZ none xs hΓ hm p hp hk
/-- .. of a function that writes a variable of its caller: slot z, behind the frame, points to it -/
theorem ADraw.planT (z : Nat) (xs : List Nat) (hΓ : TysOk P Γ) (hm : P.follows .mixedOrders = true) {K : St → Prop} (p : Plan) (hp : (Region.noSelect ops && p.ok true xs ops (Array.replicate ops.size false) none && Nat.ble p.deep ops.size) = true)
    (hk : apl P Γ (some z) ops.toList K p st []) : ADraw P ops st K := ADraw.planZ (some z) xs hΓ hm p hp hk

theorem ADraw.plan (hΓ : TysOk P Γ) (hm : P.follows .mixedOrders = true) {K : St → Prop} (p : Plan) (hp : (Region.noSelect ops && p.ok false [] ops (Array.replicate ops.size false) none && Nat.ble p.deep ops.size) = true)
    (hk : apl P Γ none ops.toList K p st []) : ADraw P ops st K := ADraw.planX [] hΓ hm p hp hk
end
end Go.Aw
