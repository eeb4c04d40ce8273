/- A region that draws its order, by a plan: what only reads is taken as it comes up, calls in every order. -/
import Derived.Test.YtahllgjmjnipjaaAw16
namespace Go.Aw
open Go.RowKit

/-- an order of going on: 'q' takes one that only reads; 'alt' .. 'last' go through all that may be next -/
inductive Plan where
  | done
  | q (i : Nat) (p : Plan)
  | last (i : Nat) (p : Plan)
  | alt (i : Nat) (p rest : Plan)
  | inl (i : Nat) (p : Plan)
  | alti (i : Nat) (p rest : Plan)

def Plan.ok (xs : List Nat) (ops : Array Oper) : Plan → Array Bool → Option (List Nat) → Bool
  | .done, listed, none => (Region.ready .any ops listed).isEmpty
  | .q i p, listed, none => (Region.ready .any ops listed).contains i && Region.free .any ops listed i && calm xs .any ops i && p.ok xs ops (listed.setIfInBounds i true) none
  | .last i p, listed, todo => (match todo.getD (Region.ready .any ops listed) with | [j] => j == i | _ => false) && p.ok xs ops (listed.setIfInBounds i true) none
  | .alt i p rest, listed, todo => match todo.getD (Region.ready .any ops listed) with
    | j :: t => j == i && p.ok xs ops (listed.setIfInBounds i true) none && rest.ok xs ops listed (some t)
    | [] => false
  | .inl i p, listed, todo => xs.contains i && (match todo.getD (Region.ready .any ops listed) with | [j] => j == i | _ => false) && p.ok xs ops (listed.setIfInBounds i true) none
  | .alti i p rest, listed, todo => match todo.getD (Region.ready .any ops listed) with
    | j :: t => xs.contains i && j == i && p.ok xs ops (listed.setIfInBounds i true) none && rest.ok xs ops listed (some t)
    | [] => false
  | _, _, _ => false

def Plan.deep : Plan → Nat
  | .done => 0
  | .q _ p => p.deep + 1
  | .last _ p => p.deep + 1
  | .alt _ p rest => max (p.deep + 1) rest.deep
  | .inl _ p => p.deep + 1
  | .alti _ p rest => max (p.deep + 1) rest.deep

/-- a call, in such a region -/
def astep (P : Program) (Γ : Tys) (ops : List Oper) (i : Nat) (st : St) (dec : List (Nat × Bool)) (K : St → List (Nat × Bool) → Prop) : Prop :=
  match nth ops i with
  | none => False
  | some o => aguard ops st dec o
      (fun dec => match isPick o with
        | some (c, a, b) => apick st dec c a b fun v => putD st o v fun st' => K st' (decOff o dec)
        | none => match isCall o with
          | some c => acallR P st c fun v st' => putD st' o v fun st'' => K st'' (decOff o dec)
          | none => match isNQ o with
            | true => an Γ st o fun v st' => putD st' o v fun st'' => K st'' (decOff o dec)
            | false => aq Γ st o fun v => putD st o v fun st' => K st' (decOff o dec))
      (fun dec => putD st o (.tu []) fun st' => K st' (decOff o dec))

/-- a call that may write rows of its caller, in such a region -/
def astepI (P : Program) (ops : List Oper) (i : Nat) (st : St) (dec : List (Nat × Bool)) (K : St → List (Nat × Bool) → Prop) : Prop :=
  match nth ops i with
  | none => False
  | some o => match o.guard with
    | some _ => False
    | none => match isCall o with
      | some c => acall P st c fun v st' => putD st' o v fun st'' => K st'' (decOff o dec)
      | none => False

/-- an operation that only reads -/
def aread (Γ : Tys) (ops : List Oper) (i : Nat) (st : St) (dec : List (Nat × Bool)) (K : St → List (Nat × Bool) → Prop) : Prop :=
  match nth ops i with
  | none => False
  | some o => aguard ops st dec o
      (fun dec => match isPick o with
        | some (c, a, b) => apick st dec c a b fun v => putD st o v fun st' => K st' (decOff o dec)
        | none => match isCall o with
          | some _ => False
          | none => aq Γ st o fun v => putD st o v fun st' => K st' (decOff o dec))
      (fun dec => putD st o (.tu []) fun st' => K st' (decOff o dec))

def apl (P : Program) (Γ : Tys) (ops : List Oper) (K : St → Prop) (p : Plan) : St → List (Nat × Bool) → Prop :=
  @Plan.rec (fun _ => St → List (Nat × Bool) → Prop)
    (fun st _ => K st)
    (fun i _ ih st dec => aread Γ ops i st dec ih)
    (fun i _ ih st dec => astep P Γ ops i st dec ih)
    (fun i _ _ ih ih' st dec => astep P Γ ops i st dec ih ∧ ih' st dec)
    (fun i _ ih st dec => astepI P ops i st dec ih)
    (fun i _ _ ih ih' st dec => astepI P ops i st dec ih ∧ ih' st dec) p

section
variable {P : Program} {Γ : Tys} {w0 : Base} {w w' : World} {ob : Nat → Prop} {st : St} {a : Act} {η : Env} {ops : Array Oper} {xs : List Nat}

def Fin (w0 : Base) (ob : Nat → Prop) (K : St → Prop) (a : Act) (w : World) : Prop := ∃ st η, K st ∧ SRep w0 ob st a w η

theorem yields_mf {o : Oper} {v : Value} (hy : Yields1 P w a o v) : ∀ w', (mfOp o = true ∨ Below w.heap.size w w') → (execOp a.eval o).run P w' = .ok (.value v) w' := by
  intro w' h
  rcases h with h | h
  · have h0 := hy w (Below.refl _ _)
    obtain ⟨dst, op, type, pos, after, guard⟩ := o
    unfold mfOp at h
    split at h
    case h_1 x hx =>
      simp only at hx
      subst hx
      simp only [execOp, Sem.run_pure, Result.ok.injEq] at h0 ⊢
      exact ⟨h0.1, trivial⟩
    case h_2 x hx =>
      simp only at hx
      subst hx
      simp only [execOp, Sem.run_pure, Result.ok.injEq] at h0 ⊢
      exact ⟨h0.1, trivial⟩
    case h_3 x i hx =>
      simp only at hx
      subst hx
      simp only [execOp, Sem.run_bind, Sem.run_pure] at h0 ⊢
      unfold Instr.extract at h0 ⊢
      split at h0
      case h_1 vs =>
        split at h0
        case h_1 u hu =>
          simp only [Sem.run_pure, Result.andThen_ok, Result.ok.injEq] at h0 ⊢
          exact ⟨h0.1, trivial⟩
        case h_2 => simp at h0
      case h_2 => simp at h0
    case h_4 => cases h
  · exact hy w' h

theorem aread_sound (hΓ : TysOk P Γ) (h : SRep w0 ob st a w η) {i : Nat} {dec : List (Nat × Bool)} {K : St → List (Nat × Bool) → Prop} (hd : DecOk dec a) (hk : aread Γ ops.toList i st dec K) :
    ∃ o v, ops[i]? = some o ∧ YieldsNC P ops (mfOp o) w o v a ∧ ∃ st' dec', K st' dec' ∧ SRep w0 ob st' (a.put o.dst v) w η ∧ DecOk dec' (a.put o.dst v) := by
  unfold aread at hk
  split at hk
  case h_1 => exact hk.elim
  case h_2 o ho =>
    have hoi : ops[i]? = some o := by rw [nth_eq] at ho; simpa using ho
    obtain ⟨dec', hdec', hg⟩ := aguard_sound h hd hk
    rcases hg with ⟨hw, hk⟩ | ⟨hw, hk⟩
    · split at hk
      case h_1 c x y hp =>
        obtain ⟨v, q, hq, hv, hy⟩ := apick_sound (P := P) h hdec' (isPick_op hp) hk
        obtain ⟨st2, hk2, hs2, _⟩ := putD_sound h hq hv
        exact ⟨o, v, hoi, .inl ⟨hw, yields_mf hy⟩, st2, _, hk2, hs2, hdec'.put o v⟩
      case h_2 =>
        split at hk
        case h_1 => exact hk.elim
        case h_2 =>
          obtain ⟨v, q, hq, hv, hy⟩ := aq_sound hΓ h hk
          obtain ⟨st2, hk2, hs2, _⟩ := putD_sound h hq hv
          exact ⟨o, v, hoi, .inl ⟨hw, yields_mf hy⟩, st2, _, hk2, hs2, hdec'.put o v⟩
    · obtain ⟨st2, hk2, hs2, _⟩ := putD_sound h hk (undef_rep st)
      exact ⟨o, undef, hoi, .inr ⟨hw, rfl⟩, _, _, hk2, hs2, hdec'.put o undef⟩

theorem astep_sound (hΓ : TysOk P Γ) (h : SRep w0 ob st a w η) {i : Nat} {dec : List (Nat × Bool)} {K : St → List (Nat × Bool) → Prop} (hd : DecOk dec a) (hk : astep P Γ ops.toList i st dec K) {next : Act → World → Prop}
    (hn : ∀ st' dec' a' w' η', K st' dec' → (nbAt xs ops i = false → Below w.heap.size w w') → SRep w0 ob st' a' w' η' → DecOk dec' a' → next a' w') : wpOp P ops NoQ i next a w := by
  unfold astep at hk
  split at hk
  case h_1 => exact hk.elim
  case h_2 o ho =>
    have hoi : ops[i]? = some o := by rw [nth_eq] at ho; simpa using ho
    obtain ⟨dec', hdec', hg⟩ := aguard_sound h hd hk
    unfold wpOp
    simp only [hoi]
    rcases hg with ⟨hw, hk⟩ | ⟨hw, hk⟩
    · rw [if_pos hw]
      refine .inl ?_
      split at hk
      case h_1 c x y hp =>
        obtain ⟨v, q, hq, hv, hy⟩ := apick_sound (P := P) h hdec' (isPick_op hp) hk
        obtain ⟨st2, hk2, hs2, _⟩ := putD_sound h hq hv
        exact wp_of_yields hy (hn _ _ _ _ _ hk2 (fun _ => Below.refl _ _) hs2 (hdec'.put o v))
      case h_2 =>
        split at hk
        case h_1 c hc =>
          refine acallR_sound h hk (isCall_op hc) (fun v x st' w' η' hK _ hb hs' hv => ?_)
          obtain ⟨st2, hk2, hs2, _⟩ := putD_sound hs' hK hv
          exact hn _ _ _ _ _ hk2 (fun _ => hb) hs2 (hdec'.put o v)
        case h_2 =>
          split at hk
          case h_2 =>
            obtain ⟨v, q, hq, hv, hy⟩ := aq_sound hΓ h hk
            obtain ⟨st2, hk2, hs2, _⟩ := putD_sound h hq hv
            exact wp_of_yields hy (hn _ _ _ _ _ hk2 (fun _ => Below.refl _ _) hs2 (hdec'.put o v))
          case h_1 hnq =>
            have hnb : nbAt xs ops i = false → nbOp o = false := fun h => by simp only [nbAt, hoi, Bool.or_eq_false_iff] at h; exact h.1
            obtain ⟨v, x, st', w', η', hK, _, hs', hv, hrun, hbw⟩ := an_sound hΓ h hk
            obtain ⟨st2, hk2, hs2, _⟩ := putD_sound hs' hK hv
            have := hn _ _ _ _ _ hk2 (fun hf => hbw (hnb hf)) hs2 (hdec'.put o v)
            unfold Oper.wp
            rcases hrun with hrun | ⟨hrun, rfl⟩
            · rw [hrun, Oper.upon_value]; exact this
            · rw [hrun, Oper.upon_skip]; exact this
    · rw [if_neg (by rw [hw]; simp)]
      obtain ⟨st2, hk2, hs2, _⟩ := putD_sound h hk (undef_rep st)
      exact hn _ _ _ _ _ hk2 (fun _ => Below.refl _ _) hs2 (hdec'.put o undef)

theorem astepI_sound {i : Nat} (hxs : xs.contains i = true) (h : SRep w0 ob st a w η) {dec : List (Nat × Bool)} {K : St → List (Nat × Bool) → Prop} (hd : DecOk dec a) (hk : astepI P ops.toList i st dec K) {next : Act → World → Prop}
    (hn : ∀ st' dec' a' w' η', K st' dec' → SRep w0 ob st' a' w' η' → DecOk dec' a' → next a' w') : wpOp P ops NoQ i (fun a' w' => (nbAt xs ops i = false → Below w.heap.size w w') ∧ next a' w') a w := by
  unfold astepI at hk
  split at hk
  case h_1 => exact hk.elim
  case h_2 o ho =>
    have hoi : ops[i]? = some o := by rw [nth_eq] at ho; simpa using ho
    have hnb : ¬ nbAt xs ops i = false := fun h => by
      simp only [nbAt, hoi, Bool.or_eq_false_iff] at h
      rw [hxs] at h
      exact absurd h.2 (by simp)
    split at hk
    case h_1 => exact hk.elim
    case h_2 hg =>
      split at hk
      case h_2 => exact hk.elim
      case h_1 c hc =>
        have hw : Region.wanted o (yielded ops a.tmps) = true := by unfold Region.wanted; rw [hg]
        unfold wpOp
        simp only [hoi]
        rw [if_pos hw]
        refine .inl ?_
        refine acall_sound h hk (isCall_op hc) (fun v x st' w' η' hK _ hs' hv => ?_)
        obtain ⟨st2, hk2, hs2, _⟩ := putD_sound hs' hK hv
        exact ⟨fun h => absurd h hnb, hn _ _ _ _ _ hk2 hs2 (hd.put o v)⟩

theorem clo_none (ops : Array Oper) : Clo .any ops (Array.replicate ops.size false) := fun j o _ hj => by
  simp only [Array.getD_eq_getD_getElem?, Array.getElem?_replicate] at hj
  split at hj <;> simp at hj

theorem apl_sound (hΓ : TysOk P Γ) (hsel : Region.noSelect ops = true) {K : St → Prop} : ∀ (p : Plan) (listed : Array Bool) (todo : Option (List Nat)) (f : Nat) (st : St) (dec : List (Nat × Bool)) (a : Act) (w : World) (η : Env),
    p.ok xs ops listed todo = true → p.deep ≤ f → Clo .any ops listed → (∀ t, todo = some t → ∀ i ∈ t, i ∈ Region.ready .any ops listed) → SRep w0 ob st a w η → DecOk dec a → apl P Γ ops.toList K p st dec →
      (todo = none → wpG xs P .any ops (Fin w0 ob K) f listed a w) ∧
      ∀ t, todo = some t → ∃ f', f = f' + 1 ∧ ∀ i ∈ t, wpOp P ops NoQ i (fun a' w' => (nbAt xs ops i = false → Below w.heap.size w w') ∧ wpG xs P .any ops (Fin w0 ob K) f' (listed.setIfInBounds i true) a' w') a w
  | .done, listed, some t, f, st, dec, a, w, η, hok, _, hclo, htd, h, hd, hk => by simp [Plan.ok] at hok
  | .done, listed, none, f, st, dec, a, w, η, hok, _, hclo, htd, h, hd, hk => by
    have hr : Region.ready .any ops listed = [] := by simpa [Plan.ok] using hok
    refine ⟨fun _ => ?_, fun t ht => by cases ht⟩
    cases f with
    | zero => exact ⟨hr, st, η, hk, h⟩
    | succ f => exact ⟨fun _ => ⟨st, η, hk, h⟩, fun i hi => by rw [hr] at hi; cases hi⟩
  | .q i p, listed, some t, f, st, dec, a, w, η, hok, _, hclo, htd, h, hd, hk => by simp [Plan.ok] at hok
  | .q i p, listed, none, f, st, dec, a, w, η, hok, hf, hclo, htd, h, hd, hk => by
    simp only [Plan.ok, Bool.and_eq_true] at hok
    obtain ⟨⟨⟨h1, h2⟩, hcalm⟩, h3⟩ := hok
    have hrdy : i ∈ Region.ready .any ops listed := by simpa using h1
    obtain ⟨o, v, hoi, hy, st', dec', hk', hs', hd'⟩ := aread_sound hΓ h hd (show aread Γ ops.toList i st dec (apl P Γ ops.toList K p) from hk)
    simp only [Plan.deep] at hf
    obtain ⟨f', rfl⟩ : ∃ f', f = f' + 1 := ⟨f - 1, by omega⟩
    refine ⟨fun _ => ?_, fun t ht => by cases ht⟩
    have := (apl_sound hΓ hsel p _ none f' st' dec' _ w η h3 (by omega) (hclo.set hrdy) (fun t ht => by cases ht) hs' hd' hk').1 rfl
    exact wpG_first hoi (Region.noSelect_spec hsel) f' listed a w (Region.free_spec hoi h2) hrdy hy hclo hcalm this
  | .last i p, listed, todo, f, st, dec, a, w, η, hok, hf, hclo, htd, h, hd, hk => by
    simp only [Plan.ok, Bool.and_eq_true] at hok
    obtain ⟨h1, h3⟩ := hok
    simp only [Plan.deep] at hf
    obtain ⟨f', rfl⟩ : ∃ f', f = f' + 1 := ⟨f - 1, by omega⟩
    have hone : todo.getD (Region.ready .any ops listed) = [i] := by
      split at h1
      case h_1 j hj => rw [hj, eq_of_beq h1]
      case h_2 => cases h1
    have hrdy : i ∈ Region.ready .any ops listed := by
      cases todo with
      | none => simp only [Option.getD_none] at hone; rw [hone]; simp
      | some t => simp only [Option.getD_some] at hone; subst hone; exact htd _ rfl i (by simp)
    have key : wpOp P ops NoQ i (fun a' w' => (nbAt xs ops i = false → Below w.heap.size w w') ∧ wpG xs P .any ops (Fin w0 ob K) f' (listed.setIfInBounds i true) a' w') a w :=
      astep_sound hΓ h hd (show astep P Γ ops.toList i st dec (apl P Γ ops.toList K p) from hk) (fun st' dec' a' w' η' hk' hb hs' hd' =>
        ⟨hb, (apl_sound hΓ hsel p _ none f' st' dec' a' w' η' h3 (by omega) (hclo.set hrdy) (fun t ht => by cases ht) hs' hd' hk').1 rfl⟩)
    refine ⟨fun ht => ?_, fun t ht => ⟨f', rfl, fun j hj => ?_⟩⟩
    · subst ht
      simp only [Option.getD_none] at hone
      refine ⟨fun h0 => (by rw [h0] at hone; cases hone), fun j hj => ?_⟩
      rw [hone] at hj
      obtain rfl := List.mem_singleton.1 hj
      exact key
    · subst ht
      simp only [Option.getD_some] at hone
      subst hone
      obtain rfl := List.mem_singleton.1 hj
      exact key
  | .alt i p rest, listed, todo, f, st, dec, a, w, η, hok, hf, hclo, htd, h, hd, hk => by
    simp only [Plan.ok] at hok
    simp only [Plan.deep] at hf
    obtain ⟨f', rfl⟩ : ∃ f', f = f' + 1 := ⟨f - 1, by omega⟩
    split at hok
    case h_2 => cases hok
    case h_1 j t hj =>
      simp only [Bool.and_eq_true] at hok
      obtain ⟨⟨h1, h3⟩, h4⟩ := hok
      obtain rfl := eq_of_beq h1
      obtain ⟨hk1, hk2⟩ := (show astep P Γ ops.toList j st dec (apl P Γ ops.toList K p) ∧ apl P Γ ops.toList K rest st dec from hk)
      have hrdys : ∀ i ∈ j :: t, i ∈ Region.ready .any ops listed := by
        cases todo with
        | none => simp only [Option.getD_none] at hj; rw [hj]; exact fun i hi => hi
        | some t' => simp only [Option.getD_some] at hj; subst hj; exact htd _ rfl
      have hrdy := hrdys j (by simp)
      have key : wpOp P ops NoQ j (fun a' w' => (nbAt xs ops j = false → Below w.heap.size w w') ∧ wpG xs P .any ops (Fin w0 ob K) f' (listed.setIfInBounds j true) a' w') a w :=
        astep_sound hΓ h hd hk1 (fun st' dec' a' w' η' hk' hb hs' hd' =>
          ⟨hb, (apl_sound hΓ hsel p _ none f' st' dec' a' w' η' h3 (by omega) (hclo.set hrdy) (fun t ht => by cases ht) hs' hd' hk').1 rfl⟩)
      obtain ⟨f2, hf2, hrest⟩ := (apl_sound hΓ hsel rest listed (some t) (f' + 1) st dec a w η h4 (by omega) hclo (fun t' ht' => by obtain rfl := Option.some.inj ht'; exact fun i hi => hrdys i (by simp [hi])) h hd hk2).2 t rfl
      obtain rfl : f' = f2 := by omega
      have all : ∀ i ∈ j :: t, wpOp P ops NoQ i (fun a' w' => (nbAt xs ops i = false → Below w.heap.size w w') ∧ wpG xs P .any ops (Fin w0 ob K) f' (listed.setIfInBounds i true) a' w') a w := fun i hi => by
        rcases List.mem_cons.1 hi with rfl | hi
        · exact key
        · exact hrest i hi
      refine ⟨fun ht => ?_, fun t' ht => ⟨f', rfl, fun i hi => ?_⟩⟩
      · subst ht
        simp only [Option.getD_none] at hj
        refine ⟨fun h0 => (by rw [h0] at hj; cases hj), fun i hi => ?_⟩
        rw [hj] at hi
        exact all i hi
      · subst ht
        simp only [Option.getD_some] at hj
        subst hj
        exact all i hi

  | .inl i p, listed, todo, f, st, dec, a, w, η, hok, hf, hclo, htd, h, hd, hk => by
    simp only [Plan.ok, Bool.and_eq_true] at hok
    obtain ⟨⟨hxs, h1⟩, h3⟩ := hok
    simp only [Plan.deep] at hf
    obtain ⟨f', rfl⟩ : ∃ f', f = f' + 1 := ⟨f - 1, by omega⟩
    have hone : todo.getD (Region.ready .any ops listed) = [i] := by
      split at h1
      case h_1 j hj => rw [hj, eq_of_beq h1]
      case h_2 => cases h1
    have hrdy : i ∈ Region.ready .any ops listed := by
      cases todo with
      | none => simp only [Option.getD_none] at hone; rw [hone]; simp
      | some t => simp only [Option.getD_some] at hone; subst hone; exact htd _ rfl i (by simp)
    have key : wpOp P ops NoQ i (fun a' w' => (nbAt xs ops i = false → Below w.heap.size w w') ∧ wpG xs P .any ops (Fin w0 ob K) f' (listed.setIfInBounds i true) a' w') a w :=
      astepI_sound hxs h hd (show astepI P ops.toList i st dec (apl P Γ ops.toList K p) from hk) (fun st' dec' a' w' η' hk' hs' hd' =>
        (apl_sound hΓ hsel p _ none f' st' dec' a' w' η' h3 (by omega) (hclo.set hrdy) (fun t ht => by cases ht) hs' hd' hk').1 rfl)
    refine ⟨fun ht => ?_, fun t ht => ⟨f', rfl, fun j hj => ?_⟩⟩
    · subst ht
      simp only [Option.getD_none] at hone
      refine ⟨fun h0 => (by rw [h0] at hone; cases hone), fun j hj => ?_⟩
      rw [hone] at hj
      obtain rfl := List.mem_singleton.1 hj
      exact key
    · subst ht
      simp only [Option.getD_some] at hone
      subst hone
      obtain rfl := List.mem_singleton.1 hj
      exact key
  | .alti i p rest, listed, todo, f, st, dec, a, w, η, hok, hf, hclo, htd, h, hd, hk => by
    simp only [Plan.ok] at hok
    simp only [Plan.deep] at hf
    obtain ⟨f', rfl⟩ : ∃ f', f = f' + 1 := ⟨f - 1, by omega⟩
    split at hok
    case h_2 => cases hok
    case h_1 j t hj =>
      simp only [Bool.and_eq_true] at hok
      obtain ⟨⟨⟨hxs, h1⟩, h3⟩, h4⟩ := hok
      obtain rfl := eq_of_beq h1
      obtain ⟨hk1, hk2⟩ := (show astepI P ops.toList j st dec (apl P Γ ops.toList K p) ∧ apl P Γ ops.toList K rest st dec from hk)
      have hrdys : ∀ i ∈ j :: t, i ∈ Region.ready .any ops listed := by
        cases todo with
        | none => simp only [Option.getD_none] at hj; rw [hj]; exact fun i hi => hi
        | some t' => simp only [Option.getD_some] at hj; subst hj; exact htd _ rfl
      have hrdy := hrdys j (by simp)
      have key : wpOp P ops NoQ j (fun a' w' => (nbAt xs ops j = false → Below w.heap.size w w') ∧ wpG xs P .any ops (Fin w0 ob K) f' (listed.setIfInBounds j true) a' w') a w :=
        astepI_sound hxs h hd hk1 (fun st' dec' a' w' η' hk' hs' hd' =>
          (apl_sound hΓ hsel p _ none f' st' dec' a' w' η' h3 (by omega) (hclo.set hrdy) (fun t ht => by cases ht) hs' hd' hk').1 rfl)
      obtain ⟨f2, hf2, hrest⟩ := (apl_sound hΓ hsel rest listed (some t) (f' + 1) st dec a w η h4 (by omega) hclo (fun t' ht' => by obtain rfl := Option.some.inj ht'; exact fun i hi => hrdys i (by simp [hi])) h hd hk2).2 t rfl
      obtain rfl : f' = f2 := by omega
      have all : ∀ i ∈ j :: t, wpOp P ops NoQ i (fun a' w' => (nbAt xs ops i = false → Below w.heap.size w w') ∧ wpG xs P .any ops (Fin w0 ob K) f' (listed.setIfInBounds i true) a' w') a w := fun i hi => by
        rcases List.mem_cons.1 hi with rfl | hi
        · exact key
        · exact hrest i hi
      refine ⟨fun ht => ?_, fun t' ht => ⟨f', rfl, fun i hi => ?_⟩⟩
      · subst ht
        simp only [Option.getD_none] at hj
        refine ⟨fun h0 => (by rw [h0] at hj; cases hj), fun i hi => ?_⟩
        rw [hj] at hi
        exact all i hi
      · subst ht
        simp only [Option.getD_some] at hj
        subst hj
        exact all i hi

/-- a drawn region by a plan -/
theorem ADraw.planX (xs : List Nat) (hΓ : TysOk P Γ) (hm : P.follows .mixedOrders = true) {K : St → Prop} (p : Plan) (hp : (Region.noSelect ops && p.ok xs ops (Array.replicate ops.size false) none && Nat.ble p.deep ops.size) = true)
    (hk : apl P Γ ops.toList K p st []) : ADraw P ops st K := by
  refine ⟨fun id w0 ob a w ⟨η, h⟩ => ?_⟩
  simp only [Bool.and_eq_true] at hp
  obtain ⟨⟨h1, h2⟩, h3⟩ := hp
  refine wp_region_any hm (wpG_any (xs := xs) (K := Fin w0 ob K) (fun a w ⟨st', η', hk', hs'⟩ => ⟨rfl, st', hk', η', hs'⟩) _ _ _ _ ?_)
  exact (apl_sound hΓ h1 p _ none _ st [] a _ η h2 (Nat.le_of_ble_eq_true h3) (clo_none _) (fun t ht => by cases ht) (h.mono (below_drawn w)) (fun d b hd => by simp [look] at hd) hk).1 rfl

theorem ADraw.plan (hΓ : TysOk P Γ) (hm : P.follows .mixedOrders = true) {K : St → Prop} (p : Plan) (hp : (Region.noSelect ops && p.ok [] ops (Array.replicate ops.size false) none && Nat.ble p.deep ops.size) = true)
    (hk : apl P Γ ops.toList K p st []) : ADraw P ops st K := ADraw.planX [] hΓ hm p hp hk
end
end Go.Aw
