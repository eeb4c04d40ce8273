/- What a function hands back; the contract of a whole function. -/
import Derived.Test.YtkomndcehdneaaaGreatM1
import Derived.Test.YtkomndcehdneaaaGreatProg
namespace Go.Aw
open Go.RowKit

mutual
/-- the rows that a result leads to, in their order (an inner row by its place) -/
def refs : AVal → List (Nat × Option Nat)
  | .own k => [(k, none)]
  | .sub k i => [(k, some i)]
  | .ag l | .tu l => refsAll l
  | _ => []
def refsAll : List AVal → List (Nat × Option Nat)
  | [] => []
  | a :: r => refs a ++ refsAll r
end

mutual
/-- the result with its rows numbered from n on -/
def canon (n : Nat) : AVal → Option (AVal × Nat)
  | .c v => some (.c v, n)
  | .nul => some (.nul, n)
  | .t t => some (.t t, n)
  | .own _ | .sub _ _ => some (.own n, n + 1)
  | .ag l => match canons n l with
    | some (l', m) => some (.ag l', m)
    | none => none
  | .tu l => match canons n l with
    | some (l', m) => some (.tu l', m)
    | none => none
  | _ => none
def canons (n : Nat) : List AVal → Option (List AVal × Nat)
  | [] => some ([], n)
  | a :: r => match canon n a with
    | none => none
    | some (a', m) => match canons m r with
      | none => none
      | some (r', q) => some (a' :: r', q)
end

def rowOf (hp : List (Nat × ARow)) (p : Nat × Option Nat) : Option ARow :=
  match look hp p.1 with
  | some (.cells ..) => none
  | some r => match p.2 with
    | none => some r
    | some i => match r with
      | .rows _ e1 true m => some (.ints e1 .i64 (m.getD i []))
      | _ => none
  | none => none

def rowsOf (hp : List (Nat × ARow)) (n : Nat) : List (Nat × Option Nat) → Option (List (Nat × ARow))
  | [] => some []
  | p :: r => match rowOf hp p with
    | none => none
    | some x => match rowsOf hp (n + 1) r with
      | none => none
      | some l => some ((n, x) :: l)

def fresh (k : Nat) : List (Nat × Option Nat) → Bool
  | [] => true
  | (j, _) :: r => match Nat.beq j k with | true => false | false => fresh k r

def differ : List (Nat × Option Nat) → Bool
  | [] => true
  | (k, _) :: r => match fresh k r with | true => differ r | false => false

def afin (st : St) (x : AVal) (post : AVal → List (Nat × ARow) → Prop) : Prop :=
  match canon 0 x with
  | none => False
  | some (x', _) => match differ (refs x) with
    | false => False
    | true => match rowsOf st.hp 0 (refs x) with
      | none => False
      | some h => post x' h

def ares (Γ : Tys) (st : St) : List ResultVar → (List AVal → Prop) → Prop
  | [], K => K []
  | .tmp t :: r, K => match lk st t with
    | some x => ares Γ st r fun l => K (x :: l)
    | none => False
  | .cell p t :: r, K => match lk st p with
    | some y => match isKey st.hp (match y with | .ptr k _ => k | _ => st.nx) with
      | true => aload Γ st t y fun x => ares Γ st r fun l => K (x :: l)
      | false => False
    | none => False

def aret (Γ : Tys) (st : St) (rs : List ResultVar) (post : AVal → List (Nat × ARow) → Prop) : Prop :=
  ares Γ st rs fun l => match l with
    | [x] => afin st x post
    | l => afin st (.tu l) post

section
variable {P : Program} {Γ : Tys} {w0 : Base} {w w' : World} {ob : Nat → Prop} {st : St} {a : Act} {η : Env}

def valOf (η : Env) (p : Nat × Option Nat) : Value :=
  match p.2 with
  | none => η.val p.1
  | some i => (η.cel p.1).getD i undef

def celOf (hp : List (Nat × ARow)) (η : Env) (p : Nat × Option Nat) : List Value :=
  match p.2 with
  | none => η.cel p.1
  | some i => match look hp p.1 with
    | some (.rows _ _ _ m) => (m.getD i []).map (Value.int .i64)
    | _ => []

def ηret (hp : List (Nat × ARow)) (η : Env) (R : List (Nat × Option Nat)) : Env := ⟨fun j => valOf η (R.getD j (0, none)), fun j => celOf hp η (R.getD j (0, none))⟩

theorem rowsOf_spec {hp : List (Nat × ARow)} : ∀ {R : List (Nat × Option Nat)} {n : Nat} {h : List (Nat × ARow)}, rowsOf hp n R = some h →
    h.length = R.length ∧ (∀ j, j < n → look h j = none) ∧ ∀ j, look h (n + j) = (R[j]?).bind (rowOf hp)
  | [], n, h, hr => by simp only [rowsOf, Option.some.injEq] at hr; subst hr; exact ⟨rfl, fun _ _ => rfl, fun j => by simp [look]⟩
  | p :: R, n, h, hr => by
    simp only [rowsOf] at hr
    cases hp1 : rowOf hp p with
    | none => rw [hp1] at hr; cases hr
    | some x =>
      rw [hp1] at hr
      simp only at hr
      cases hl : rowsOf hp (n + 1) R with
      | none => rw [hl] at hr; cases hr
      | some l =>
        rw [hl] at hr
        simp only [Option.some.injEq] at hr
        subst hr
        obtain ⟨h1, h2, h3⟩ := rowsOf_spec hl
        refine ⟨by simp [h1], fun j hj => ?_, fun j => ?_⟩
        · rw [look_cons, if_neg (by omega)]; exact h2 j (by omega)
        · rw [look_cons]
          match j with
          | 0 => simp [hp1]
          | j + 1 =>
            rw [if_neg (by omega)]
            have := h3 j
            rw [show n + (j + 1) = n + 1 + j by omega, this]
            simp

theorem fresh_spec {k : Nat} : ∀ {R : List (Nat × Option Nat)}, fresh k R = true → ∀ p, p ∈ R → p.1 ≠ k
  | [], _, p, hp => by simp at hp
  | (j, o) :: R, h, p, hp => by
    simp only [fresh] at h
    split at h
    case h_1 => cases h
    case h_2 hb =>
      rcases List.mem_cons.1 hp with rfl | hp
      · exact fun e => by simp only at e; rw [e, Nat.beq_refl] at hb; cases hb
      · exact fresh_spec h p hp

theorem differ_spec : ∀ {R : List (Nat × Option Nat)}, differ R = true → ∀ (i j : Nat) (p q : Nat × Option Nat), R[i]? = some p → R[j]? = some q → i ≠ j → p.1 ≠ q.1
  | [], _, i, j, p, q, hi, _, _ => by simp at hi
  | (k, o) :: R, h, i, j, p, q, hi, hj, hne => by
    simp only [differ] at h
    split at h
    case h_2 => cases h
    case h_1 hf =>
      match i, j with
      | 0, 0 => exact absurd rfl hne
      | 0, j + 1 => simp at hi hj; subst hi; exact Ne.symm (fresh_spec hf q (List.mem_of_getElem? hj))
      | i + 1, 0 => simp at hi hj; subst hj; exact fresh_spec hf p (List.mem_of_getElem? hi)
      | i + 1, j + 1 => simp at hi hj; exact differ_spec h i j p q hi hj (by omega)

/-- an inner row's place is within the row -/
def inOk (η : Env) (p : Nat × Option Nat) : Prop := ∀ i, p.2 = some i → i < (η.cel p.1).length

theorem rowOf_rep {B : Nat} {hp : List (Nat × ARow)} {nx : Nat} (hh : HRep w B ob hp nx η) {R : List (Nat × Option Nat)} {j : Nat} {p : Nat × Option Nat} (hj : R[j]? = some p) {r : ARow} (hr : rowOf hp p = some r) (hin : inOk η p)
    {bad' : Nat → Prop} (hk : Keeps w (badOf ob hp η) w bad') {hp' : List (Nat × ARow)} {nx' : Nat} :
    RowRep w B bad' hp' nx' (ηret hp η R) j r ∧ (∃ r0, look hp p.1 = some r0 ∧ (∀ b, b ∈ bsOf (ηret hp η R) j r → b ∈ bsOf η p.1 r0)) ∧ (bsOf (ηret hp η R) j r).Nodup ∧ r.kind < 4 := by
  have hR : R.getD j (0, none) = p := getD_of hj
  have hv : (ηret hp η R).val j = valOf η p := by simp [ηret, hj]
  have hc : (ηret hp η R).cel j = celOf hp η p := by simp [ηret, hj]
  obtain ⟨k, o⟩ := p
  unfold rowOf at hr
  split at hr
  case h_1 => cases hr
  case h_3 => cases hr
  case h_2 r0 hnc hlk0 =>
    have hlk : look hp k = some r0 := hlk0
    have hrow := hh.row k r0 hlk
    have hnd := hh.nodup k r0 hlk
    split at hr
    case h_1 ho =>
      simp only at ho
      subst ho
      simp only [Option.some.injEq] at hr
      subst hr
      have hbs : bsOf (ηret hp η R) j r0 = bsOf η k r0 := by simp only [bsOf, hv, hc, valOf, celOf]
      refine ⟨?_, ⟨r0, hlk, fun b hb => by rwa [hbs] at hb⟩, by rw [hbs]; exact hnd, ?_⟩
      · match r0 with
        | .ints e kd l => simp only [RowRep, OwnInts, hv, hc]; exact hrow
        | .rows e e1 true m => simp only [RowRep, hv, hc]; exact hrow
        | .rows e e1 false m => simp only [RowRep, hv, hc]; exact ⟨hrow.1, F2.imp (fun _ _ _ ho => ho.keeps hk) hrow.2⟩
        | .cells e l => exact (hnc e l rfl).elim
        | .recs e s L =>
          obtain ⟨g1, css, g2, g3⟩ := hrow
          simp only [RowRep, hv, hc]
          exact ⟨g1, css, g2, F2.imp (fun _ _ _ ho => ho.keeps hk) g3⟩
      · match r0 with
        | .ints .. => simp [ARow.kind]
        | .rows _ _ true _ => simp [ARow.kind]
        | .rows _ _ false _ => simp [ARow.kind]
        | .recs .. => simp [ARow.kind]
        | .cells e l => exact (hnc e l rfl).elim
    case h_2 i ho =>
      simp only at ho
      subst ho
      split at hr
      case h_2 => cases hr
      case h_1 e e1 m =>
        simp only [Option.some.injEq] at hr
        subst hr
        have hi := hin i rfl
        simp only at hi
        obtain ⟨v, hvi⟩ : ∃ v, (η.cel k)[i]? = some v := ⟨_, List.getElem?_eq_getElem hi⟩
        obtain ⟨l, hl, ho⟩ := F2.at' hrow.2 hvi
        have hv' : (ηret hp η R).val j = v := by rw [hv]; exact getD_of hvi
        have hc' : (ηret hp η R).cel j = l.map (Value.int .i64) := by rw [hc]; simp only [celOf, hlk]; rw [getD_of hl]
        rw [getD_of hl]
        have hbs : bsOf (ηret hp η R) j (.ints e1 .i64 l) = blk v := by simp [bsOf, ARow.kind, hv']
        refine ⟨?_, ⟨_, hlk, fun b hb => ?_⟩, ?_, by simp [ARow.kind]⟩
        · simp only [RowRep, hv', hc']; exact ⟨ho, trivial⟩
        · rw [hbs] at hb
          simp only [bsOf, ARow.kind, if_true]
          exact List.mem_append.2 (.inr (List.mem_flatMap.2 ⟨v, List.mem_of_getElem? hvi, hb⟩))
        · rw [hbs]
          have hflat : ((η.cel k).flatMap blk).Nodup := by
            simp only [bsOf, ARow.kind, if_true] at hnd
            exact (List.nodup_append.1 hnd).2.1
          have hsub : (blk v).Sublist ((η.cel k).flatMap blk) := by
            obtain ⟨s, t, hst⟩ := List.append_of_mem (List.mem_of_getElem? hvi)
            rw [hst]
            simp only [List.flatMap_append, List.flatMap_cons]
            exact (List.sublist_append_left _ _).trans (List.sublist_append_right _ _)
          exact hflat.sublist hsub

mutual
theorem canon_rep {hp h : List (Nat × ARow)} {nx : Nat} {bad' : Nat → Prop} (hk : Keeps w (badOf ob hp η) w bad') {R : List (Nat × Option Nat)} (hlen : h.length = R.length) (hrows : ∀ j, look h j = (R[j]?).bind (rowOf hp))
    (hkind : ∀ (j : Nat) (p : Nat × Option Nat) (r : ARow), R[j]? = some p → rowOf hp p = some r → r.kind < 4) : ∀ (x : AVal) {n n' : Nat} {x' : AVal} {v : Value}, canon n x = some (x', n') → (∀ j, j < (refs x).length → R[n + j]? = (refs x)[j]?) → (∀ p, p ∈ refs x → ∃ r, rowOf hp p = some r) →
      VRep w (badOf ob hp η) hp nx η x v → n' = n + (refs x).length ∧ VRep w bad' h h.length (ηret hp η R) x' v
  | .c y, n, n', x', v, hc, _, _, hv => by simp only [canon, Option.some.injEq, Prod.mk.injEq] at hc; obtain ⟨rfl, rfl⟩ := hc; exact ⟨by simp [refs], hv⟩
  | .t t, n, n', x', v, hc, _, _, hv => by simp only [canon, Option.some.injEq, Prod.mk.injEq] at hc; obtain ⟨rfl, rfl⟩ := hc; exact ⟨by simp [refs], TRep.keeps hk hv⟩
  | .nul, n, n', x', v, hc, _, _, hv => by simp only [canon, Option.some.injEq, Prod.mk.injEq] at hc; obtain ⟨rfl, rfl⟩ := hc; exact ⟨by simp [refs], hv⟩
  | .own k, n, n', x', v, hc, hR, hro, hv => by
    simp only [canon, Option.some.injEq, Prod.mk.injEq] at hc
    obtain ⟨rfl, rfl⟩ := hc
    have h0 : R[n]? = some (k, none) := by simpa [refs] using hR 0 (by simp [refs])
    refine ⟨by simp [refs], ?_, fun r hr => ?_⟩
    · rw [hlen]; exact (List.getElem?_eq_some_iff.1 h0).1
    · rw [hrows, h0] at hr
      simp only [Option.bind_some] at hr
      refine ⟨hkind n _ r h0 hr, ?_⟩
      obtain ⟨r1, h1⟩ := hro (k, none) (by simp [refs])
      have : ∃ r0, look hp k = some r0 := by
        unfold rowOf at h1
        cases hl : look hp k with
        | none => rw [hl] at h1; cases h1
        | some r0 => exact ⟨r0, rfl⟩
      obtain ⟨r0, hr0⟩ := this
      rw [(hv.2 r0 hr0).2]
      simp [ηret, h0, valOf]
  | .sub k i, n, n', x', v, hc, hR, hro, hv => by
    simp only [canon, Option.some.injEq, Prod.mk.injEq] at hc
    obtain ⟨rfl, rfl⟩ := hc
    have h0 : R[n]? = some (k, some i) := by simpa [refs] using hR 0 (by simp [refs])
    refine ⟨by simp [refs], ?_, fun r hr => ?_⟩
    · rw [hlen]; exact (List.getElem?_eq_some_iff.1 h0).1
    · rw [hrows, h0] at hr
      simp only [Option.bind_some] at hr
      refine ⟨hkind n _ r h0 hr, ?_⟩
      obtain ⟨r1, h1⟩ := hro (k, some i) (by simp [refs])
      have : ∃ r0, look hp k = some r0 := by
        unfold rowOf at h1
        cases hl : look hp k with
        | none => rw [hl] at h1; cases h1
        | some r0 => exact ⟨r0, rfl⟩
      obtain ⟨r0, hr0⟩ := this
      have := (hv.2 r0 hr0).2
      simp [ηret, h0, valOf, this]
  | .ag l, n, n', x', v, hc, hR, hro, hv => by
    simp only [canon] at hc
    cases hcs : canons n l with
    | none => rw [hcs] at hc; cases hc
    | some q =>
      obtain ⟨l', m⟩ := q
      rw [hcs] at hc
      simp only [Option.some.injEq, Prod.mk.injEq] at hc
      obtain ⟨rfl, rfl⟩ := hc
      obtain ⟨cs, rfl, hr⟩ := hv
      obtain ⟨h1, h2⟩ := canons_rep hk hlen hrows hkind l hcs (by simpa [refs] using hR) (by simpa [refs] using hro) hr
      exact ⟨by simpa [refs] using h1, cs, rfl, h2⟩
  | .tu l, n, n', x', v, hc, hR, hro, hv => by
    simp only [canon] at hc
    cases hcs : canons n l with
    | none => rw [hcs] at hc; cases hc
    | some q =>
      obtain ⟨l', m⟩ := q
      rw [hcs] at hc
      simp only [Option.some.injEq, Prod.mk.injEq] at hc
      obtain ⟨rfl, rfl⟩ := hc
      obtain ⟨cs, rfl, hr⟩ := hv
      obtain ⟨h1, h2⟩ := canons_rep hk hlen hrows hkind l hcs (by simpa [refs] using hR) (by simpa [refs] using hro) hr
      exact ⟨by simpa [refs] using h1, cs, rfl, h2⟩
  | .un, _, _, _, _, hc, _, _, _ => by simp [canon] at hc
  | .ptr _ _, _, _, _, _, hc, _, _, _ => by simp [canon] at hc
  | .subp _ _ _, _, _, _, _, hc, _, _, _ => by simp [canon] at hc
  | .adr _ _, _, _, _, _, hc, _, _, _ => by simp [canon] at hc
  | .rp _ _, _, _, _, _, hc, _, _, _ => by simp [canon] at hc
  | .clo _ _, _, _, _, _, hc, _, _, _ => by simp [canon] at hc
theorem canons_rep {hp h : List (Nat × ARow)} {nx : Nat} {bad' : Nat → Prop} (hk : Keeps w (badOf ob hp η) w bad') {R : List (Nat × Option Nat)} (hlen : h.length = R.length) (hrows : ∀ j, look h j = (R[j]?).bind (rowOf hp))
    (hkind : ∀ (j : Nat) (p : Nat × Option Nat) (r : ARow), R[j]? = some p → rowOf hp p = some r → r.kind < 4) : ∀ (l : List AVal) {n n' : Nat} {l' : List AVal} {vs : List Value}, canons n l = some (l', n') → (∀ j, j < (refsAll l).length → R[n + j]? = (refsAll l)[j]?) → (∀ p, p ∈ refsAll l → ∃ r, rowOf hp p = some r) →
      VReps w (badOf ob hp η) hp nx η l vs → n' = n + (refsAll l).length ∧ VReps w bad' h h.length (ηret hp η R) l' vs
  | [], n, n', l', [], hc, _, _, _ => by simp only [canons, Option.some.injEq, Prod.mk.injEq] at hc; obtain ⟨rfl, rfl⟩ := hc; exact ⟨by simp [refsAll], trivial⟩
  | x :: l, n, n', l', v :: vs, hc, hR, hro, hv => by
    simp only [canons] at hc
    cases hcx : canon n x with
    | none => rw [hcx] at hc; cases hc
    | some q =>
      obtain ⟨x', m⟩ := q
      rw [hcx] at hc
      simp only at hc
      cases hcs : canons m l with
      | none => rw [hcs] at hc; cases hc
      | some q2 =>
        obtain ⟨r', q⟩ := q2
        rw [hcs] at hc
        simp only [Option.some.injEq, Prod.mk.injEq] at hc
        obtain ⟨rfl, rfl⟩ := hc
        simp only [refsAll] at hR hro
        obtain ⟨h1, h2⟩ := canon_rep hk hlen hrows hkind x hcx (fun j hj => by rw [hR j (by simp; omega), List.getElem?_append_left hj]) (fun p hp => hro p (by simp [hp])) hv.1
        subst h1
        obtain ⟨h3, h4⟩ := canons_rep hk hlen hrows hkind l hcs (fun j hj => by
          have := hR ((refs x).length + j) (by simp; omega)
          rw [List.getElem?_append_right (by omega)] at this
          rw [Nat.add_assoc, this]; simp) (fun p hp => hro p (by simp [hp])) hv.2
        exact ⟨by simp only [refsAll, List.length_append]; omega, h2, h4⟩
  | [], _, _, _, _ :: _, _, _, _, hv => hv.elim
  | _ :: _, _, _, _, [], _, _, _, hv => hv.elim
end

mutual
theorem refs_in {hp : List (Nat × ARow)} {nx : Nat} {bad : Nat → Prop} : ∀ (x : AVal) {v : Value}, VRep w bad hp nx η x v → ∀ p, p ∈ refs x → (∃ r, look hp p.1 = some r) → inOk η p
  | .own k, v, hv, p, hp, _ => by simp only [refs, List.mem_singleton] at hp; subst hp; intro i hi; cases hi
  | .sub k i, v, hv, p, hp, ⟨r, hr⟩ => by
    simp only [refs, List.mem_singleton] at hp
    subst hp
    intro j hj
    simp only [Option.some.injEq] at hj
    subst hj
    exact (List.getElem?_eq_some_iff.1 (hv.2 r hr).2).1
  | .ag l, v, ⟨cs, _, hr⟩, p, hp, hl => refsAll_in l hr p (by simpa [refs] using hp) hl
  | .tu l, v, ⟨cs, _, hr⟩, p, hp, hl => refsAll_in l hr p (by simpa [refs] using hp) hl
  | .un, _, _, p, hp, _ => by simp [refs] at hp
  | .c _, _, _, p, hp, _ => by simp [refs] at hp
  | .t _, _, _, p, hp, _ => by simp [refs] at hp
  | .ptr _ _, _, _, p, hp, _ => by simp [refs] at hp
  | .subp _ _ _, _, _, p, hp, _ => by simp [refs] at hp
  | .adr _ _, _, _, p, hp, _ => by simp [refs] at hp
  | .rp _ _, _, _, p, hp, _ => by simp [refs] at hp
  | .clo _ _, _, _, p, hp, _ => by simp [refs] at hp
theorem refsAll_in {hp : List (Nat × ARow)} {nx : Nat} {bad : Nat → Prop} : ∀ (l : List AVal) {vs : List Value}, VReps w bad hp nx η l vs → ∀ p, p ∈ refsAll l → (∃ r, look hp p.1 = some r) → inOk η p
  | [], [], _, p, hp, _ => by simp [refsAll] at hp
  | x :: l, v :: vs, h, p, hp, hl => by
    simp only [refsAll, List.mem_append] at hp
    rcases hp with hp | hp
    · exact refs_in x h.1 p hp hl
    · exact refsAll_in l h.2 p hp hl
  | [], _ :: _, h, _, _, _ => h.elim
  | _ :: _, [], h, _, _, _ => h.elim
end

theorem rowOf_look {hp : List (Nat × ARow)} {p : Nat × Option Nat} {r : ARow} (h : rowOf hp p = some r) : ∃ r0, look hp p.1 = some r0 := by
  unfold rowOf at h
  cases hl : look hp p.1 with
  | none => rw [hl] at h; cases h
  | some r0 => exact ⟨r0, rfl⟩

theorem rowsOf_all {hp : List (Nat × ARow)} : ∀ {R : List (Nat × Option Nat)} {n : Nat} {h : List (Nat × ARow)}, rowsOf hp n R = some h → ∀ p, p ∈ R → ∃ r, rowOf hp p = some r
  | [], _, _, _, p, hm => by simp at hm
  | q :: R, n, h, hr, p, hm => by
    simp only [rowsOf] at hr
    cases hq : rowOf hp q with
    | none => rw [hq] at hr; cases hr
    | some x =>
      rw [hq] at hr
      simp only at hr
      cases hl : rowsOf hp (n + 1) R with
      | none => rw [hl] at hr; cases hr
      | some l =>
        rcases List.mem_cons.1 hm with rfl | hm
        · exact ⟨x, hq⟩
        · exact rowsOf_all hl p hm

theorem rowOf_nc {hp : List (Nat × ARow)} {p : Nat × Option Nat} {r r0 : ARow} (h : rowOf hp p = some r) (h0 : look hp p.1 = some r0) (e : Nat) (l : List AVal) : r0 ≠ .cells e l := by
  rintro rfl
  unfold rowOf at h
  rw [h0] at h
  cases h

/-- what is handed back -/
theorem afin_sound' (h : SRep w0 ob st a w η) {x : AVal} {v : Value} (hv : VR w ob st η x v) {post : AVal → List (Nat × ARow) → Prop} (hk : afin st x post) :
    ∃ x' hr ηr, post x' hr ∧ HRep w w0.B ob hr hr.length ηr ∧ VRep w (fun b => ob b ∨ ownB hr ηr b) hr hr.length ηr x' v ∧
      ∀ b, ownB hr ηr b → ∃ k r, look st.hp k = some r ∧ (∀ e l, r ≠ .cells e l) ∧ b ∈ bsOf η k r := by
  unfold afin at hk
  split at hk
  case h_1 => exact hk.elim
  case h_2 x' m hc =>
    split at hk
    case h_1 => exact hk.elim
    case h_2 hd =>
      split at hk
      case h_1 => exact hk.elim
      case h_2 hr hrs =>
        obtain ⟨hlen, _, hlk⟩ := rowsOf_spec hrs
        have hlk' : ∀ j, look hr j = ((refs x)[j]?).bind (rowOf st.hp) := fun j => by simpa using hlk j
        have hall := rowsOf_all hrs
        have hin : ∀ p, p ∈ refs x → inOk η p := fun p hp => by
          obtain ⟨r, h1⟩ := hall p hp
          exact refs_in x hv p hp (rowOf_look h1)
        have hget : ∀ j r, look hr j = some r → ∃ p, (refs x)[j]? = some p ∧ rowOf st.hp p = some r := fun j r hj => by
          rw [hlk'] at hj
          exact Option.bind_eq_some_iff.1 hj
        have hkeep0 : ∀ bad', (∀ b, bad' b → badOf ob st.hp η b) → Keeps w (badOf ob st.hp η) w bad' := fun bad' hs b o y hb hcell => ⟨fun h1 => hb (hs b h1), hcell⟩
        -- the result's rows are rows of the call's own
        have hown : ∀ b, ownB hr (ηret st.hp η (refs x)) b → ownB st.hp η b := fun b ⟨j, r, hj, hb⟩ => by
          obtain ⟨p, h1, h2⟩ := hget j r hj
          obtain ⟨_, ⟨r0, h3, h4⟩, _, _⟩ := rowOf_rep (bad' := fun _ => False) (hp' := []) (nx' := 0) h.heap h1 h2 (hin p (List.mem_of_getElem? h1)) (Keeps.none w _)
          exact ⟨p.1, r0, h3, h4 b hb⟩
        have hown2 : ∀ b, ownB hr (ηret st.hp η (refs x)) b → ∃ k r, look st.hp k = some r ∧ (∀ e l, r ≠ .cells e l) ∧ b ∈ bsOf η k r := fun b ⟨j, r, hj, hb⟩ => by
          obtain ⟨p, h1, h2⟩ := hget j r hj
          obtain ⟨_, ⟨r0, h3, h4⟩, _, _⟩ := rowOf_rep (bad' := fun _ => False) (hp' := []) (nx' := 0) h.heap h1 h2 (hin p (List.mem_of_getElem? h1)) (Keeps.none w _)
          exact ⟨p.1, r0, h3, rowOf_nc h2 h3, h4 b hb⟩
        have hkeep := hkeep0 (fun b => ob b ∨ ownB hr (ηret st.hp η (refs x)) b) (fun b hb => hb.imp id (hown b))
        have hrep : ∀ j r, look hr j = some r → ∃ p, (refs x)[j]? = some p ∧ RowRep w w0.B (fun b => ob b ∨ ownB hr (ηret st.hp η (refs x)) b) hr hr.length (ηret st.hp η (refs x)) j r ∧
            (∃ r0, look st.hp p.1 = some r0 ∧ (∀ b, b ∈ bsOf (ηret st.hp η (refs x)) j r → b ∈ bsOf η p.1 r0)) ∧ (bsOf (ηret st.hp η (refs x)) j r).Nodup := fun j r hj => by
          obtain ⟨p, h1, h2⟩ := hget j r hj
          obtain ⟨g1, g2, g3, _⟩ := rowOf_rep (hp' := hr) (nx' := hr.length) h.heap h1 h2 (hin p (List.mem_of_getElem? h1)) hkeep
          exact ⟨p, h1, g1, g2, g3⟩
        refine ⟨x', hr, ηret st.hp η (refs x), hk, ⟨fun j r hj => ?_, fun j r hj => ?_, fun j r j' r' hj hj' hne b hb hm => ?_, fun j r hj => ?_⟩, ?_, hown2⟩
        · obtain ⟨_, _, g, _⟩ := hrep j r hj; exact g
        · obtain ⟨_, _, _, _, g⟩ := hrep j r hj; exact g
        · obtain ⟨p, h1, _, ⟨r0, h2, h3⟩, _⟩ := hrep j r hj
          obtain ⟨p', h1', _, ⟨r0', h2', h3'⟩, _⟩ := hrep j' r' hj'
          exact h.heap.apart p.1 r0 p'.1 r0' h2 h2' (differ_spec hd j j' p p' h1 h1' hne) b (h3 b hb) (h3' b hm)
        · obtain ⟨p, h1, _⟩ := hget j r hj
          rw [hlen]; exact (List.getElem?_eq_some_iff.1 h1).1
        · refine (canon_rep hkeep hlen hlk' (fun j p r h1 h2 => ?_) x hc (fun j _ => by rw [Nat.zero_add]) hall hv).2
          exact (rowOf_rep (bad' := fun _ => False) (hp' := []) (nx' := 0) h.heap h1 h2 (hin p (List.mem_of_getElem? h1)) (Keeps.none w _)).2.2.2

theorem afin_sound (h : SRep w0 ob st a w η) {x : AVal} {v : Value} (hv : VR w ob st η x v) {post : AVal → List (Nat × ARow) → Prop} (hk : afin st x post) :
    ∃ x' hr ηr, post x' hr ∧ HRep w w0.B ob hr hr.length ηr ∧ VRep w (fun b => ob b ∨ ownB hr ηr b) hr hr.length ηr x' v := by
  obtain ⟨x', hr, ηr, h1, h2, h3, _⟩ := afin_sound' h hv hk
  exact ⟨x', hr, ηr, h1, h2, h3⟩

def resOf (tmps : Array Value) (r : ResultVar) : Sem Value :=
  match r with
  | .tmp t => Pure.pure (tmps.getD t undef)
  | .cell p t => do loadVar t (← asAddr (tmps.getD p undef))

theorem ares_sound (hΓ : TysOk P Γ) (h : SRep w0 ob st a w η) : ∀ {rs : List ResultVar} {K : List AVal → Prop}, ares Γ st rs K →
    ∃ xs vs, K xs ∧ VRs w ob st η xs vs ∧ (rs.mapM (resOf a.tmps)).run P w = .ok vs w
  | [], K, hk => ⟨[], [], hk, trivial, by simp⟩
  | .tmp t :: rs, K, hk => by
    simp only [ares] at hk
    cases hx : lk st t with
    | none => rw [hx] at hk; exact hk.elim
    | some x =>
      rw [hx] at hk
      obtain ⟨xs, vs, h1, h2, h3⟩ := ares_sound hΓ h hk
      exact ⟨x :: xs, _ :: vs, h1, ⟨h.tmp hx, h2⟩, by simp [List.mapM_cons, resOf, h3]⟩
  | .cell p t :: rs, K, hk => by
    simp only [ares] at hk
    cases hy : lk st p with
    | none => rw [hy] at hk; exact hk.elim
    | some y =>
      rw [hy] at hk
      simp only at hk
      split at hk
      case h_2 => exact hk.elim
      case h_1 hkey =>
        have hyv := h.tmp hy
        obtain ⟨v, x, hx, hv, hrun⟩ := aload_sound hΓ h hyv hk
        obtain ⟨xs, vs, h1, h2, h3⟩ := ares_sound hΓ h hx
        -- the slot holds an address
        have hptr : ∃ ad, a.tmps.getD p undef = .pointer (some ad) := by
          cases y with
          | ptr k off =>
            simp only at hkey
            unfold isKey at hkey
            cases hr : look st.hp k with
            | none => rw [hr] at hkey; cases hkey
            | some r => obtain ⟨_, b, _, he⟩ := hyv.2 r hr; exact ⟨_, he⟩
          | _ =>
            simp only at hkey
            unfold isKey at hkey
            cases hr : look st.hp st.nx with
            | none => rw [hr] at hkey; cases hkey
            | some r => have := h.heap.lt _ r hr; omega
        obtain ⟨ad, had⟩ := hptr
        have hrun' := hrun w (Below.refl _ _)
        rw [had, run_loadAt] at hrun'
        exact ⟨x :: xs, v :: vs, h1, ⟨hv, h2⟩, by simp [List.mapM_cons, resOf, had, asAddr, hrun', h3]⟩

theorem aret_sound (hΓ : TysOk P Γ) (h : SRep w0 ob st a w η) {fn : Func} {post : AVal → List (Nat × ARow) → Prop} (hk : aret Γ st fn.results.toList post) :
    ∃ v x' hr ηr, (results fn a.tmps).run P w = .ok v w ∧ post x' hr ∧ HRep w w0.B ob hr hr.length ηr ∧ VRep w (fun b => ob b ∨ ownB hr ηr b) hr hr.length ηr x' v := by
  obtain ⟨xs, vs, h1, h2, h3⟩ := ares_sound hΓ h hk
  have hres : (results fn a.tmps).run P w = .ok (if hh : vs.toArray.size = 1 then vs.toArray[0] else .tuple vs.toArray) w := by
    have e : results fn a.tmps = (do
        let vs ← fn.results.mapM (resOf a.tmps)
        Pure.pure (if h : vs.size = 1 then vs[0] else .tuple vs)) := rfl
    rw [e, Array.mapM_eq_mapM_toList]
    simp only [Sem.run_bind, Sem.run_map, h3, Result.andThen_ok, Sem.run_pure]
  have two : ∀ {xs : List AVal} {vs : List Value}, VRs w ob st η xs vs → vs.length ≠ 1 → afin st (.tu xs) post → (results fn a.tmps).run P w = .ok (if hh : vs.toArray.size = 1 then vs.toArray[0] else .tuple vs.toArray) w →
      ∃ v x' hr ηr, (results fn a.tmps).run P w = .ok v w ∧ post x' hr ∧ HRep w w0.B ob hr hr.length ηr ∧ VRep w (fun b => ob b ∨ ownB hr ηr b) hr hr.length ηr x' v := by
    intro xs vs h2 hne hf hres
    obtain ⟨x', hr, ηr, g1, g2, g3⟩ := afin_sound h (x := .tu xs) (v := .tuple vs.toArray) ⟨vs, rfl, h2⟩ hf
    exact ⟨_, x', hr, ηr, by rw [hres, dif_neg (by simpa using hne)], g1, g2, g3⟩
  clear h3
  match xs, vs, h2, h1, hres with
  | [x], [v], h2, h1, hres =>
    obtain ⟨x', hr, ηr, g1, g2, g3⟩ := afin_sound h h2.1 h1
    exact ⟨v, x', hr, ηr, by rw [hres]; rfl, g1, g2, g3⟩
  | [], [], h2, h1, hres => exact two h2 (by simp) h1 hres
  | x :: y :: xs, u :: v :: vs, h2, h1, hres => exact two h2 (by simp) h1 hres

def initSl : Nat → List AVal → List (Nat × AVal)
  | _, [] => []
  | i, a :: r => (i, a) :: initSl (i + 1) r

theorem init_look {bad : Nat → Prop} : ∀ {l : List AVal} {vs : List Value} {n : Nat}, VReps w bad [] 0 η0 l vs → ∀ i x, look (initSl n l) i = some x → ∃ v, n ≤ i ∧ vs[i - n]? = some v ∧ VRep w bad [] 0 η0 x v
  | [], [], n, _, i, x, h => by simp [initSl, look] at h
  | y :: l, v :: vs, n, hr, i, x, h => by
    simp only [initSl] at h
    rw [look_cons] at h
    split at h
    · rename_i hni
      simp only [Option.some.injEq] at h
      subst hni h
      exact ⟨v, Nat.le_refl _, by simp, hr.1⟩
    · obtain ⟨u, h1, h2, h3⟩ := init_look hr.2 i x h
      refine ⟨u, by omega, ?_, h3⟩
      rw [show i - n = (i - (n + 1)) + 1 by omega]
      simpa using h2
  | [], _ :: _, _, h, _, _, _ => h.elim
  | _ :: _, [], _, h, _, _, _ => h.elim

def aend (Γ : Tys) (rs : List ResultVar) (post : AVal → List (Nat × ARow) → Prop) : Exit → St → Prop
  | .ret, st => aret Γ st rs post
  | .normal, st => aret Γ st rs post
  | _, _ => False

/-- THE CONTRACT OF A FUNCTION, by its text -/
theorem fspec (hΓ : TysOk P Γ) (hm : P.follows .mixedOrders = true) {f : FuncId} {fn : Func} {c : Code} {args : List AVal} {post : AVal → List (Nat × ARow) → Prop} (hf : P.funcs[f]? = some fn) (hb : fn.body = some c)
    (hname : (fn.name == "runtime.NumGoroutine") = false) (hn : Nat.ble args.length fn.ntmps = true)
    (h : acode P Γ c ⟨fn.ntmps, initSl 0 args, [], 0⟩ (aend Γ fn.results.toList post)) : FSpec P f args post := by
  refine ⟨⟨fn, hf, hname, by rw [hb]; rfl⟩, fun w bad vs hbl hvs => ?_⟩
  refine calls_of_wp hf hb ?_
  have hle := Nat.le_of_ble_eq_true hn
  have hlen := VReps.length hvs
  have hs : SRep ⟨w, w.heap.size, fun _ => False, fun _ => undef⟩ bad ⟨fn.ntmps, initSl 0 args, [], 0⟩ { tmps := vs.toArray ++ Array.replicate (fn.ntmps - vs.toArray.size) undef, defers := [] } w η0 := by
    refine ⟨rfl, by simp; omega, Below.refl _ _, ⟨Nat.le_refl _, hbl, fun _ h => h.elim⟩, fun _ _ _ => rfl, fun b ⟨k, r, hk, _⟩ => by simp [look] at hk, ⟨fun k r hk => by simp [look] at hk, fun k r hk => by simp [look] at hk, fun k r k' r' hk => by simp [look] at hk, fun k r hk => by simp [look] at hk⟩, fun i x hi => ?_⟩
    obtain ⟨v, _, h2, h3⟩ := init_look hvs i x hi
    simp only [Nat.sub_zero] at h2
    have hlt : i < vs.length := (List.getElem?_eq_some_iff.1 h2).1
    have : (vs.toArray ++ Array.replicate (fn.ntmps - vs.toArray.size) undef).getD i undef = v := by
      rw [Array.getD_eq_getD_getElem?, Array.getElem?_append_left (by simpa using hlt)]
      simp [h2]
    simp only [this]
    refine VRep.frame (fun b o y hb hc => ⟨?_, hc⟩) (Nat.le_refl _) (fun k _ => OwnOk.refl _ _ k) (fun k _ => SubOk.refl _ _ k) h3
    rintro (h1 | ⟨j, r, hj, _⟩)
    · exact hb h1
    · simp [look] at hj
  refine wp_mono (acode_sound (w0 := ⟨w, w.heap.size, fun _ => False, fun _ => undef⟩) hΓ hm c _ _ _ w h ⟨η0, hs⟩) (fun e a' w' hl => ?_)
  obtain ⟨st', hk, η', hs'⟩ := hl
  have fin : aret Γ st' fn.results.toList post → ∃ v, (results fn a'.tmps).run P w' = .ok v w' ∧ ∃ v' x h η, Ending.returned v = .returned v' ∧ post x h ∧ Below w.heap.size w w' ∧
      HRep w' w.heap.size bad h h.length η ∧ VRep w' (fun b => bad b ∨ ownB h η b) h h.length η x v' := fun hk => by
    obtain ⟨v, x', hr, ηr, g1, g2, g3, g4⟩ := aret_sound hΓ hs' hk
    exact ⟨v, g1, v, x', hr, ηr, rfl, g2, hs'.below, g3, g4⟩
  cases e with
  | ret => exact ⟨hs'.defers, fin hk⟩
  | normal => exact ⟨hs'.defers, fin hk⟩
  | _ => exact hk.elim
end
end Go.Aw
/- The types of this program, for the engine; small facts. -/
namespace Go.Aw
theorem TyOk.of {P : Program} {t : Nat} {d : TD} {size bytes : Nat} {z : Value} {zero : List Value} (h1 : d.is P t)
    (h2 : (P.info? t).map (fun i => (i.zero, i.size, i.bytes)) = some (some z, size, bytes)) (h3 : z.cells = zero.toArray) : TyOk P t ⟨d, size, bytes, zero⟩ := by
  refine ⟨h1, ?_⟩
  obtain ⟨i, hi, he⟩ := Option.map_eq_some_iff.1 h2
  simp only [Prod.mk.injEq] at he
  exact ⟨i, z, hi, he.2.1, he.2.2, he.1, h3⟩

theorem w64 {n : Int} (h1 : -9223372036854775808 ≤ n) (h2 : n ≤ 9223372036854775807) : IntKind.i64.wrap n = n := by rw [IntKind.wrap_i64]; omega

theorem vint {k : IntKind} {a b : Int} (h : a = b) : Value.int k a = Value.int k b := by rw [h]
theorem vboo {a b : Bool} (h : a = b) : Value.bool a = Value.bool b := by rw [h]
theorem rint {e : Nat} {k : IntKind} {a b : List Int} (h : a = b) : ARow.ints e k a = ARow.ints e k b := by rw [h]
theorem rrow {e e1 : Nat} {u : Bool} {a b : List (List Int)} (h : a = b) : ARow.rows e e1 u a = ARow.rows e e1 u b := by rw [h]
theorem ltT {a b : Nat} (h : decide ((a : Int) < (b : Int)) = true) : a < b := Int.ofNat_lt.1 (of_decide_eq_true h)
theorem ltF {a b : Nat} (h : decide ((a : Int) < (b : Int)) = false) : ¬ a < b := fun hh => of_decide_eq_false h (Int.ofNat_lt.2 hh)
theorem nat_of {n : Int} {len : Nat} (h0 : 0 ≤ n) (h1 : n < len) : ∃ i : Nat, n = (i : Int) ∧ i < len := ⟨n.toNat, by omega, by omega⟩
section
variable {hp : List (Nat × ARow)} {R : List (Nat × Org)} {nx : Nat}
mutual
/-- what is closed is seen as itself -/
theorem vw_closed : ∀ (x : AVal), clo1 (fun _ _ => none) [] x = some x → vw hp R nx x x
  | .c _, _ => rfl
  | .t _, _ => rfl
  | .ag l, h => by
    simp only [clo1] at h
    split at h
    · rename_i l2 hl
      have e : l2 = l := by simpa using h
      exact vws_closed l (e ▸ hl)
    · cases h
  | .rp l o, h => by
    simp only [clo1] at h
    split at h
    · rename_i l2 hl
      have e : l2 = l := by simpa using h
      exact ⟨rfl, vws_closed l (e ▸ hl)⟩
    · cases h
  | .clo f l, h => by
    simp only [clo1] at h
    split at h
    · rename_i l2 hl
      have e : l2 = l := by simpa using h
      exact ⟨rfl, vws_closed l (e ▸ hl)⟩
    · cases h
  | .knot f l n, h => by
    simp only [clo1] at h
    split at h
    · rename_i l2 hl
      have e : l2 = l := by simpa using h
      exact ⟨rfl, rfl, vws_closed l (e ▸ hl)⟩
    · cases h
  | .nul, h => by simp [clo1] at h
  | .un, h => by simp [clo1] at h
  | .tu _, h => by simp [clo1] at h
  | .adr _ _, h => by simp [clo1] at h
  | .subp _ _ _, h => by simp [clo1] at h
  | .own _, h => by simp [clo1, look] at h
  | .sub _ _, h => by simp [clo1, look] at h
  | .ptr _ _, h => by simp [clo1] at h
theorem vws_closed : ∀ (l : List AVal), clos (fun _ _ => none) [] l = some l → vws hp R nx l l
  | [], _ => trivial
  | a :: l, h => by
    simp only [clos] at h
    split at h
    · cases h
    · rename_i b hb
      split at h
      · cases h
      · rename_i l' hl
        simp only [Option.some.injEq, List.cons.injEq] at h
        exact ⟨vw_closed a (hb.trans (congrArg some h.1)), vws_closed l (hl.trans (congrArg some h.2))⟩
end
end
section
variable {f g : Nat → Bool}
mutual
theorem flt_closed : ∀ (x : AVal), clo1 (fun _ _ => none) [] x = some x → x.flt f g = x
  | .c _, _ => rfl
  | .t _, _ => rfl
  | .ag l, h => by
    simp only [clo1] at h
    split at h
    · rename_i l2 hl
      have e : l2 = l := by simpa using h
      rw [AVal.flt, flts_closed l (e ▸ hl)]
    · cases h
  | .rp l o, h => by
    simp only [clo1] at h
    split at h
    · rename_i l2 hl
      have e : l2 = l := by simpa using h
      rw [AVal.flt, flts_closed l (e ▸ hl)]
    · cases h
  | .clo _ l, h => by
    simp only [clo1] at h
    split at h
    · rename_i l2 hl
      have e : l2 = l := by simpa using h
      rw [AVal.flt, flts_closed l (e ▸ hl)]
    · cases h
  | .knot _ l _, h => by
    simp only [clo1] at h
    split at h
    · rename_i l2 hl
      have e : l2 = l := by simpa using h
      rw [AVal.flt, flts_closed l (e ▸ hl)]
    · cases h
  | .nul, h => by simp [clo1] at h
  | .un, h => by simp [clo1] at h
  | .tu _, h => by simp [clo1] at h
  | .adr _ _, h => by simp [clo1] at h
  | .subp _ _ _, h => by simp [clo1] at h
  | .own _, h => by simp [clo1, look] at h
  | .sub _ _, h => by simp [clo1, look] at h
  | .ptr _ _, h => by simp [clo1] at h
theorem flts_closed : ∀ (l : List AVal), clos (fun _ _ => none) [] l = some l → flts f g l = l
  | [], _ => rfl
  | a :: l, h => by
    simp only [clos] at h
    split at h
    · cases h
    · rename_i b hb
      split at h
      · cases h
      · rename_i l' hl
        simp only [Option.some.injEq, List.cons.injEq] at h
        rw [flts, flt_closed a (hb.trans (congrArg some h.1)), flts_closed l (hl.trans (congrArg some h.2))]
end
end
end Go.Aw
namespace Go.Proofs.YtkomndcehdneaaaGreat
open Go.Aw
def ty : Tys := [
 (3, ⟨.int .i64, 1, 8, [.int .i64 0]⟩),
 (38, ⟨.slice 3, 1, 24, [.slice none 0 0]⟩),
 (24, ⟨.slice 38, 1, 24, [.slice none 0 0]⟩),
 (154, ⟨.int .u64, 1, 8, [.int .u64 0]⟩),
 (26, ⟨.struct [(0, 3), (1, 3), (2, 3), (3, 24)], 4, 48, [.int .i64 0, .int .i64 0, .int .i64 0, .slice none 0 0]⟩),
 (41, ⟨.struct [(0, 3), (1, 3), (2, 38), (3, 24)], 4, 64, [.int .i64 0, .int .i64 0, .slice none 0 0, .slice none 0 0]⟩),
 (78, ⟨.array 2 3, 2, 16, [.int .i64 0, .int .i64 0]⟩),
 (98, ⟨.slice 26, 1, 24, [.slice none 0 0]⟩),
 (5, ⟨.int .u8, 1, 1, [.int .u8 0]⟩),
 (22, ⟨.slice 5, 1, 24, [.slice none 0 0]⟩),
 (72, ⟨.int .u64, 1, 8, [.int .u64 0]⟩),
 (74, ⟨.struct [(0, 22), (1, 3), (2, 72)], 3, 40, [.slice none 0 0, .int .i64 0, .int .u64 0]⟩),
  (4, ⟨.bool, 1, 1, [.bool false]⟩)]
theorem tyOk : TysOk Tryz.prog ty :=
  ⟨TyOk.of (z := .int .i64 0) Tryz.underlying3 (by kernel_rfl) rfl,
     TyOk.of (z := .slice none 0 0) Tryz.underlying38 (by kernel_rfl) rfl,
     TyOk.of (z := .slice none 0 0) Tryz.underlying24 (by kernel_rfl) rfl,
     TyOk.of (z := .int .u64 0) Tryz.underlying154 (by kernel_rfl) rfl,
     TyOk.of (z := .agg #[.int .i64 0, .int .i64 0, .int .i64 0, .slice none 0 0]) ⟨_, Tryz.underlying26, rfl⟩ (by kernel_rfl) rfl,
     TyOk.of (z := .agg #[.int .i64 0, .int .i64 0, .slice none 0 0, .slice none 0 0]) ⟨_, Tryz.underlying41, rfl⟩ (by kernel_rfl) rfl,
     TyOk.of (z := .agg #[.int .i64 0, .int .i64 0]) Tryz.underlying78 (by kernel_rfl) rfl,
     TyOk.of (z := .slice none 0 0) Tryz.underlying98 (by kernel_rfl) rfl,
     TyOk.of (z := .int .u8 0) Tryz.underlying5 (by kernel_rfl) rfl,
     TyOk.of (z := .slice none 0 0) Tryz.underlying22 (by kernel_rfl) rfl,
     TyOk.of (z := .int .u64 0) Tryz.underlying72 (by kernel_rfl) rfl,
     TyOk.of (z := .agg #[.slice none 0 0, .int .i64 0, .int .u64 0]) ⟨_, Tryz.underlying74, rfl⟩ (by kernel_rfl) rfl,
   TyOk.of (z := .bool false) Tryz.underlying4 (by kernel_rfl) rfl,
   trivial⟩
theorem mx : Tryz.prog.follows .mixedOrders = true := by kernel_rfl
end Go.Proofs.YtkomndcehdneaaaGreat
/- Contracts of the leaves: sizes, copies, comparisons. -/
namespace Go.Proofs.YtkomndcehdneaaaGreat
open Go.Aw

theorem getD_mem {α : Type} {l : List α} {d : α} {k : Nat} (h : k < l.length) : l.getD k d ∈ l := by
  rw [List.getD_eq_getElem?_getD, List.getElem?_eq_getElem h]; exact List.getElem_mem h

/-- the tail of a size reckoning -/
def szS (l : List Int) (left : Int) : Int := if left - l.length < 0 then -1 else left - l.length



theorem set_take {α : Type} (l : List α) (d z : α) (k : Nat) (h : k < l.length) :
    (l.take k ++ List.replicate (l.length - k) z).set k (l.getD k d) = l.take (k + 1) ++ List.replicate (l.length - (k + 1)) z := by
  rw [List.set_append_right _ _ (by simp; omega)]
  rw [List.length_take, Nat.min_eq_left (by omega), Nat.sub_self]
  rw [show l.length - k = (l.length - (k + 1)) + 1 by omega, List.replicate_succ, List.set_cons_zero, List.take_succ_eq_append_getElem h]
  rw [List.getD_eq_getElem?_getD, List.getElem?_eq_getElem h, List.append_assoc]
  rfl




def szGo : List (List Int) → Int → Int
  | [], left => left
  | r :: m, left => if left - r.length < 0 then -1 else szGo m (left - r.length)

def szSS (m : List (List Int)) (left : Int) : Int := if left - m.length < 0 then -1 else szGo m (left - m.length)

theorem szGo_pos : ∀ (m : List (List Int)) (left : Int), 0 ≤ left → 0 ≤ szGo m left → (∀ r, r ∈ m → (r.length : Int) ≤ left) ∧ szGo m left ≤ left
  | [], left, _, _ => ⟨by simp, Int.le_refl _⟩
  | r :: m, left, h0, h => by
    simp only [szGo] at h ⊢
    split at h
    · omega
    · rename_i hn
      rw [if_neg hn]
      obtain ⟨h1, h2⟩ := szGo_pos m _ (by omega) h
      refine ⟨fun r' hr => ?_, by omega⟩
      rcases List.mem_cons.1 hr with rfl | hr
      · omega
      · have := h1 r' hr; omega

theorem szSS_pos {m : List (List Int)} {left : Int} (h : 0 ≤ szSS m left) : (m.length : Int) ≤ left ∧ (∀ r, r ∈ m → (r.length : Int) ≤ left) ∧ szSS m left ≤ left := by
  unfold szSS at h ⊢
  split at h
  · omega
  · rename_i hn
    rw [if_neg hn]
    obtain ⟨h1, h2⟩ := szGo_pos m _ (by omega) h
    exact ⟨by omega, fun r hr => by have := h1 r hr; omega, by omega⟩


end Go.Proofs.YtkomndcehdneaaaGreat
/- Calls that write one row of their caller; calls that are walked into. -/
namespace Go.Aw
open Go.RowKit

def plainC : List AVal → Bool
  | [] => true
  | .c _ :: r => plainC r
  | _ => false

/-- a row that leads to no other memory -/
def plainRow : ARow → Bool
  | .ints .. => true
  | .rows _ _ true _ => true
  | .cells _ l => plainC l
  | _ => false

section
variable {P : Program} {Γ : Tys} {w0 : Base} {w w' : World} {ob : Nat → Prop} {st : St} {a : Act} {η : Env}

theorem plainC_rep {bad bad' : Nat → Prop} {hp hp' : List (Nat × ARow)} {nx nx' : Nat} {η η' : Env} : ∀ {l : List AVal} {vs : List Value}, plainC l = true → VReps w bad hp nx η l vs → VReps w' bad' hp' nx' η' l vs
  | [], [], _, _ => trivial
  | .c _ :: l, _ :: vs, h, hv => ⟨hv.1, plainC_rep (l := l) (by simpa [plainC] using h) hv.2⟩
  | [], _ :: _, _, h => h.elim
  | .c _ :: _, [], _, h => h.elim
  | .un :: _, _, h, _ => by simp [plainC] at h
  | .t _ :: _, _, h, _ => by simp [plainC] at h
  | .ag _ :: _, _, h, _ => by simp [plainC] at h
  | .tu _ :: _, _, h, _ => by simp [plainC] at h
  | .own _ :: _, _, h, _ => by simp [plainC] at h
  | .sub _ _ :: _, _, h, _ => by simp [plainC] at h
  | .ptr _ _ :: _, _, h, _ => by simp [plainC] at h
  | .subp _ _ _ :: _, _, h, _ => by simp [plainC] at h
  | .adr _ _ :: _, _, h, _ => by simp [plainC] at h
  | .rp _ _ :: _, _, h, _ => by simp [plainC] at h
  | .clo _ _ :: _, _, h, _ => by simp [plainC] at h
  | .knot _ _ _ :: _, _, h, _ => by simp [plainC] at h
  | .nul :: _, _, h, _ => by simp [plainC] at h

theorem plain_rep {B : Nat} {bad bad' : Nat → Prop} {hp hp' : List (Nat × ARow)} {nx nx' k k' : Nat} {η η' : Env} : ∀ {r : ARow}, plainRow r = true → RowRep w B bad hp nx η k r → η'.val k' = η.val k → η'.cel k' = η.cel k → RowRep w B bad' hp' nx' η' k' r
  | .ints .., _, h, hv, hc => by simp only [RowRep, hv, hc]; exact h
  | .rows _ _ true _, _, h, hv, hc => by simp only [RowRep, hv, hc]; exact h
  | .rows _ _ false _, hp, _, _, _ => by simp [plainRow] at hp
  | .recs .., hp, _, _, _ => by simp [plainRow] at hp
  | .cells _ l, hp, ⟨b, h1, h2, h3, h4⟩, hv, hc => ⟨b, by rw [hv]; exact h1, h2, by rw [hc]; exact h3, by rw [hc]; exact plainC_rep (by simpa [plainRow] using hp) h4⟩

/-- A FUNCTION THAT WRITES A ROW OF ITS CALLER (key 0): it hands back a plain value, and the row holds something else -/
def MSpec (P : Program) (f : FuncId) (r0 : ARow) (args : List AVal) (post : Value → ARow → Prop) : Prop := FOk P f ∧
  ∀ (w : World) (B : Nat) (ob : Nat → Prop) (η : Env) (vs : List Value), B ≤ w.heap.size → (∀ b, ob b → b < w.heap.size) → (∀ b, b ∈ bsOf η 0 r0 → ¬ ob b) →
    HRep w B ob [(0, r0)] 1 η → VReps w (badOf ob [(0, r0)] η) [(0, r0)] 1 η args vs →
    Calls P f vs.toArray w fun e w' => ∃ v r' η', e = .returned v ∧ v.oneCell' = true ∧ post v r' ∧ Below B w w' ∧
      (∀ b, b < w.heap.size → b ∉ bsOf η 0 r0 → w'.heap[b]? = w.heap[b]?) ∧ plainRow r' = true ∧ RowRep w' B (fun _ => False) [] 0 η' 0 r' ∧ (bsOf η' 0 r').Nodup ∧
      (∀ b, b ∈ bsOf η' 0 r' → b ∈ bsOf η 0 r0 ∨ w.heap.size ≤ b) ∧ r'.kind = r0.kind ∧ η'.val 0 = η.val 0 ∧ (η'.cel 0).length = (η.cel 0).length

def exM (v0 : Value) (r1 : ARow) : Value → ARow → Prop := fun v r => v = v0 ∧ r = r1

def ghostOf : ARow → AVal
  | .cells .. => .ptr 0 0
  | _ => .own 0

def ghostOk : ARow → Bool
  | .cells _ [] => false
  | .rows _ _ false _ => false
  | .recs .. => false
  | _ => true

def isGhost (r : ARow) (x : AVal) : Bool :=
  match r, x with
  | .cells .., .ptr 0 0 => true
  | .ints .., .own 0 => true
  | .rows .., .own 0 => true
  | _, _ => false

def sameLen : ARow → ARow → Bool
  | .cells _ l, .cells _ l' => Nat.beq l.length l'.length
  | _, _ => true

def mfin (sz : Nat) (r0 : ARow) (post : Value → ARow → Prop) (st : St) (l : List AVal) : Prop :=
  match l with
  | [.c v] => match look st.sl sz with
    | some g => match look st.hp 0 with
      | some r' => match Nat.beq r'.kind r0.kind && isGhost r' g && plainRow r' && sameLen r0 r' && Nat.beq st.sz sz with
        | true => post v r'
        | false => False
      | none => False
    | none => False
  | _ => False

def mend (Γ : Tys) (rs : List ResultVar) (sz : Nat) (r0 : ARow) (post : Value → ARow → Prop) : Exit → St → Prop
  | .ret, st => ares Γ st rs (mfin sz r0 post st)
  | .normal, st => ares Γ st rs (mfin sz r0 post st)
  | _, _ => False

theorem init_look' {bad : Nat → Prop} {hp : List (Nat × ARow)} {nx : Nat} : ∀ {l : List AVal} {vs : List Value} {n : Nat}, VReps w bad hp nx η l vs → ∀ i x, look (initSl n l) i = some x → ∃ v, n ≤ i ∧ vs[i - n]? = some v ∧ VRep w bad hp nx η x v
  | [], [], n, _, i, x, h => by simp [initSl, look] at h
  | y :: l, v :: vs, n, hr, i, x, h => by
    simp only [initSl] at h
    rw [look_cons] at h
    split at h
    · rename_i hni
      simp only [Option.some.injEq] at h
      subst hni h
      exact ⟨v, Nat.le_refl _, by simp, hr.1⟩
    · obtain ⟨u, h1, h2, h3⟩ := init_look' hr.2 i x h
      refine ⟨u, by omega, ?_, h3⟩
      rw [show i - n = (i - (n + 1)) + 1 by omega]
      simpa using h2
  | [], _ :: _, _, h, _, _, _ => h.elim
  | _ :: _, [], _, h, _, _, _ => h.elim

theorem ownsRow_len {B B' e e' n n' : Nat} {v : Value} {xs xs' : List Value} (h : w.ownsRow B e 1 v n xs) (h' : w'.ownsRow B' e' 1 v n' xs') : xs'.length = xs.length := by
  have h1 := h.1
  have h1' := h'.1
  rcases h.2 with ⟨rfl, h2⟩ | ⟨g, cap, cur, rfl, _⟩ <;> rcases h'.2 with ⟨e2, h2'⟩ | ⟨g', cap', cur', e2, _⟩
  · omega
  · cases e2
  · cases e2
  · simp only [Value.slice.injEq] at e2
    omega

theorem results_run {fn : Func} {tmps : Array Value} {vs : List Value} (h3 : (fn.results.toList.mapM (resOf tmps)).run P w = .ok vs w) :
    (results fn tmps).run P w = .ok (if hh : vs.toArray.size = 1 then vs.toArray[0] else .tuple vs.toArray) w := by
  have e : results fn tmps = (do
      let vs ← fn.results.mapM (resOf tmps)
      Pure.pure (if h : vs.size = 1 then vs[0] else .tuple vs)) := rfl
  rw [e, Array.mapM_eq_mapM_toList]
  simp only [Sem.run_bind, Sem.run_map, h3, Result.andThen_ok, Sem.run_pure]

theorem ptr_blk {b : Nat} : blk (.pointer (some ⟨b, 0, none⟩)) = [b] := rfl

/-- THE CONTRACT OF SUCH A FUNCTION, by its text -/
theorem mspec (hΓ : TysOk P Γ) (hm : P.follows .mixedOrders = true) {f : FuncId} {fn : Func} {c : Code} {r0 : ARow} {args : List AVal} {post : Value → ARow → Prop} (hf : P.funcs[f]? = some fn) (hb : fn.body = some c)
    (hname : (fn.name == "runtime.NumGoroutine") = false) (hn : Nat.ble args.length fn.ntmps = true) (hg : ghostOk r0 = true)
    (h : acode P Γ c ⟨fn.ntmps, (fn.ntmps, ghostOf r0) :: initSl 0 args, [(0, r0)], 1⟩ (mend Γ fn.results.toList fn.ntmps r0 post)) : MSpec P f r0 args post := by
  refine ⟨⟨fn, hf, hname, by rw [hb]; rfl⟩, fun w B ob η vs hB hobl hfree hh hvs => ?_⟩
  refine calls_of_wp hf hb ?_
  have hle := Nat.le_of_ble_eq_true hn
  have hlen := VReps.length hvs
  have hr0 : look [(0, r0)] 0 = some r0 := rfl
  have hrow0 := hh.row 0 r0 hr0
  have hone : ∀ k r, look [(0, r0)] k = some r → k = 0 ∧ r = r0 := fun k r hk => by
    rw [look_cons] at hk
    split at hk
    · rename_i h0; exact ⟨h0.symm, (Option.some.inj hk).symm⟩
    · cases hk
  let γ : Nat → Value := fun i => if i = fn.ntmps then η.val 0 else undef
  let W0 : Base := ⟨w, B, fun b => b ∈ bsOf η 0 r0, γ⟩
  have hs : SRep W0 ob ⟨fn.ntmps, (fn.ntmps, ghostOf r0) :: initSl 0 args, [(0, r0)], 1⟩ { tmps := vs.toArray ++ Array.replicate (fn.ntmps - vs.toArray.size) undef, defers := [] } w η := by
    have hsz : (vs.toArray ++ Array.replicate (fn.ntmps - vs.toArray.size) undef).size = fn.ntmps := by simp; omega
    refine ⟨rfl, hsz, Below.refl _ _, ⟨hB, hobl, hfree⟩, fun _ _ _ => rfl, fun b ⟨k, r, hk, hb⟩ => ?_, hh, fun i x hi => ?_⟩
    · obtain ⟨rfl, rfl⟩ := hone k r hk; exact .inl hb
    · simp only at hi
      rw [look_cons] at hi
      split at hi
      · rename_i hni
        subst hni
        have hx := Option.some.inj hi
        subst hx
        have hget : (vs.toArray ++ Array.replicate (fn.ntmps - vs.toArray.size) undef).getD fn.ntmps (W0.γ fn.ntmps) = η.val 0 := by
          have : W0.γ fn.ntmps = η.val 0 := if_pos rfl
          rw [Array.getD_eq_getD_getElem?, Array.getElem?_eq_none (by rw [hsz]; exact Nat.le_refl _), this]; rfl
        rw [hget]
        match r0, hg, hrow0, hone with
        | .ints .., _, _, hone => exact ⟨Nat.one_pos, fun r hk => by obtain ⟨_, rfl⟩ := hone 0 r hk; exact ⟨by simp [ARow.kind], rfl⟩⟩
        | .rows _ _ true _, _, _, hone => exact ⟨Nat.one_pos, fun r hk => by obtain ⟨_, rfl⟩ := hone 0 r hk; exact ⟨by simp [ARow.kind], rfl⟩⟩
        | .rows _ _ false _, hg, _, _ => simp [ghostOk] at hg
        | .cells _ [], hg, _, _ => simp [ghostOk] at hg
        | .recs .., hg, _, _ => simp [ghostOk] at hg
        | .cells _ (y :: l), _, hrow0, _ =>
          obtain ⟨b, h1, _, _, h4⟩ := hrow0
          have := VReps.length h4
          exact ⟨Nat.one_pos, fun r _ => ⟨by rw [← this]; simp, b, by rw [h1]; rfl, h1⟩⟩
      · rename_i hni
        obtain ⟨v, _, h2, h3⟩ := init_look' hvs i x hi
        simp only [Nat.sub_zero] at h2
        have hlt : i < vs.length := (List.getElem?_eq_some_iff.1 h2).1
        have : (vs.toArray ++ Array.replicate (fn.ntmps - vs.toArray.size) undef).getD i (W0.γ i) = v := by
          rw [Array.getD_eq_getD_getElem?, Array.getElem?_append_left (by simpa using hlt)]
          simp [h2]
        rw [this]
        exact h3
  refine wp_mono (acode_sound (w0 := W0) hΓ hm c _ _ _ w h ⟨η, hs⟩) (fun e a' w' hl => ?_)
  obtain ⟨st', hk, η', hs'⟩ := hl
  have fin : ares Γ st' fn.results.toList (mfin fn.ntmps r0 post st') → ∃ v, (results fn a'.tmps).run P w' = .ok v w' ∧ ∃ v' r' η', Ending.returned v = .returned v' ∧ v'.oneCell' = true ∧ post v' r' ∧ Below B w w' ∧
      (∀ b, b < w.heap.size → b ∉ bsOf η 0 r0 → w'.heap[b]? = w.heap[b]?) ∧ plainRow r' = true ∧ RowRep w' B (fun _ => False) [] 0 η' 0 r' ∧ (bsOf η' 0 r').Nodup ∧
      (∀ b, b ∈ bsOf η' 0 r' → b ∈ bsOf η 0 r0 ∨ w.heap.size ≤ b) ∧ r'.kind = r0.kind ∧ η'.val 0 = η.val 0 ∧ (η'.cel 0).length = (η.cel 0).length   := fun hk => by
    obtain ⟨xs, us, h1, h2, h3⟩ := ares_sound hΓ hs' hk
    have hres := results_run h3
    unfold mfin at h1
    split at h1
    case h_2 => exact h1.elim
    case h_1 v =>
      split at h1
      case h_2 => exact h1.elim
      case h_1 g hgl =>
        split at h1
        case h_2 => exact h1.elim
        case h_1 r' hr' =>
          split at h1
          case h_2 => exact h1.elim
          case h_1 hc =>
            simp only [Bool.and_eq_true] at hc
            obtain ⟨⟨⟨⟨c1, c2⟩, c3⟩, c4⟩, c5⟩ := hc
            have hsz' := Nat.eq_of_beq_eq_true c5
            have hkind := Nat.eq_of_beq_eq_true c1
            match us, h2 with
            | [u], h2 =>
              obtain ⟨rfl, hone'⟩ := h2.1
              have hrow' := hs'.heap.row 0 r' hr'
              have hval : η'.val 0 = η.val 0 := by
                have hslot := hs'.slot _ _ hgl
                have hget : a'.tmps.getD fn.ntmps (W0.γ fn.ntmps) = η.val 0 := by
                  have e1 : W0.γ fn.ntmps = η.val 0 := if_pos rfl
                  rw [Array.getD_eq_getD_getElem?, Array.getElem?_eq_none (by rw [hs'.size, hsz']; exact Nat.le_refl _), e1]; rfl
                rw [hget] at hslot
                clear hgl
                match r', g, c2, hrow', hslot, hr' with
                | .ints .., .own 0, _, _, hslot, hr' => exact ((hslot.2 _ hr').2).symm
                | .rows .., .own 0, _, _, hslot, hr' => exact ((hslot.2 _ hr').2).symm
                | .cells .., .ptr 0 0, _, ⟨b, e1, _⟩, hslot, hr' =>
                  obtain ⟨_, b', e2, e3⟩ := hslot.2 _ hr'
                  rw [e1, ptr_blk] at e2
                  simp only [List.cons.injEq, and_true] at e2
                  rw [e1, e3, e2]
              have hlen' : (η'.cel 0).length = (η.cel 0).length := by
                have l1 := row_len hrow'
                have l0 := row_len hrow0
                clear hs hs' hr' hgl h
                match r0, r', hkind, c4, hrow0, hrow', l0, l1 with
                | .recs .., .recs .., _, _, g0, g1, l0, l1 =>
                  have c3' := c3; simp [plainRow] at c3'
                | .recs .., .ints .., hk, _, _, _, _, _ => simp [ARow.kind] at hk
                | .recs .., .rows _ _ true _, hk, _, _, _, _, _ => simp [ARow.kind] at hk
                | .recs .., .rows _ _ false _, hk, _, _, _, _, _ => simp [ARow.kind] at hk
                | .recs .., .cells .., hk, _, _, _, _, _ => simp [ARow.kind] at hk
                | .ints .., .recs .., hk, _, _, _, _, _ => simp [ARow.kind] at hk
                | .rows _ _ true _, .recs .., hk, _, _, _, _, _ => simp [ARow.kind] at hk
                | .rows _ _ false _, .recs .., hk, _, _, _, _, _ => simp [ARow.kind] at hk
                | .cells .., .recs .., hk, _, _, _, _, _ => simp [ARow.kind] at hk
                | .ints .., .ints .., _, _, g0, g1, l0, l1 =>
                  have q0 := g0.1; have q1 := g1.1
                  rw [hval] at q1
                  have := ownsRow_len q0 q1
                  simp only [List.length_map] at this
                  simp only at l0 l1
                  omega
                | .rows _ _ true _, .rows _ _ true _, _, _, g0, g1, l0, l1 =>
                  have q0 := g0.1; have q1 := g1.1
                  rw [hval] at q1
                  exact ownsRow_len q0 q1
                | .rows _ _ false _, .rows _ _ false _, _, _, g0, g1, l0, l1 =>
                  have q0 := g0.1; have q1 := g1.1
                  rw [hval] at q1
                  exact ownsRow_len q0 q1
                | .cells _ l, .cells _ l', _, c4, g0, g1, l0, l1 =>
                  have := Nat.eq_of_beq_eq_true c4
                  simp only at l0 l1
                  omega
                | .ints .., .rows _ _ true _, hk, _, _, _, _, _ => simp [ARow.kind] at hk
                | .ints .., .rows _ _ false _, hk, _, _, _, _, _ => simp [ARow.kind] at hk
                | .ints .., .cells .., hk, _, _, _, _, _ => simp [ARow.kind] at hk
                | .rows _ _ true _, .ints .., hk, _, _, _, _, _ => simp [ARow.kind] at hk
                | .rows _ _ true _, .rows _ _ false _, hk, _, _, _, _, _ => simp [ARow.kind] at hk
                | .rows _ _ true _, .cells .., hk, _, _, _, _, _ => simp [ARow.kind] at hk
                | .rows _ _ false _, .ints .., hk, _, _, _, _, _ => simp [ARow.kind] at hk
                | .rows _ _ false _, .rows _ _ true _, hk, _, _, _, _, _ => simp [ARow.kind] at hk
                | .rows _ _ false _, .cells .., hk, _, _, _, _, _ => simp [ARow.kind] at hk
                | .cells .., .ints .., hk, _, _, _, _, _ => simp [ARow.kind] at hk
                | .cells .., .rows _ _ true _, hk, _, _, _, _, _ => simp [ARow.kind] at hk
                | .cells .., .rows _ _ false _, hk, _, _, _, _, _ => simp [ARow.kind] at hk
              refine ⟨_, by rw [hres]; rfl, u, r', η', rfl, hone', h1, hs'.below, fun b hb hnb => hs'.frame b hb hnb, c3, plain_rep c3 hrow' rfl rfl, hs'.heap.nodup 0 r' hr', fun b hb => hs'.src b ⟨0, r', hr', hb⟩, hkind, hval, hlen'⟩
  cases e with
  | ret => exact ⟨hs'.defers, fin hk⟩
  | normal => exact ⟨hs'.defers, fin hk⟩
  | _ => exact hk.elim
end
end Go.Aw
/- Calls that write one row of their caller, at the caller; calls that are walked into. -/
namespace Go.Aw
open Go.RowKit

section
variable {P : Program} {Γ : Tys} {w0 : Base} {w w' : World} {ob : Nat → Prop} {st : St} {a : Act} {η : Env}

/-- a row has become another of its kind -/
theorem SRep.mut (h : SRep w0 ob st a w η) {k : Nat} {r r' : ARow} {cs' : List Value} (hr : look st.hp k = some r) (hkind : r'.kind = r.kind) (hlen : (η.cel k).length ≤ cs'.length)
    (hw : ∀ b, b < w.heap.size → b ∉ bsOf η k r → w'.heap[b]? = w.heap[b]?) (hB : Below w0.B w w')
    (hnd : (bsOf (η.upd k (η.val k) cs') k r').Nodup) (hfr : ∀ b, b ∈ bsOf (η.upd k (η.val k) cs') k r' → b ∈ bsOf η k r ∨ w.heap.size ≤ b)
    (hrow : ∀ bad hp nx, RowRep w' w0.B bad hp nx (η.upd k (η.val k) cs') k r') :
    SRep w0 ob ((st.killSub k).upd k r') a w' (η.upd k (η.val k) cs') := by
  have hoth : ∀ j r1, j ≠ k → look ((st.killSub k).upd k r').hp j = some r1 → ∃ r, look st.hp j = some r ∧ r1 = r.flt (fun _ => true) (ne k) := fun j r1 hj h1 => by
    simp only [St.upd, St.killSub, look_upd, if_neg (Ne.symm hj), look_fltH] at h1
    obtain ⟨r, h2, rfl⟩ := Option.map_eq_some_iff.1 h1
    exact ⟨r, h2, rfl⟩
  have hk' : look ((st.killSub k).upd k r').hp k = some r' := by simp only [St.upd, look_upd, if_true]
  have hok : ∀ j, j < st.nx → OwnOk st.hp η ((st.killSub k).upd k r').hp (η.upd k (η.val k) cs') j := fun j _ => by
    by_cases hjk : j = k
    · subst hjk
      exact ⟨fun r1 h1 => by rw [hk'] at h1; obtain rfl := Option.some.inj h1; exact ⟨r, hr, hkind.symm, upd_val _ _ _ _, by rw [upd_cel]; exact hlen⟩⟩
    · exact OwnOk.of (fun r1 h1 => by obtain ⟨r, h2, rfl⟩ := hoth j r1 hjk h1; exact ⟨r, h2, (kind_flt _ _ r).symm⟩) (upd_ne _ _ _ _ j hjk).1 (upd_ne _ _ _ _ j hjk).2
  have hsk : ∀ j, j < st.nx → ne k j = true → SubOk st.hp η ((st.killSub k).upd k r').hp (η.upd k (η.val k) cs') j := fun j _ hj => by
    have hjk := (ne_spec k j).1 hj
    exact SubOk.of (fun r1 h1 => by obtain ⟨r, h2, rfl⟩ := hoth j r1 hjk h1; exact ⟨r, h2, (kind_flt _ _ r).symm⟩) (upd_ne _ _ _ _ j hjk).2
  obtain ⟨hh, hkp⟩ := HRep.step (k := k) (hp' := ((st.killSub k).upd k r').hp) (nx' := st.nx) (η' := η.upd k (η.val k) cs') (w' := w') h.heap (fun _ => true) (ne k) r' (h.heap.lt k r hr) (Nat.le_refl _)
    (fun j r1 hj h1 => hoth j r1 hj h1) hk' (fun j hj => upd_ne _ _ _ _ j hj)
    (fun b hb hn => hw b hb (hn r hr)) (fun j hj _ => hok j hj) hsk hnd
    (fun b hb => (hfr b hb).imp (fun h1 => ⟨k, r, hr, h1, .inl rfl⟩) id) (fun _ => hrow _ _ _)
  exact h.heapStep (fun _ => true) (ne k) hB hh hkp (Nat.le_refl _) (fun j hj _ => hok j hj) hsk

/-- what becomes of the caller's row -/
def backRow (st : St) (s : Org) (r' : ARow) : Option (Nat × ARow) :=
  match s with
  | .row k => some (k, r')
  | .sub k i => match look st.hp k with
    | some (.rows e e1 true m) => match r' with
      | .ints e2 .i64 l => match Nat.beq e2 e1 with
        | true => some (k, .rows e e1 true (m.set i l))
        | false => none
      | _ => none
    | _ => none
  | .nil => none

theorem distinct_one (s : Org) : distinct [(0, s)] = true := by cases s <;> rfl

theorem ACallS.mutK {f : FuncId} {args args0 : List AVal} {r0 : ARow} {K : AVal → St → Prop} {post : Value → ARow → Prop} (s : Org) (hs : MSpec P f r0 args0 post)
    (hv : vws st.hp [(0, s)] 1 args args0) (hr : rowVw st.hp [(0, s)] 1 s r0)
    (hk : ∀ v r', post v r' → match backRow st s r' with | some (k, r1) => K (.c v) ((st.killSub k).upd k r1) | none => False) : ACallS P st f args K := by
  refine ⟨hs.1, fun w0 ob a w η h vs hvs => ?_⟩
  have hrv : rowsVw st.hp [(0, s)] 1 [(0, r0)] := ⟨rfl, hr, trivial⟩
  have hfree : ∀ b, ownB st.hp η b → ¬ ob b := fun b hb => h.free hb
  have hh0 := View.heap (R := [(0, s)]) (nx' := 1) h.heap hfree (distinct_one s) hrv
  have ha0 := vws_sound (R := [(0, s)]) (nx' := 1) h.heap hfree hrv args args0 hv hvs
  have hs0 : look [((0 : Nat), s)] 0 = some s := rfl
  obtain ⟨hb0, _⟩ := vw_blocks (R := [(0, s)]) (j := 0) h.heap hs0 hr
  refine (hs.2 w w0.B ob (ηV st.hp η [(0, s)]) vs (wB h) (fun b hb => h.badlt (.inl hb)) (fun b hb => ?_) hh0 ha0).mono ?_
  · obtain ⟨k, r, _, h2, h3⟩ := hb0 b hb
    exact hfree b ⟨k, r, h2, h3⟩
  · rintro e w' ⟨v, r', η', rfl, hone, hp, hbel, hfrm, hplain, hrow, hnd, hsrc, hkind, hval, hlen⟩
    have hk' := hk v r' hp
    cases s with
    | nil => exact hk'.elim
    | row k =>
      obtain ⟨r, h1, h2⟩ := rowVw_kind (hp := st.hp) (R := [(0, .row k)]) (nx' := 1) hr
      have hv0 : (ηV st.hp η [(0, Org.row k)]).val 0 = η.val k := rfl
      have hc0 : (ηV st.hp η [(0, Org.row k)]).cel 0 = η.cel k := rfl
      have hbs : bsOf (ηV st.hp η [(0, Org.row k)]) 0 r0 = bsOf η k r := by simp only [bsOf, hv0, hc0, h2]
      have hu : (η.upd k (η.val k) (η'.cel 0)).val k = η'.val 0 := by rw [upd_val, hval, hv0]
      have hbs' : bsOf (η.upd k (η.val k) (η'.cel 0)) k r' = bsOf η' 0 r' := by simp only [bsOf, hu, upd_cel]
      have hs' := SRep.mut (w' := w') h (cs' := η'.cel 0) h1 (by rw [hkind, h2]) (by rw [hlen, hc0]; exact Nat.le_refl _) (fun b hb hn => hfrm b hb (by rw [hbs]; exact hn)) hbel
        (by rw [hbs']; exact hnd) (fun b hb => by rw [hbs'] at hb; rw [← hbs]; exact hsrc b hb) (fun bad hp nx => plain_rep hplain hrow hu (upd_cel _ _ _ _))
      exact ⟨v, .c v, _, _, rfl, hk', rfl, hs', rfl, hone⟩
    | sub k i =>
      simp only [backRow] at hk'
      unfold rowVw at hr
      simp only at hr
      split at hr
      case h_2 => exact hr.elim
      case h_1 e e1 m hl =>
        obtain ⟨hi, rfl⟩ := hr
        rw [hl] at hk'
        simp only at hk'
        split at hk'
        case h_2 => exact hk'.elim
        case h_1 heq =>
          split at heq
          case h_2 => cases heq
          case h_1 e2 l =>
            split at heq
            case h_2 => cases heq
            case h_1 hbe =>
              obtain rfl := Nat.eq_of_beq_eq_true hbe
              simp only [Option.some.injEq, Prod.mk.injEq] at heq
              obtain ⟨rfl, rfl⟩ := heq
              have hrow0 := h.heap.row k _ hl
              have hnd0 := h.heap.nodup k _ hl
              obtain ⟨u, hui, ho⟩ := F2.at hrow0.2 (List.getElem?_eq_getElem hi)
              have hv0 : (ηV st.hp η [(0, Org.sub k i)]).val 0 = u := getD_of hui
              have hbs0 : bsOf (ηV st.hp η [(0, Org.sub k i)]) 0 (.ints e2 .i64 (m.getD i [])) = blk u := by simp only [bsOf, ARow.kind, hv0]; simp
              have hb1 : ∀ m', bsOf η k (.rows e e2 true m') = blk (η.val k) ++ (η.cel k).flatMap blk := fun m' => by simp [bsOf, ARow.kind]
              have hin : ∀ b, b ∈ blk u → b ∈ bsOf η k (.rows e e2 true m) := fun b hb => by
                rw [hb1]; exact List.mem_append.2 (.inr (List.mem_flatMap.2 ⟨u, List.mem_of_getElem? hui, hb⟩))
              have hu : ∀ j, (η.upd k (η.val k) (η.cel k)).val j = η.val j := fun j => by by_cases hj : j = k <;> simp [Env.upd, hj]
              have hc : ∀ j, (η.upd k (η.val k) (η.cel k)).cel j = η.cel j := fun j => by by_cases hj : j = k <;> simp [Env.upd, hj]
              have hb2 : ∀ r, bsOf (η.upd k (η.val k) (η.cel k)) k r = bsOf η k r := fun r => by simp only [bsOf, hu, hc]
              rw [hb1] at hnd0
              obtain ⟨n1, n2, n3⟩ := List.nodup_append.1 hnd0
              have hrl : OwnInts w' w0.B e2 .i64 l (η'.val 0) := hrow.1
              rw [hval, hv0] at hrl
              have hs' := SRep.mut (w' := w') h (k := k) (r := .rows e e2 true m) (r' := .rows e e2 true (m.set i l)) (cs' := η.cel k) hl rfl (Nat.le_refl _)
                (fun b hb hn => hfrm b hb (by rw [hbs0]; exact fun hm => hn (hin b hm))) hbel
                (by rw [hb2, hb1]; exact hnd0) (fun b hb => by rw [hb2, hb1] at hb; exact .inl (by rw [hb1]; exact hb)) (fun bad hp nx => ?_)
              · exact ⟨v, .c v, _, _, rfl, hk', rfl, hs', rfl, hone⟩
              · refine ⟨?_, ?_⟩
                · rw [hu, hc, List.length_set]
                  refine ownsRow_same hrow0.1 (fun b hb => ?_)
                  have hlt : b < w.heap.size := (hrow0.lt b (by rw [hb1]; exact List.mem_append.2 (.inl hb))).2
                  refine hfrm b hlt ?_
                  rw [hbs0]; intro hm
                  exact n3 b hb b (List.mem_flatMap.2 ⟨u, List.mem_of_getElem? hui, hm⟩) rfl
                · rw [hc]
                  refine F2.intro (by rw [List.length_set]; exact F2.length hrow0.2) (fun j l1 u1 hj1 hj2 => ?_)
                  by_cases hji : j = i
                  · subst hji
                    rw [List.getElem?_set_self hi] at hj1
                    rw [hui] at hj2
                    obtain rfl := Option.some.inj hj1
                    obtain rfl := Option.some.inj hj2
                    exact hrl
                  · rw [List.getElem?_set_ne (Ne.symm hji)] at hj1
                    obtain ⟨u2, hu2, ho2⟩ := F2.at hrow0.2 hj1
                    rw [hj2] at hu2
                    obtain rfl := Option.some.inj hu2
                    refine ownsRow_same ho2 (fun b hb => ?_)
                    have hlt : b < w.heap.size := (hrow0.lt b (by rw [hb1]; exact List.mem_append.2 (.inr (List.mem_flatMap.2 ⟨u1, List.mem_of_getElem? hj2, hb⟩)))).2
                    refine hfrm b hlt ?_
                    rw [hbs0]; intro hm
                    exact flat_apart n2 hj2 hui hji b hb hm

theorem ACallS.mut {f : FuncId} {args args0 : List AVal} {r0 r1 : ARow} {v : Value} {K : AVal → St → Prop} (s : Org) (hs : MSpec P f r0 args0 (exM v r1))
    (hk : match backRow st s r1 with | some (k, r2) => K (.c v) ((st.killSub k).upd k r2) | none => False)
    (hv : vws st.hp [(0, s)] 1 args args0) (hr : rowVw st.hp [(0, s)] 1 s r0) : ACallS P st f args K :=
  ACallS.mutK s hs hv hr (fun _ _ e => by obtain ⟨rfl, rfl⟩ := e; exact hk)

/-! ### a call that is walked into -/
def ghosts (d : Nat) : List (Nat × AVal) → List (Nat × AVal)
  | [] => []
  | (i, x) :: r => (d + i, x) :: ghosts d r

def unghost (d : Nat) : List (Nat × AVal) → List (Nat × AVal)
  | [] => []
  | (i, x) :: r => match Nat.ble d i with
    | true => (i - d, x) :: unghost d r
    | false => unghost d r

theorem look_ghosts (d : Nat) : ∀ (l : List (Nat × AVal)) (i : Nat), look (ghosts d l) i = if d ≤ i then look l (i - d) else none
  | [], i => by simp [ghosts, look]
  | (j, x) :: r, i => by
    simp only [ghosts, look_cons, look_ghosts d r i]
    by_cases h1 : d ≤ i
    · simp only [h1, if_true]
      by_cases h2 : d + j = i
      · rw [if_pos h2, if_pos (by omega)]
      · rw [if_neg h2, if_neg (by omega)]
    · simp only [h1, if_false]
      rw [if_neg (by omega)]

theorem look_unghost (d : Nat) : ∀ (l : List (Nat × AVal)) (i : Nat), look (unghost d l) i = look l (d + i)
  | [], i => by simp [unghost, look]
  | (j, x) :: r, i => by
    simp only [unghost, look_cons]
    cases hb : Nat.ble d j with
    | true =>
      have := Nat.le_of_ble_eq_true hb
      simp only [look_cons, look_unghost d r i]
      by_cases h2 : j = d + i
      · rw [if_pos (by omega), if_pos h2]
      · rw [if_neg (by omega), if_neg h2]
    | false =>
      have : ¬ d ≤ j := fun h => by rw [Nat.ble_eq_true_of_le h] at hb; cases hb
      simp only [look_unghost d r i]
      rw [if_neg (by omega)]

def iend (Γ : Tys) (rs : List ResultVar) (sz sz0 : Nat) (K : AVal → St → Prop) : Exit → St → Prop
  | .ret, st => Nat.beq st.sz sz = true ∧ ares Γ st rs fun l => frG (unghost sz st.sl) fun sl => K (match l with | [x] => x | l => .tu l) ⟨sz0, sl, st.hp, st.nx⟩
  | .normal, st => Nat.beq st.sz sz = true ∧ ares Γ st rs fun l => frG (unghost sz st.sl) fun sl => K (match l with | [x] => x | l => .tu l) ⟨sz0, sl, st.hp, st.nx⟩
  | _, _ => False

def iend' (Γ : Tys) (rs : List ResultVar) (sz sz0 : Nat) (K : AVal → St → Prop) : Exit → St → Prop
  | .ret, st => Nat.beq st.sz sz = true ∧ ares Γ st rs fun l => K (match l with | [x] => x | l => .tu l) ⟨sz0, unghost sz st.sl, st.hp, st.nx⟩
  | .normal, st => Nat.beq st.sz sz = true ∧ ares Γ st rs fun l => K (match l with | [x] => x | l => .tu l) ⟨sz0, unghost sz st.sl, st.hp, st.nx⟩
  | _, _ => False

theorem look_app (l r : List (Nat × AVal)) (i : Nat) : look (l ++ r) i = match look l i with | some x => some x | none => look r i := by rw [look_append]; cases look l i <;> rfl

theorem ACallS.inline (hΓ : TysOk P Γ) (hm : P.follows .mixedOrders = true) {f : FuncId} {fn : Func} {c : Code} {args : List AVal} {K : AVal → St → Prop} (hf : P.funcs[f]? = some fn) (hb : fn.body = some c)
    (hname : (fn.name == "runtime.NumGoroutine") = false) (hn : Nat.ble args.length fn.ntmps = true)
    (h : frG (initSl 0 args ++ ghosts fn.ntmps st.sl) fun sl => acode P Γ c ⟨fn.ntmps, sl, st.hp, st.nx⟩ (iend Γ fn.results.toList fn.ntmps st.sz K)) : ACallS P st f args K := by
  rw [frG_eq] at h
  refine ⟨⟨fn, hf, hname, by rw [hb]; rfl⟩, fun w0 ob a w η hsr vs hvs => ?_⟩
  refine calls_of_wp hf hb ?_
  have hle := Nat.le_of_ble_eq_true hn
  have hlen := VReps.length hvs
  let γ : Nat → Value := fun i => a.tmps.getD (i - fn.ntmps) (w0.γ (i - fn.ntmps))
  let W0 : Base := ⟨w0.w, w0.B, w0.may, γ⟩
  have hsz : (vs.toArray ++ Array.replicate (fn.ntmps - vs.toArray.size) undef).size = fn.ntmps := by simp; omega
  have hs : SRep W0 ob ⟨fn.ntmps, initSl 0 args ++ ghosts fn.ntmps st.sl, st.hp, st.nx⟩ { tmps := vs.toArray ++ Array.replicate (fn.ntmps - vs.toArray.size) undef, defers := [] } w η := by
    refine ⟨rfl, hsz, hsr.below, ⟨hsr.base.le, hsr.base.obl, hsr.base.may⟩, hsr.frame, hsr.src, hsr.heap, fun i x hi => ?_⟩
    simp only at hi
    rw [look_app] at hi
    cases hl : look (initSl 0 args) i with
    | some y =>
      rw [hl] at hi
      simp only [Option.some.injEq] at hi
      subst hi
      obtain ⟨v, _, h2, h3⟩ := init_look' hvs i y hl
      simp only [Nat.sub_zero] at h2
      have hlt : i < vs.length := (List.getElem?_eq_some_iff.1 h2).1
      have : (vs.toArray ++ Array.replicate (fn.ntmps - vs.toArray.size) undef).getD i (W0.γ i) = v := by
        rw [Array.getD_eq_getD_getElem?, Array.getElem?_append_left (by simpa using hlt)]
        simp [h2]
      rw [this]
      exact h3
    | none =>
      rw [hl] at hi
      simp only [look_ghosts] at hi
      split at hi
      case isFalse => cases hi
      case isTrue hge =>
        have : (vs.toArray ++ Array.replicate (fn.ntmps - vs.toArray.size) undef).getD i (W0.γ i) = a.tmps.getD (i - fn.ntmps) (w0.γ (i - fn.ntmps)) := by
          rw [Array.getD_eq_getD_getElem?, Array.getElem?_eq_none (by rw [hsz]; exact hge)]; rfl
        rw [this]
        exact hsr.slot _ _ hi
  refine wp_mono (acode_sound (w0 := W0) hΓ hm c _ _ _ w h ⟨η, hs⟩) (fun e a' w' hl => ?_)
  obtain ⟨st', hk, η', hs'⟩ := hl
  have hk : iend' Γ fn.results.toList fn.ntmps st.sz K e st' := by
    cases e <;> simp only [iend, frG_eq] at hk <;> exact hk
  have fin : Nat.beq st'.sz fn.ntmps = true ∧ ares Γ st' fn.results.toList (fun l => K (match l with | [x] => x | l => .tu l) ⟨st.sz, unghost fn.ntmps st'.sl, st'.hp, st'.nx⟩) → ∃ v, (results fn a'.tmps).run P w' = .ok v w' ∧
      ∃ v' x st' η', Ending.returned v = .returned v' ∧ K x st' ∧ st'.sz = st.sz ∧ SRep w0 ob st' a w' η' ∧ VRep w' (fun b => ob b ∨ ownB st'.hp η' b) st'.hp st'.nx η' x v' := fun ⟨he, hk⟩ => by
    have hsz' := Nat.eq_of_beq_eq_true he
    obtain ⟨xs, us, h1, h2, h3⟩ := ares_sound hΓ hs' hk
    have hres := results_run h3
    have back : SRep w0 ob ⟨st.sz, unghost fn.ntmps st'.sl, st'.hp, st'.nx⟩ a w' η' := by
      refine ⟨hsr.defers, hsr.size, hs'.below, hsr.base, hs'.frame, hs'.src, hs'.heap, fun i x hi => ?_⟩
      simp only [look_unghost] at hi
      have := hs'.slot _ x hi
      have hg : a'.tmps.getD (fn.ntmps + i) (W0.γ (fn.ntmps + i)) = a.tmps.getD i (w0.γ i) := by
        rw [Array.getD_eq_getD_getElem?, Array.getElem?_eq_none (by rw [hs'.size, hsz']; omega)]
        show γ (fn.ntmps + i) = _
        simp only [γ, Nat.add_sub_cancel_left]
      rw [hg] at this
      exact this
    have two : ∀ {xs : List AVal} {us : List Value}, VRs w' ob st' η' xs us → us.length ≠ 1 → K (.tu xs) ⟨st.sz, unghost fn.ntmps st'.sl, st'.hp, st'.nx⟩ → (results fn a'.tmps).run P w' = .ok (if hh : us.toArray.size = 1 then us.toArray[0] else .tuple us.toArray) w' →
        ∃ v, (results fn a'.tmps).run P w' = .ok v w' ∧
      ∃ v' x st' η', Ending.returned v = .returned v' ∧ K x st' ∧ st'.sz = st.sz ∧ SRep w0 ob st' a w' η' ∧ VRep w' (fun b => ob b ∨ ownB st'.hp η' b) st'.hp st'.nx η' x v' := by
      intro xs us h2 hne hK hres
      exact ⟨_, by rw [hres, dif_neg (by simpa using hne)], _, .tu xs, _, η', rfl, hK, rfl, back, us, rfl, h2⟩
    clear h3
    match xs, us, h2, h1, hres with
    | [x], [u], h2, h1, hres => exact ⟨u, by rw [hres]; rfl, u, x, _, η', rfl, h1, rfl, back, h2.1⟩
    | [], [], h2, h1, hres => exact two h2 (by simp) h1 hres
    | x :: y :: xs, u :: v :: us, h2, h1, hres => exact two h2 (by simp) h1 hres
  cases e with
  | ret => exact ⟨hs'.defers, fin hk⟩
  | normal => exact ⟨hs'.defers, fin hk⟩
  | _ => exact hk.elim

/-- what is there, told otherwise ahead of a call -/
theorem ACallS.view {f : FuncId} {args args' : List AVal} {K : AVal → St → Prop} {R : List (Nat × Org)} {st' : St} (hs : View R st st') (hv : vws st.hp R st'.nx args args') (h : ACallS P st' f args' K) : ACallS P st f args K := by
  refine ⟨h.fok, fun w0 ob a w η hr vs hvs => (h.run w0 ob a w _ (hs.rep hr) vs (vws_sound hr.heap (fun b hb => hr.free hb) hs.hp args args' hv hvs)).mono ?_⟩
  rintro e w' ⟨v, x, st2, η', rfl, hk, hsz, hs', hx⟩
  exact ⟨v, x, st2, η', rfl, hk, by rw [hsz, hs.sz], hs', hx⟩

/-- what is handed back, told otherwise -/
theorem FSpec.view {f : FuncId} {args : List AVal} {post post' : AVal → List (Nat × ARow) → Prop} (h : FSpec P f args post)
    (hv : ∀ x hr, post x hr → ∃ R x' hr', distinct R = true ∧ rowsVw hr R hr'.length hr' ∧ vw hr R hr'.length x x' ∧ post' x' hr') : FSpec P f args post' := by
  refine ⟨h.1, fun w bad vs hbl hvs => (h.2 w bad vs hbl hvs).mono ?_⟩
  rintro e w' ⟨v, x, hr, η, rfl, hp, hb, hh, hx⟩
  obtain ⟨R, x', hr', h1, h2, h3, h4⟩ := hv x hr hp
  have hfree : ∀ b, ownB hr η b → ¬ bad b := fun b ⟨k, r, hk, hm⟩ hbad => by
    have := ((hh.row k r hk).lt b hm).1
    have := hbl b hbad
    omega
  exact ⟨v, x', hr', ηV hr η R, rfl, h4, hb, View.heap hh hfree h1 h2, vw_sound hh hfree h2 x x' h3 hx⟩
end
end Go.Aw
/- Marks: what the laws write into what they were handed. -/
namespace Go.Aw
def marks (k : Int) (n : Nat) : List Int := (List.range n).map fun i : Nat => k + (i : Int)
def marksR : Int → List (List Int) → List (List Int)
  | _, [] => []
  | k, r :: m => marks k r.length :: marksR (k + r.length) m
def tot : List (List Int) → Nat
  | [] => 0
  | r :: m => r.length + tot m
theorem marksR_length : ∀ (k : Int) (m : List (List Int)), (marksR k m).length = m.length
  | _, [] => rfl
  | k, _ :: m => by simp [marksR, marksR_length _ m]
theorem tot_append : ∀ (m m' : List (List Int)), tot (m ++ m') = tot m + tot m'
  | [], _ => by simp [tot]
  | r :: m, m' => by simp [tot, tot_append m m', Nat.add_assoc]
theorem tot_take_le : ∀ (m : List (List Int)) (i : Nat), tot (m.take i) ≤ tot m
  | [], _ => by simp [tot]
  | _ :: _, 0 => by simp [tot]
  | r :: m, i + 1 => by have := tot_take_le m i; simp [tot]; exact this
theorem tot_take_succ : ∀ (m : List (List Int)) (i : Nat), i < m.length → tot (m.take (i + 1)) = tot (m.take i) + (m.getD i []).length
  | [], _, h => by simp at h
  | r :: m, 0, _ => by simp [tot]
  | r :: m, i + 1, h => by have := tot_take_succ m i (by simpa using h); simp [tot] at this ⊢; omega
theorem marksR_append : ∀ (k : Int) (m m' : List (List Int)), marksR k (m ++ m') = marksR k m ++ marksR (k + tot m) m'
  | _, [], _ => by simp [marksR, tot]
  | k, r :: m, m' => by simp [marksR, marksR_append _ m m', tot, Int.add_assoc]
theorem marksR_take_succ (k : Int) (m : List (List Int)) (i : Nat) (h : i < m.length) : marksR k (m.take (i + 1)) = marksR k (m.take i) ++ [marks (k + tot (m.take i)) (m.getD i []).length] := by
  rw [List.take_succ_eq_append_getElem h, marksR_append]
  simp [marksR, List.getD, h]
theorem marksR_get : ∀ (k : Int) (m : List (List Int)) (i : Nat), i < m.length → (marksR k m).getD i [] = marks (k + tot (m.take i)) (m.getD i []).length
  | _, [], _, h => by simp at h
  | k, r :: m, 0, _ => by simp [marksR, tot]
  | k, r :: m, i + 1, h => by
    have := marksR_get (k + r.length) m i (by simpa using h)
    simp only [marksR, List.getD_cons_succ, List.take_succ_cons, tot]
    rw [this, Int.add_assoc]; simp
theorem marks_length (k : Int) (n : Nat) : (marks k n).length = n := by simp [marks]
theorem marks_get {k : Int} {n i : Nat} (h : i < n) : (marks k n).getD i 0 = k + i := by simp [marks, List.getD, h]
theorem tot_mem : ∀ {m : List (List Int)} {r : List Int}, r ∈ m → r.length ≤ tot m
  | [], _, h => by simp at h
  | q :: m, r, h => by
    rcases List.mem_cons.1 h with rfl | h
    · simp [tot]
    · have := tot_mem h; simp [tot]; omega
def InR (n : Int) : Prop := -9223372036854775808 ≤ n ∧ n ≤ 9223372036854775807
def OkI (l : List Int) : Prop := l.length ≤ 9223372036854775807 ∧ ∀ x, x ∈ l → InR x
def OkM (m : List (List Int)) : Prop := m.length ≤ 9223372036854775807 ∧ ∀ r, r ∈ m → OkI r
theorem OkM.len {m : List (List Int)} (h : OkM m) : ∀ r, r ∈ m → r.length ≤ 9223372036854775807 := fun r hr => (h.2 r hr).1
def SzI (l : List Int) : Prop := l.length ≤ 1048576
def SzM (m : List (List Int)) : Prop := m.length + tot m ≤ 1048576
theorem SzM.all {m : List (List Int)} (h : SzM m) : m.length ≤ 1048576 ∧ (∀ r, r ∈ m → r.length ≤ 1048576) ∧ tot m ≤ 1048576 := by
  unfold SzM at h
  exact ⟨by omega, fun r hr => by have := tot_mem hr; omega, by omega⟩
end Go.Aw
namespace Go.Proofs.YtkomndcehdneaaaGreat
open Go.Aw
theorem szGo_tot : ∀ {m : List (List Int)} {left : Int}, 0 ≤ szGo m left → szGo m left = left - tot m
  | [], left, _ => by simp [szGo, tot]
  | r :: m, left, h => by
    simp only [szGo] at h ⊢
    split at h
    · omega
    · rename_i hn
      rw [if_neg hn, szGo_tot h]
      simp [tot]
      omega
theorem szSS_tot {m : List (List Int)} {left : Int} (h : 0 ≤ szSS m left) : 0 ≤ szSS m left ∧ szSS m left = left - m.length - tot m := by
  refine ⟨h, ?_⟩
  unfold szSS at h ⊢
  split at h
  · omega
  · rename_i hn
    rw [if_neg hn, szGo_tot h]

theorem marks_step (l : List Int) (k : Int) (i : Nat) (h : i < l.length) : (marks k i ++ l.drop i).set i (k + i) = marks k (i + 1) ++ l.drop (i + 1) := by
  rw [List.set_append_right _ _ (by simp [marks]), marks_length, Nat.sub_self, List.drop_eq_getElem_cons h, List.set_cons_zero]
  simp [marks, List.range_succ]




end Go.Proofs.YtkomndcehdneaaaGreat
/- Small facts and small functions that many texts use. -/
namespace Go.Aw
abbrev W (n : Int) : Int := IntKind.i64.wrap n
def fo {α : Type} (f : α → Nat → α) (a : α) : Nat → α
  | 0 => a
  | n + 1 => f (fo f a n) n
theorem fo_congr {α : Type} {f g : α → Nat → α} {a : α} : ∀ {n : Nat}, (∀ b k, k < n → f b k = g b k) → fo f a n = fo g a n
  | 0, _ => rfl
  | n + 1, h => by rw [fo, fo, fo_congr (fun b k hk => h b k (by omega)), h _ n (by omega)]
theorem nat_wrap {k : Nat} (h : k ≤ 9223372036854775806) : IntKind.i64.wrap ((k : Int) + 1) = ((k + 1 : Nat) : Int) := by rw [w64 (by omega) (by omega)]; omega
theorem map_range_succ {α : Type} (f : Nat → α) (k : Nat) : (List.range k).map f ++ [f k] = (List.range (k + 1)).map f := by rw [List.range_succ, List.map_append]; rfl
theorem shl_one {n : Nat} (h : n ≤ 12) : shl .i64 1 n = ((2 ^ n : Nat) : Int) := by
  have : n = 0 ∨ n = 1 ∨ n = 2 ∨ n = 3 ∨ n = 4 ∨ n = 5 ∨ n = 6 ∨ n = 7 ∨ n = 8 ∨ n = 9 ∨ n = 10 ∨ n = 11 ∨ n = 12 := by omega
  rcases this with h | h | h | h | h | h | h | h | h | h | h | h | h <;> subst h <;> rfl
theorem two_pow_le {n : Nat} (h : n ≤ 12) : 2 ^ n ≤ 4096 := by
  have := Nat.pow_le_pow_right (n := 2) (by omega) h
  simpa using this
end Go.Aw
namespace Go.Aw
section
variable {P : Program}
/-- (slice, bool): nil where it is false -/
def nilOr (ok : Bool) (r : ARow) : AVal → List (Nat × ARow) → Prop := fun x h =>
  (ok = false ∧ x = .tu [.c (.slice none 0 0), .c (.bool false)] ∧ h = []) ∨ (ok = true ∧ x = .tu [.own 0, .c (.bool true)] ∧ h = [(0, r)])

theorem view_rows {f : FuncId} {args : List AVal} {ok : Bool} {e e1 : Nat} {m : List (List Int)} (h : FSpec P f args (nilOr ok (.rows e e1 true m))) :
    FSpec P f args (ex (.tu [.own 0, .c (.bool ok)]) [(0, .rows e e1 true (if ok then m else []))]) := by
  refine FSpec.view h ?_
  rintro x hr (⟨rfl, rfl, rfl⟩ | ⟨rfl, rfl, rfl⟩)
  · exact ⟨[(0, .nil)], .tu [.own 0, .c (.bool false)], [(0, .rows e e1 true [])], rfl, ⟨rfl, trivial, trivial⟩, ⟨⟨rfl, rfl, rfl⟩, rfl, trivial⟩, rfl, rfl⟩
  · exact ⟨[(0, .row 0)], .tu [.own 0, .c (.bool true)], [(0, .rows e e1 true m)], rfl, ⟨rfl, rfl, trivial⟩, ⟨⟨rfl, rfl⟩, rfl, trivial⟩, rfl, rfl⟩

theorem view_ints {f : FuncId} {args : List AVal} {ok : Bool} {e : Nat} {k : IntKind} {l : List Int} (h : FSpec P f args (nilOr ok (.ints e k l))) :
    FSpec P f args (ex (.tu [.own 0, .c (.bool ok)]) [(0, .ints e k (if ok then l else []))]) := by
  refine FSpec.view h ?_
  rintro x hr (⟨rfl, rfl, rfl⟩ | ⟨rfl, rfl, rfl⟩)
  · exact ⟨[(0, .nil)], .tu [.own 0, .c (.bool false)], [(0, .ints e k [])], rfl, ⟨rfl, trivial, trivial⟩, ⟨⟨rfl, rfl, rfl⟩, rfl, trivial⟩, rfl, rfl⟩
  · exact ⟨[(0, .row 0)], .tu [.own 0, .c (.bool true)], [(0, .ints e k l)], rfl, ⟨rfl, rfl, trivial⟩, ⟨⟨rfl, rfl⟩, rfl, trivial⟩, rfl, rfl⟩
end
theorem tot_le_mul {m : List (List Int)} {n : Nat} (h : ∀ r, r ∈ m → r.length ≤ n) : tot m ≤ m.length * n := by
  induction m with
  | nil => simp [tot]
  | cons r m ih =>
    have h1 := h r (by simp)
    have h2 := ih (fun q hq => h q (by simp [hq]))
    simp only [tot, List.length_cons, Nat.succ_mul]
    omega
end Go.Aw
namespace Go.Aw
theorem map_getD {α β : Type} {f : α → β} {l : List α} {i : Nat} {d : α} {e : β} (h : i < l.length) : (l.map f).getD i e = f (l.getD i d) := by
  simp [List.getD, h]
theorem range_getD {β : Type} {f : Nat → β} {n i : Nat} {e : β} (h : i < n) : ((List.range n).map f).getD i e = f i := by
  simp [List.getD, h]
theorem rall_succ {p : Nat → Bool} {k : Nat} (h1 : (List.range k).all p = true) (h2 : p k = true) : (List.range (k + 1)).all p = true := by
  rw [List.range_succ, List.all_append, h1]; simp [h2]
theorem rall_false {p : Nat → Bool} {k n : Nat} (h : k < n) (h2 : p k = false) : (List.range n).all p = false := by
  rw [List.all_eq_false]
  exact ⟨k, by simpa using h, by simp [h2]⟩
end Go.Aw
namespace Go.Proofs.YtkomndcehdneaaaGreat
open Go.Aw
set_option maxRecDepth 100000

theorem getD_lt {α : Type} {l : List α} {d : α} {i : Nat} (h : i < l.length) : l.getD i d = l[i] := by rw [List.getD_eq_getElem?_getD, List.getElem?_eq_getElem h]; rfl

def inR (x a b : Int) : Bool := decide (a ≤ x ∧ x ≤ b)
def rowIn (r : List Int) (a b : Int) : Bool := r.all (fun x => inR x a b)
theorem all_take_succ {α : Type} {m : List α} {d : α} {p : α → Bool} {k : Nat} (h : k < m.length) (h1 : (m.take k).all p = true) (h2 : p (m.getD k d) = true) : (m.take (k + 1)).all p = true := by
  rw [List.take_succ_eq_append_getElem h, List.all_append, h1]
  rw [List.getD_eq_getElem?_getD, List.getElem?_eq_getElem h] at h2
  simpa using h2

theorem all_false {α : Type} {m : List α} {d : α} {p : α → Bool} {k : Nat} (h : k < m.length) (h2 : p (m.getD k d) = false) : m.all p = false := by
  rw [List.all_eq_false]
  exact ⟨m.getD k d, getD_mem h, by simpa using h2⟩

theorem all_end {α : Type} {m : List α} {p : α → Bool} {k : Nat} (h : ¬ k < m.length) (h1 : (m.take k).all p = true) : m.all p = true := by
  rwa [List.take_of_length_le (by omega)] at h1

theorem l1In_spec (x a b : Int) : FSpec Tryz.prog 132 [.c (.int .i64 x), .c (.int .i64 a), .c (.int .i64 b)] (ex (.c (.bool (inR x a b))) []) := by
  refine fspec tyOk mx Tryz.func132 rfl (by kernel_rfl) rfl ?_
  refine ⟨fun h => ?_, fun h => ?_⟩ <;> (conv => whnf) <;> refine ⟨?_, rfl⟩ <;> simp only [inR, decide_eq_true_eq, decide_eq_false_iff_not] at h ⊢
  · simp [h]
  · simp [show ¬ a ≤ x by omega]

theorem within_spec (x a b : Int) : FSpec Tryz.prog 106 [.c (.int .i64 x), .c (.int .i64 a), .c (.int .i64 b)] (ex (.c (.bool (inR x a b))) []) := by
  refine fspec tyOk mx Tryz.func106 rfl (by kernel_rfl) rfl ?_
  refine ⟨fun h => ?_, fun h => ?_⟩ <;> (conv => whnf) <;> refine ⟨?_, rfl⟩ <;> simp only [inR, decide_eq_true_eq, decide_eq_false_iff_not] at h ⊢
  · simp [h]
  · simp [show ¬ a ≤ x by omega]

theorem allWithin_spec (r : List Int) (a b : Int) (hl : r.length ≤ 9223372036854775807) :
    FSpec Tryz.prog 129 [.t (.ints .i64 r), .c (.int .i64 a), .c (.int .i64 b)] (ex (.c (.bool (rowIn r a b))) []) := by
  refine fspec tyOk mx Tryz.func129 rfl (by kernel_rfl) rfl ?_
  conv => whnf
  refine aloopI tyOk mx (fun k : Nat => (⟨21, [(0, .t (.ints .i64 r)), (1, .c (.int .i64 a)), (2, .c (.int .i64 b)), (9, .t (.ints .i64 r)), (10, .c (.int .i64 r.length)), (11, .c (.int .i64 (k : Int)))], [], 0⟩ : St)) (fun k => k ≤ r.length ∧ (r.take k).all (fun x => inR x a b) = true) (fun k => r.length - k)
    0 ⟨by omega, rfl⟩ none (by refine ⟨rfl, rfl, ?_, ?_⟩ <;> ((repeat' (first | exact trivial | exact rfl | refine And.intro ?_ ?_)) <;> (try ((conv => whnf); first | refine vint ?_ | refine vboo ?_ | refine rint ?_ | refine rrow ?_ | skip)) <;> (try first | omega | (simp; done) | ((repeat rw [flts_closed _ (by assumption)]); exact vws_closed _ (by assumption))))) (fun k hI => ?_)
  obtain ⟨hk, hp⟩ := hI
  refine ⟨fun h => ?_, fun h => ?_⟩
  · have hk1 : k < r.length := by simpa using h
    conv => whnf
    refine ⟨k, rfl, hk1, ?_⟩
    conv => whnf
    refine ACall.use (within_spec _ _ _) ?_
    refine ⟨fun h => ?_, fun h => ?_⟩
    · conv => whnf
      refine ⟨?_, rfl⟩
      rw [rowIn, all_false (d := 0) hk1 (by simpa using h)]
    · conv => whnf
      rw [w64 (by omega) (by omega)]
      exact ⟨k + 1, none, (by refine ⟨rfl, rfl, ?_, ?_⟩ <;> ((repeat' (first | exact trivial | exact rfl | refine And.intro ?_ ?_)) <;> (try ((conv => whnf); first | refine vint ?_ | refine vboo ?_ | refine rint ?_ | refine rrow ?_ | skip)) <;> (try first | omega | (simp; done) | ((repeat rw [flts_closed _ (by assumption)]); exact vws_closed _ (by assumption))))), ⟨by omega, all_take_succ (d := 0) hk1 hp (by simpa using h)⟩, by omega⟩
  · have hk1 : ¬ k < r.length := by simpa using h
    conv => whnf
    refine ⟨?_, rfl⟩
    rw [rowIn, all_end hk1 hp]

end Go.Proofs.YtkomndcehdneaaaGreat
/- Finite sums. -/
namespace Go.Aw
def sm (f : Nat → Int) : Nat → Int
  | 0 => 0
  | n + 1 => sm f n + f n
theorem sm_congr {f g : Nat → Int} : ∀ {n : Nat}, (∀ i, i < n → f i = g i) → sm f n = sm g n
  | 0, _ => rfl
  | n + 1, h => by rw [sm, sm, sm_congr (fun i hi => h i (by omega)), h n (by omega)]
theorem sm_add (f g : Nat → Int) : ∀ n, sm (fun i => f i + g i) n = sm f n + sm g n
  | 0 => rfl
  | n + 1 => by simp only [sm]; rw [sm_add f g n]; omega
theorem sm_sub (f g : Nat → Int) : ∀ n, sm (fun i => f i - g i) n = sm f n - sm g n
  | 0 => rfl
  | n + 1 => by simp only [sm]; rw [sm_sub f g n]; omega
theorem sm_bd {f : Nat → Int} {b : Int} : ∀ {n : Nat}, (∀ i, i < n → -b ≤ f i ∧ f i ≤ b) → -(n * b) ≤ sm f n ∧ sm f n ≤ n * b
  | 0, _ => by simp [sm]
  | n + 1, h => by
      have h1 := sm_bd (fun i hi => h i (Nat.lt_succ_of_lt hi)) (n := n)
      have h2 := h n (by omega)
      rw [sm, show ((n + 1 : Nat) : Int) * b = n * b + b by rw [Int.natCast_add, Int.add_mul]; simp]
      omega
theorem sm_mul (c : Int) (f : Nat → Int) : ∀ n, sm (fun i => c * f i) n = c * sm f n
  | 0 => by simp [sm]
  | n + 1 => by simp only [sm]; rw [sm_mul c f n, Int.mul_add]
theorem sm_mul_r (c : Int) (f : Nat → Int) : ∀ n, sm (fun i => f i * c) n = sm f n * c
  | 0 => by simp [sm]
  | n + 1 => by simp only [sm]; rw [sm_mul_r c f n, Int.add_mul]
theorem sm_zero : ∀ n, sm (fun _ => 0) n = 0
  | 0 => rfl
  | n + 1 => by simp only [sm]; rw [sm_zero n]; rfl
theorem sm_comm (f : Nat → Nat → Int) (k : Nat) : ∀ n, sm (fun i => sm (fun j => f i j) k) n = sm (fun j => sm (fun i => f i j) n) k
  | 0 => by simp only [sm]; exact (sm_zero k).symm
  | n + 1 => by simp only [sm]; rw [sm_comm f k n, ← sm_add]
theorem sm_le {f g : Nat → Int} : ∀ {n : Nat}, (∀ i, i < n → f i ≤ g i) → sm f n ≤ sm g n
  | 0, _ => Int.le_refl _
  | n + 1, h => by
      have h1 := sm_le (fun i hi => h i (Nat.lt_succ_of_lt hi)) (n := n)
      have h2 := h n (by omega)
      simp only [sm]; omega
theorem sm_pos {f : Nat → Int} {n : Nat} (h : ∀ i, i < n → 0 ≤ f i) : 0 ≤ sm f n := by
  have := sm_le (f := fun _ => 0) (g := f) h
  rwa [sm_zero] at this
theorem sm_flat (f : Nat → Int) (k : Nat) : ∀ n, sm (fun i => sm (fun j => f (i * k + j)) k) n = sm f (n * k)
  | 0 => by simp [sm]
  | n + 1 => by
      have hs : ∀ j, sm f (n * k + j) = sm f (n * k) + sm (fun i => f (n * k + i)) j := by
        intro j
        induction j with
        | zero => simp [sm]
        | succ j ih => rw [← Nat.add_assoc]; simp only [sm]; rw [ih]; omega
      simp only [sm]
      rw [sm_flat f k n, Nat.add_mul, Nat.one_mul, hs]
/-- sums that the machine wraps, where they stay small -/
theorem foA {g : Int → Nat → Int} {F : Nat → Int} {B K : Int} {n : Nat} (hF : ∀ x, x < n → 0 ≤ F x ∧ F x ≤ B) (hg : ∀ a x, x < n → 0 ≤ a → a ≤ K → g a x = a + F x) {a0 : Int} (h0 : 0 ≤ a0) (hB : 0 ≤ B) (hK : a0 + n * B ≤ K) :
    ∀ k, k ≤ n → fo g a0 k = a0 + sm F k ∧ a0 ≤ fo g a0 k ∧ fo g a0 k ≤ a0 + k * B
  | 0, _ => by simp [fo, sm]
  | k + 1, hk => by
      obtain ⟨h1, h2, h3⟩ := foA hF hg h0 hB hK k (by omega)
      have hf := hF k (by omega)
      have hm : (k : Int) * B ≤ n * B := Int.mul_le_mul_of_nonneg_right (by omega) hB
      have e := hg (fo g a0 k) k (by omega) (by omega) (by omega)
      have e2 : ((k + 1 : Nat) : Int) * B = k * B + B := by rw [Int.natCast_add, Int.add_mul]; simp
      simp only [fo, sm]
      rw [e, e2]
      exact ⟨by rw [h1]; omega, by omega, by omega⟩
/-- the greatest of some numbers that are 0 at least -/
theorem foM {m2 : Int → Int → Int} (hm : ∀ a b, m2 a b = if b > a then b else a) {f : Nat → Int} : ∀ {n : Nat}, (∀ k, k < n → 0 ≤ f k) →
    0 ≤ fo (fun b k => m2 b (f k)) 0 n ∧ (∀ k, k < n → f k ≤ fo (fun b k => m2 b (f k)) 0 n) ∧ (0 < n → ∃ k, k < n ∧ fo (fun b k => m2 b (f k)) 0 n = f k)
  | 0, _ => ⟨Int.le_refl _, fun k hk => absurd hk (by omega), fun h => absurd h (by omega)⟩
  | n + 1, h => by
      obtain ⟨h0, h1, h2⟩ := foM hm (fun k hk => h k (Nat.lt_succ_of_lt hk)) (n := n)
      have hn := h n (by omega)
      simp only [fo]
      rw [hm]
      split
      · rename_i hgt
        refine ⟨hn, fun k hk => ?_, fun _ => ⟨n, by omega, rfl⟩⟩
        by_cases e : k = n
        · subst e; exact Int.le_refl _
        · have := h1 k (by omega); omega
      · rename_i hgt
        refine ⟨h0, fun k hk => ?_, fun _ => ?_⟩
        · by_cases e : k = n
          · subst e; omega
          · exact h1 k (by omega)
        · by_cases hz : 0 < n
          · obtain ⟨k, hk, e⟩ := h2 hz
            exact ⟨k, by omega, e⟩
          · have : n = 0 := by omega
            subst this
            refine ⟨0, by omega, ?_⟩
            simp only [fo] at hgt ⊢
            omega
end Go.Aw
/- Sign games: the test of the shape. -/
namespace Go.Proofs.YtkomndcehdneaaaGreat
open Go.Aw

def goodM (m : List (List Int)) : Bool := inR m.length 1 3 && m.all (fun r => inR r.length 1 3 && decide (r.length = (m.getD 0 []).length) && rowIn r (-9) 9)

theorem l5Row_spec (r : List Int) (n most : Int) (hm : 0 ≤ most) (hm' : most ≤ 9223372036854775807) (hl : r.length ≤ 9223372036854775807) :
    FSpec Tryz.prog 176 [.t (.ints .i64 r), .c (.int .i64 n), .c (.int .i64 most)] (ex (.c (.bool (rowIn r (-most) most && decide ((r.length : Int) = n)))) []) := by
  refine fspec tyOk mx Tryz.func176 rfl (by kernel_rfl) rfl ?_
  conv => whnf
  have hw : IntKind.i64.wrap (0 - most) = -most := by rw [w64 (by omega) (by omega)]; omega
  refine aloopI tyOk mx (fun k : Nat => (⟨27, [(0, .t (.ints .i64 r)), (1, .c (.int .i64 n)), (2, .c (.int .i64 most)), (7, .c (.int .i64 (k : Int)))], [], 0⟩ : St)) (fun k => k ≤ r.length ∧ (r.take k).all (fun x => inR x (-most) most) = true) (fun k => r.length - k)
    0 ⟨by omega, rfl⟩ none (by refine ⟨rfl, rfl, ?_, ?_⟩ <;> ((repeat' (first | exact trivial | exact rfl | refine And.intro ?_ ?_)) <;> (try ((conv => whnf); first | refine vint ?_ | refine vboo ?_ | refine rint ?_ | refine rrow ?_ | skip)) <;> (try first | omega | (simp; done) | ((repeat rw [flts_closed _ (by assumption)]); exact vws_closed _ (by assumption))))) (fun k hI => ?_)
  obtain ⟨hk, hp⟩ := hI
  refine ⟨fun h => ?_, fun h => ?_⟩
  · have hk1 : k < r.length := by simpa using h
    conv => whnf
    refine ⟨k, rfl, hk1, ?_⟩
    conv => whnf
    rw [hw]
    refine ACall.use (l1In_spec _ _ _) ?_
    refine ⟨fun h => ?_, fun h => ?_⟩
    · conv => whnf
      refine ⟨?_, rfl⟩
      rw [rowIn, all_false (d := 0) hk1 (by simpa using h)]
      rfl
    · conv => whnf
      rw [w64 (by omega) (by omega)]
      exact ⟨k + 1, none, (by refine ⟨rfl, rfl, ?_, ?_⟩ <;> ((repeat' (first | exact trivial | exact rfl | refine And.intro ?_ ?_)) <;> (try ((conv => whnf); first | refine vint ?_ | refine vboo ?_ | refine rint ?_ | refine rrow ?_ | skip)) <;> (try first | omega | (simp; done) | ((repeat rw [flts_closed _ (by assumption)]); exact vws_closed _ (by assumption))))), ⟨by omega, all_take_succ (d := 0) hk1 hp (by simpa using h)⟩, by omega⟩
  · have hk1 : ¬ k < r.length := by simpa using h
    conv => whnf
    refine ⟨?_, rfl⟩
    rw [rowIn, all_end hk1 hp, Bool.true_and]
    rfl

theorem l5Good_spec (m : List (List Int)) (hm : m.length ≤ 9223372036854775807) (hr : ∀ r, r ∈ m → r.length ≤ 9223372036854775807) :
    FSpec Tryz.prog 113 [.t (.rows m)] (ex (.c (.bool (goodM m))) []) := by
  refine fspec tyOk mx Tryz.func113 rfl (by kernel_rfl) rfl ?_
  conv => whnf
  refine aloopI tyOk mx (fun k : Nat => (⟨32, [(0, .t (.rows m)), (3, .c (.int .i64 (k : Int)))], [], 0⟩ : St))
    (fun k => k ≤ m.length ∧ (m.take k).all (fun r => inR r.length 1 3 && decide (r.length = (m.getD 0 []).length) && rowIn r (-9) 9) = true) (fun k => m.length - k)
    0 ⟨by omega, rfl⟩ none (by refine ⟨rfl, rfl, ?_, ?_⟩ <;> ((repeat' (first | exact trivial | exact rfl | refine And.intro ?_ ?_)) <;> (try ((conv => whnf); first | refine vint ?_ | refine vboo ?_ | refine rint ?_ | refine rrow ?_ | skip)) <;> (try first | omega | (simp; done) | ((repeat rw [flts_closed _ (by assumption)]); exact vws_closed _ (by assumption))))) (fun k hI => ?_)
  obtain ⟨hk, hp⟩ := hI
  refine ⟨fun h => ?_, fun h => ?_⟩
  · have hk1 : k < m.length := by simpa using h
    conv => whnf
    refine ADraw.std tyOk mx ⟨by kernel_rfl, k, rfl, hk1, ?_⟩
    conv => whnf
    refine QCall.use (l1In_spec _ _ _) ?_
    refine ⟨fun h => ?_, fun h => ?_⟩
    · conv => whnf
      refine ⟨k, rfl, hk1, 0, rfl, by omega, ?_⟩
      conv => whnf
      refine QCall.use (l5Row_spec _ _ _ (by omega) (by omega) (hr _ (getD_mem hk1))) ?_
      refine ⟨fun h2 => ?_, fun h2 => ?_⟩
      · conv => whnf
        refine ⟨?_, rfl⟩
        rw [goodM, all_false (d := []) hk1, Bool.and_false]
        simp at h h2 ⊢
        intro _ h3
        rcases h2 with h2 | h2
        · exact h2
        · omega
      · conv => whnf
        rw [w64 (by omega) (by omega)]
        refine ⟨k + 1, none, (by refine ⟨rfl, rfl, ?_, ?_⟩ <;> ((repeat' (first | exact trivial | exact rfl | refine And.intro ?_ ?_)) <;> (try ((conv => whnf); first | refine vint ?_ | refine vboo ?_ | refine rint ?_ | refine rrow ?_ | skip)) <;> (try first | omega | (simp; done) | ((repeat rw [flts_closed _ (by assumption)]); exact vws_closed _ (by assumption))))), ⟨by omega, all_take_succ (d := []) hk1 hp ?_⟩, by omega⟩
        simp at h h2 ⊢
        exact ⟨⟨h, by omega⟩, h2.1⟩
    · refine ⟨fun _ => ?_, fun h => nomatch h⟩
      conv => whnf
      refine ⟨?_, rfl⟩
      rw [goodM, all_false (d := []) hk1, Bool.and_false]
      simp at h ⊢
      simp [h]
  · have hk1 : ¬ k < m.length := by simpa using h
    conv => whnf
    refine ACall.use (l1In_spec _ _ _) ?_
    conv => whnf
    refine ⟨?_, rfl⟩
    rw [goodM, all_end hk1 hp, Bool.and_true]

theorem IsSignGame_spec (m : List (List Int)) (hm : m.length ≤ 9223372036854775807) (hr : ∀ r, r ∈ m → r.length ≤ 9223372036854775807) :
    FSpec Tryz.prog 58 [.t (.rows m)] (ex (.c (.bool (goodM m))) []) := by
  refine fspec tyOk mx Tryz.func58 rfl (by kernel_rfl) rfl ?_
  conv => whnf
  refine ACall.use (l5Good_spec m hm hr) ?_
  conv => whnf
  exact ⟨rfl, rfl⟩

theorem iIsSignGame_spec (m : List (List Int)) (hm : m.length ≤ 9223372036854775807) (hr : ∀ r, r ∈ m → r.length ≤ 9223372036854775807) :
    FSpec Tryz.prog 57 [.t (.rows m)] (ex (.c (.bool (goodM m))) []) := by
  refine fspec tyOk mx Tryz.func57 rfl (by kernel_rfl) rfl ?_
  conv => whnf
  refine ACall.use (within_spec _ _ _) ?_
  refine ⟨fun h => ?_, fun h => ?_⟩
  · conv => whnf
    refine ⟨?_, rfl⟩
    simp only [Bool.not_eq_true'] at h
    rw [goodM, h, Bool.false_and]
  have h0 : inR m.length 1 3 = true := by simpa using h
  conv => whnf
  refine aloopI tyOk mx (fun k : Nat => (⟨34, [(0, .t (.rows m)), (9, .t (.rows m)), (10, .c (.int .i64 m.length)), (11, .c (.int .i64 (k : Int)))], [], 0⟩ : St))
    (fun k => k ≤ m.length ∧ (m.take k).all (fun r => inR r.length 1 3 && decide (r.length = (m.getD 0 []).length) && rowIn r (-9) 9) = true) (fun k => m.length - k)
    0 ⟨by omega, rfl⟩ none (by refine ⟨rfl, rfl, ?_, ?_⟩ <;> ((repeat' (first | exact trivial | exact rfl | refine And.intro ?_ ?_)) <;> (try ((conv => whnf); first | refine vint ?_ | refine vboo ?_ | refine rint ?_ | refine rrow ?_ | skip)) <;> (try first | omega | (simp; done) | ((repeat rw [flts_closed _ (by assumption)]); exact vws_closed _ (by assumption))))) (fun k hI => ?_)
  obtain ⟨hk, hp⟩ := hI
  refine ⟨fun h => ?_, fun h => ?_⟩
  · have hk1 : k < m.length := by simpa using h
    conv => whnf
    refine ⟨k, rfl, hk1, ?_⟩
    conv => whnf
    have q : ∀ b, (inR (m.getD k []).length 1 3 && decide ((m.getD k []).length = (m.getD 0 []).length) && rowIn (m.getD k []) (-9) 9) = b → b = false → goodM m = false := fun b hb hf => by
      rw [goodM, all_false (d := []) hk1 (by rw [hb, hf]), Bool.and_false]
    refine ACall.use (within_spec _ _ _) ?_
    refine ⟨fun h1 => ?_, fun h1 => ?_⟩
    · simp only [Bool.not_eq_false'] at h1
      refine ⟨0, rfl, by omega, ?_⟩
      refine ⟨fun h2 => ?_, fun h2 => ?_⟩
      · simp only [bne_eq_false_iff_eq, Int.natCast_inj] at h2
        refine ACall.use (allWithin_spec _ _ _ (hr _ (getD_mem hk1))) ?_
        refine ⟨fun h3 => ?_, fun h3 => ?_⟩
        · simp only [Bool.not_eq_true'] at h3
          conv => whnf
          exact ⟨by rw [q false (by rw [h3, Bool.and_false]) rfl], rfl⟩
        · simp only [Bool.not_eq_false'] at h3
          conv => whnf
          rw [w64 (by omega) (by omega)]
          exact ⟨k + 1, none, (by refine ⟨rfl, rfl, ?_, ?_⟩ <;> ((repeat' (first | exact trivial | exact rfl | refine And.intro ?_ ?_)) <;> (try ((conv => whnf); first | refine vint ?_ | refine vboo ?_ | refine rint ?_ | refine rrow ?_ | skip)) <;> (try first | omega | (simp; done) | ((repeat rw [flts_closed _ (by assumption)]); exact vws_closed _ (by assumption))))), ⟨by omega, all_take_succ (d := []) hk1 hp (by rw [h1, h3, decide_eq_true h2]; rfl)⟩, by omega⟩
      · refine ⟨fun _ => ?_, fun h => nomatch h⟩
        simp only [bne_iff_ne, ne_eq, Int.natCast_inj] at h2
        conv => whnf
        exact ⟨by rw [q false (by simp only [h2]; simp) rfl], rfl⟩
    · simp only [Bool.not_eq_true'] at h1
      refine ⟨fun h => (nomatch h), fun _ => ?_⟩
      refine ⟨fun _ => ?_, fun h => nomatch h⟩
      conv => whnf
      exact ⟨by rw [q false (by rw [h1]; rfl) rfl], rfl⟩
  · have hk1 : ¬ k < m.length := by simpa using h
    conv => whnf
    refine ⟨?_, rfl⟩
    rw [goodM, all_end hk1 hp, Bool.and_true, h0]

end Go.Proofs.YtkomndcehdneaaaGreat
/- Signs and sums. -/
namespace Go.Proofs.YtkomndcehdneaaaGreat
open Go.Aw

def sgAt (n code i : Nat) : Int := W (W (2 * bits .and .i64 (shr .i64 code ((n : Int) - 1 - i)) 1) - 1)
def sgRow (n code : Nat) : List Int := (List.range n).map (sgAt n code)
def signsL (n : Nat) : List (List Int) := (List.range (2 ^ n)).map (sgRow n)

theorem l5Signs_spec (n : Nat) (hn : n ≤ 12) : FSpec Tryz.prog 116 [.c (.int .i64 n)] (ex (.own 0) [(0, .rows 38 3 true (signsL n))]) := by
  have h2 := two_pow_le hn
  refine fspec tyOk mx Tryz.func116 rfl (by kernel_rfl) rfl ?_
  conv => whnf
  refine aloopI tyOk mx (fun c : Nat => (⟨37, [(0, .c (.int .i64 n)), (3, .own 0), (4, .c (.int .i64 (c)))], [(0, .rows 38 3 true ((List.range c).map (sgRow n)))], 1⟩ : St)) (fun c => c ≤ 2 ^ n) (fun c => 2 ^ n - c) 0 (Nat.zero_le _) none (by refine ⟨rfl, rfl, ?_, ?_⟩ <;> ((repeat' (first | exact trivial | exact rfl | refine And.intro ?_ ?_)) <;> (try ((conv => whnf); first | refine vint ?_ | refine vboo ?_ | refine rint ?_ | refine rrow ?_ | skip)) <;> (try first | omega | (simp; done) | ((repeat rw [flts_closed _ (by assumption)]); exact vws_closed _ (by assumption))))) (fun c hc => ?_)
  refine ⟨by omega, fun h => ?_, fun h => ?_⟩
  · rw [shl_one hn] at h
    have hc1 : c < 2 ^ n := Int.ofNat_lt.1 (of_decide_eq_true h)
    conv => whnf
    refine aloopI tyOk mx (fun i : Nat => (⟨37, [(0, .c (.int .i64 n)), (3, .own 0), (4, .c (.int .i64 (c))), (5, .own 1), (6, .c (.int .i64 (i)))], [(0, .rows 38 3 true ((List.range c).map (sgRow n))), (1, .ints 3 .i64 ((List.range i).map (sgAt n c)))], 2⟩ : St)) (fun i => i ≤ n) (fun i => n - i) 0 (by omega) none (by refine ⟨rfl, rfl, ?_, ?_⟩ <;> ((repeat' (first | exact trivial | exact rfl | refine And.intro ?_ ?_)) <;> (try ((conv => whnf); first | refine vint ?_ | refine vboo ?_ | refine rint ?_ | refine rrow ?_ | skip)) <;> (try first | omega | (simp; done) | ((repeat rw [flts_closed _ (by assumption)]); exact vws_closed _ (by assumption))))) (fun i hi => ?_)
    refine ⟨fun h => ?_, fun h => ?_⟩
    · have hi1 : i < n := by simpa using h
      have e1 : IntKind.i64.wrap (IntKind.i64.wrap ((n : Int) - 1) - i) = (n : Int) - 1 - i := by rw [w64 (n := (n : Int) - 1) (by omega) (by omega), w64 (by omega) (by omega)]
      conv => whnf
      rw [e1]
      refine ⟨by omega, ?_⟩
      conv => whnf
      refine ⟨by simp [room]; omega, ?_⟩
      conv => whnf
      rw [nat_wrap (by omega)]
      refine ⟨i + 1, none, ?_, hi1, by omega⟩
      (refine ⟨rfl, rfl, ?_, ?_⟩ <;> ((repeat' (first | exact trivial | exact rfl | refine And.intro ?_ ?_)) <;> (try ((conv => whnf); first | refine vint ?_ | refine vboo ?_ | refine rint ?_ | refine rrow ?_ | skip)) <;> (try first | omega | (simp; done) | ((repeat rw [flts_closed _ (by assumption)]); exact vws_closed _ (by assumption)))))
      rw [← map_range_succ]; rfl
    · have hi1 : n ≤ i := by simpa using h
      obtain rfl : i = n := by omega
      conv => whnf
      refine ⟨by simp [room]; omega, ?_⟩
      conv => whnf
      rw [nat_wrap (by omega)]
      refine ⟨c + 1, none, ?_, hc1, by omega⟩
      (refine ⟨rfl, rfl, ?_, ?_⟩ <;> ((repeat' (first | exact trivial | exact rfl | refine And.intro ?_ ?_)) <;> (try ((conv => whnf); first | refine vint ?_ | refine vboo ?_ | refine rint ?_ | refine rrow ?_ | skip)) <;> (try first | omega | (simp; done) | ((repeat rw [flts_closed _ (by assumption)]); exact vws_closed _ (by assumption)))))
      rw [← map_range_succ]; rfl
  · rw [shl_one hn] at h
    have hc1 : 2 ^ n ≤ c := Nat.not_lt.1 fun hh => of_decide_eq_false h (Int.ofNat_lt.2 hh)
    obtain rfl : c = 2 ^ n := by omega
    conv => whnf
    exact ⟨rfl, rfl⟩

theorem signsOf_spec (n : Nat) (hn : n ≤ 12) : FSpec Tryz.prog 174 [.c (.int .i64 n)] (ex (.own 0) [(0, .rows 38 3 true (signsL n))]) := by
  have h2 := two_pow_le hn
  refine fspec tyOk mx Tryz.func174 rfl (by kernel_rfl) rfl ?_
  conv => whnf
  refine ⟨by omega, ?_⟩
  rw [shl_one hn]
  conv => whnf
  refine aloopI tyOk mx (fun c : Nat => (⟨37, [(0, .c (.int .i64 n)), (3, .own 0), (9, .c (.int .i64 ((2 ^ n : Nat)))), (10, .c (.int .i64 (c)))], [(0, .rows 38 3 true ((List.range c).map (sgRow n)))], 1⟩ : St)) (fun c => c ≤ 2 ^ n) (fun c => 2 ^ n - c) 0 (Nat.zero_le _) none (by refine ⟨rfl, rfl, ?_, ?_⟩ <;> ((repeat' (first | exact trivial | exact rfl | refine And.intro ?_ ?_)) <;> (try ((conv => whnf); first | refine vint ?_ | refine vboo ?_ | refine rint ?_ | refine rrow ?_ | skip)) <;> (try first | omega | (simp; done) | ((repeat rw [flts_closed _ (by assumption)]); exact vws_closed _ (by assumption))))) (fun c hc => ?_)
  refine ⟨fun h => ?_, fun h => ?_⟩
  · have hc1 : c < 2 ^ n := Int.ofNat_lt.1 (of_decide_eq_true h)
    conv => whnf
    refine aloopI tyOk mx (fun i : Nat => (⟨37, [(0, .c (.int .i64 n)), (3, .own 0), (4, .c (.int .i64 (c))), (5, .own 1), (9, .c (.int .i64 ((2 ^ n : Nat)))), (10, .c (.int .i64 (c))), (14, .c (.int .i64 n)), (15, .c (.int .i64 (i)))], [(0, .rows 38 3 true ((List.range c).map (sgRow n))), (1, .ints 3 .i64 ((List.range i).map (sgAt n c)))], 2⟩ : St)) (fun i => i ≤ n) (fun i => n - i) 0 (by omega) none (by refine ⟨rfl, rfl, ?_, ?_⟩ <;> ((repeat' (first | exact trivial | exact rfl | refine And.intro ?_ ?_)) <;> (try ((conv => whnf); first | refine vint ?_ | refine vboo ?_ | refine rint ?_ | refine rrow ?_ | skip)) <;> (try first | omega | (simp; done) | ((repeat rw [flts_closed _ (by assumption)]); exact vws_closed _ (by assumption))))) (fun i hi => ?_)
    refine ⟨fun h => ?_, fun h => ?_⟩
    · have hi1 : i < n := by simpa using h
      have e1 : IntKind.i64.wrap (IntKind.i64.wrap ((n : Int) - 1) - i) = (n : Int) - 1 - i := by rw [w64 (n := (n : Int) - 1) (by omega) (by omega), w64 (by omega) (by omega)]
      conv => whnf
      rw [e1]
      refine ⟨by omega, ?_⟩
      conv => whnf
      refine ⟨by simp [room]; omega, ?_⟩
      conv => whnf
      rw [nat_wrap (by omega)]
      refine ⟨i + 1, none, ?_, hi1, by omega⟩
      (refine ⟨rfl, rfl, ?_, ?_⟩ <;> ((repeat' (first | exact trivial | exact rfl | refine And.intro ?_ ?_)) <;> (try ((conv => whnf); first | refine vint ?_ | refine vboo ?_ | refine rint ?_ | refine rrow ?_ | skip)) <;> (try first | omega | (simp; done) | ((repeat rw [flts_closed _ (by assumption)]); exact vws_closed _ (by assumption)))))
      rw [← map_range_succ]; rfl
    · have hi1 : n ≤ i := by simpa using h
      obtain rfl : i = n := by omega
      conv => whnf
      refine ⟨by simp [room]; omega, ?_⟩
      conv => whnf
      rw [nat_wrap (by omega)]
      refine ⟨c + 1, none, ?_, hc1, by omega⟩
      (refine ⟨rfl, rfl, ?_, ?_⟩ <;> ((repeat' (first | exact trivial | exact rfl | refine And.intro ?_ ?_)) <;> (try ((conv => whnf); first | refine vint ?_ | refine vboo ?_ | refine rint ?_ | refine rrow ?_ | skip)) <;> (try first | omega | (simp; done) | ((repeat rw [flts_closed _ (by assumption)]); exact vws_closed _ (by assumption)))))
      rw [← map_range_succ]; rfl
  · have hc1 : 2 ^ n ≤ c := Nat.not_lt.1 fun hh => of_decide_eq_false h (Int.ofNat_lt.2 hh)
    obtain rfl : c = 2 ^ n := by omega
    conv => whnf
    exact ⟨rfl, rfl⟩

def sumRow (r places : List Int) (c s : Int) (n : Nat) : Int := fo (fun s y => W (s + W (W (r.getD y 0 * c) * places.getD y 0))) s n
def sumTo (m : List (List Int)) (rows places : List Int) (n : Nat) : Int := fo (fun s x => sumRow (m.getD x []) places (rows.getD x 0) s (m.getD x []).length) 0 n
def sumW (m : List (List Int)) (rows places : List Int) : Int := sumTo m rows places m.length

theorem l5Sum_spec (m : List (List Int)) (rows places : List Int) (h1 : m.length ≤ rows.length) (h2 : ∀ r, r ∈ m → r.length ≤ places.length) (h3 : rows.length ≤ 1000) (h4 : places.length ≤ 1000) :
    FSpec Tryz.prog 115 [.t (.rows m), .t (.ints .i64 rows), .t (.ints .i64 places)] (ex (.c (.int .i64 (sumW m rows places))) []) := by
  refine fspec tyOk mx Tryz.func115 rfl (by kernel_rfl) rfl ?_
  conv => whnf
  refine aloopI tyOk mx (fun x : Nat => (⟨45, [(0, .t (.rows m)), (1, .t (.ints .i64 rows)), (2, .t (.ints .i64 places)), (7, .c (.int .i64 (sumTo m rows places x))), (8, .c (.int .i64 (x)))], [], 0⟩ : St)) (fun x => x ≤ m.length) (fun x => m.length - x) 0 (by omega) none (by refine ⟨rfl, rfl, ?_, ?_⟩ <;> ((repeat' (first | exact trivial | exact rfl | refine And.intro ?_ ?_)) <;> (try ((conv => whnf); first | refine vint ?_ | refine vboo ?_ | refine rint ?_ | refine rrow ?_ | skip)) <;> (try first | omega | (simp; done) | ((repeat rw [flts_closed _ (by assumption)]); exact vws_closed _ (by assumption))))) (fun x hx => ?_)
  refine ⟨fun h => ?_, fun h => ?_⟩
  · have hx1 : x < m.length := by simpa using h
    have h5 := h2 _ (getD_mem (d := []) hx1)
    conv => whnf
    refine aloopI tyOk mx (fun y : Nat => (⟨45, [(0, .t (.rows m)), (1, .t (.ints .i64 rows)), (2, .t (.ints .i64 places)), (7, .c (.int .i64 (sumRow (m.getD x []) places (rows.getD x 0) (sumTo m rows places x) y))), (8, .c (.int .i64 (x))), (9, .c (.int .i64 (y)))], [], 0⟩ : St)) (fun y => y ≤ (m.getD x []).length) (fun y => (m.getD x []).length - y) 0 (by omega) none (by refine ⟨rfl, rfl, ?_, ?_⟩ <;> ((repeat' (first | exact trivial | exact rfl | refine And.intro ?_ ?_)) <;> (try ((conv => whnf); first | refine vint ?_ | refine vboo ?_ | refine rint ?_ | refine rrow ?_ | skip)) <;> (try first | omega | (simp; done) | ((repeat rw [flts_closed _ (by assumption)]); exact vws_closed _ (by assumption))))) (fun y hy => ?_)
    refine ⟨x, rfl, hx1, fun h => ?_, fun h => ?_⟩
    · have hy1 : y < (m.getD x []).length := of_decide_eq_true h |> Int.ofNat_lt.1
      refine ADraw.std tyOk mx ⟨by kernel_rfl, x, rfl, hx1, y, rfl, hy1, x, rfl, by omega, y, rfl, by omega, ?_⟩
      conv => whnf
      rw [nat_wrap (by omega)]
      exact ⟨y + 1, none, (by refine ⟨rfl, rfl, ?_, ?_⟩ <;> ((repeat' (first | exact trivial | exact rfl | refine And.intro ?_ ?_)) <;> (try ((conv => whnf); first | refine vint ?_ | refine vboo ?_ | refine rint ?_ | refine rrow ?_ | skip)) <;> (try first | omega | (simp; done) | ((repeat rw [flts_closed _ (by assumption)]); exact vws_closed _ (by assumption))))), hy1, by omega⟩
    · have hy1 : ¬ y < (m.getD x []).length := fun hh => of_decide_eq_false h (Int.ofNat_lt.2 hh)
      obtain rfl : y = (m.getD x []).length := by omega
      conv => whnf
      rw [nat_wrap (by omega)]
      exact ⟨x + 1, none, (by refine ⟨rfl, rfl, ?_, ?_⟩ <;> ((repeat' (first | exact trivial | exact rfl | refine And.intro ?_ ?_)) <;> (try ((conv => whnf); first | refine vint ?_ | refine vboo ?_ | refine rint ?_ | refine rrow ?_ | skip)) <;> (try first | omega | (simp; done) | ((repeat rw [flts_closed _ (by assumption)]); exact vws_closed _ (by assumption))))), hx1, by omega⟩
  · have hx1 : ¬ x < m.length := by simpa using h
    obtain rfl : x = m.length := by omega
    conv => whnf
    exact ⟨rfl, rfl⟩
theorem signed_spec (m : List (List Int)) (rows places : List Int) (h1 : m.length ≤ rows.length) (h2 : ∀ r, r ∈ m → r.length ≤ places.length) (h3 : rows.length ≤ 1000) (h4 : places.length ≤ 1000) :
    FSpec Tryz.prog 175 [.t (.rows m), .t (.ints .i64 rows), .t (.ints .i64 places)] (ex (.c (.int .i64 (sumW m rows places))) []) := by
  refine fspec tyOk mx Tryz.func175 rfl (by kernel_rfl) rfl ?_
  conv => whnf
  refine aloopI tyOk mx (fun x : Nat => (⟨42, [(1, .t (.ints .i64 rows)), (2, .t (.ints .i64 places)), (7, .c (.int .i64 (sumTo m rows places x))), (12, .t (.rows m)), (13, .c (.int .i64 m.length)), (14, .c (.int .i64 (x)))], [], 0⟩ : St)) (fun x => x ≤ m.length) (fun x => m.length - x) 0 (by omega) none (by refine ⟨rfl, rfl, ?_, ?_⟩ <;> ((repeat' (first | exact trivial | exact rfl | refine And.intro ?_ ?_)) <;> (try ((conv => whnf); first | refine vint ?_ | refine vboo ?_ | refine rint ?_ | refine rrow ?_ | skip)) <;> (try first | omega | (simp; done) | ((repeat rw [flts_closed _ (by assumption)]); exact vws_closed _ (by assumption))))) (fun x hx => ?_)
  refine ⟨fun h => ?_, fun h => ?_⟩
  · have hx1 : x < m.length := by simpa using h
    have h5 := h2 _ (getD_mem (d := []) hx1)
    conv => whnf
    refine ⟨x, rfl, hx1, ?_⟩
    conv => whnf
    refine aloopI tyOk mx (fun y : Nat => (⟨42, [(1, .t (.ints .i64 rows)), (2, .t (.ints .i64 places)), (7, .c (.int .i64 (sumRow (m.getD x []) places (rows.getD x 0) (sumTo m rows places x) y))), (8, .c (.int .i64 (x))), (12, .t (.rows m)), (13, .c (.int .i64 m.length)), (14, .c (.int .i64 (x))), (19, .t (.ints .i64 (m.getD x []))), (20, .c (.int .i64 ((m.getD x []).length))), (21, .c (.int .i64 (y)))], [], 0⟩ : St)) (fun y => y ≤ (m.getD x []).length) (fun y => (m.getD x []).length - y) 0 (by omega) none (by refine ⟨rfl, rfl, ?_, ?_⟩ <;> ((repeat' (first | exact trivial | exact rfl | refine And.intro ?_ ?_)) <;> (try ((conv => whnf); first | refine vint ?_ | refine vboo ?_ | refine rint ?_ | refine rrow ?_ | skip)) <;> (try first | omega | (simp; done) | ((repeat rw [flts_closed _ (by assumption)]); exact vws_closed _ (by assumption))))) (fun y hy => ?_)
    refine ⟨fun h => ?_, fun h => ?_⟩
    · have hy1 : y < (m.getD x []).length := of_decide_eq_true h |> Int.ofNat_lt.1
      conv => whnf
      refine ⟨y, rfl, hy1, ?_⟩
      conv => whnf
      refine ADraw.std tyOk mx ⟨by kernel_rfl, x, rfl, by omega, y, rfl, by omega, ?_⟩
      conv => whnf
      rw [nat_wrap (by omega)]
      exact ⟨y + 1, none, (by refine ⟨rfl, rfl, ?_, ?_⟩ <;> ((repeat' (first | exact trivial | exact rfl | refine And.intro ?_ ?_)) <;> (try ((conv => whnf); first | refine vint ?_ | refine vboo ?_ | refine rint ?_ | refine rrow ?_ | skip)) <;> (try first | omega | (simp; done) | ((repeat rw [flts_closed _ (by assumption)]); exact vws_closed _ (by assumption))))), hy1, by omega⟩
    · have hy1 : ¬ y < (m.getD x []).length := fun hh => of_decide_eq_false h (Int.ofNat_lt.2 hh)
      obtain rfl : y = (m.getD x []).length := by omega
      conv => whnf
      rw [nat_wrap (by omega)]
      exact ⟨x + 1, none, (by refine ⟨rfl, rfl, ?_, ?_⟩ <;> ((repeat' (first | exact trivial | exact rfl | refine And.intro ?_ ?_)) <;> (try ((conv => whnf); first | refine vint ?_ | refine vboo ?_ | refine rint ?_ | refine rrow ?_ | skip)) <;> (try first | omega | (simp; done) | ((repeat rw [flts_closed _ (by assumption)]); exact vws_closed _ (by assumption))))), hx1, by omega⟩
  · have hx1 : ¬ x < m.length := by simpa using h
    obtain rfl : x = m.length := by omega
    conv => whnf
    exact ⟨rfl, rfl⟩
theorem goodM_spec {m : List (List Int)} (h : goodM m = true) : 1 ≤ m.length ∧ m.length ≤ 3 ∧ 1 ≤ (m.getD 0 []).length ∧ (m.getD 0 []).length ≤ 3 ∧ (∀ r, r ∈ m → r.length = (m.getD 0 []).length ∧ ∀ x, x ∈ r → -9 ≤ x ∧ x ≤ 9) := by
  simp only [goodM, inR, rowIn, Bool.and_eq_true, decide_eq_true_eq, List.all_eq_true] at h
  obtain ⟨⟨h1, h2⟩, h3⟩ := h
  have h0 : m.getD 0 [] ∈ m := getD_mem (by omega)
  have := h3 _ h0
  exact ⟨by omega, by omega, by omega, by omega, fun r hr => ⟨(h3 r hr).1.2, (h3 r hr).2⟩⟩

end Go.Proofs.YtkomndcehdneaaaGreat
/- The first signs with the greatest sum, program and reference. -/
namespace Go.Proofs.YtkomndcehdneaaaGreat
open Go.Aw
set_option maxRecDepth 100000

theorem signsL_len (n : Nat) : (signsL n).length = 2 ^ n := by simp [signsL]
theorem signsL_row {n x : Nat} (h : x < (signsL n).length) : ((signsL n).getD x []).length = n := by
  rw [signsL_len] at h
  simp [signsL, List.getD, h, sgRow]
theorem two_pow_pos (n : Nat) : 0 < 2 ^ n := Nat.pow_pos (by omega)

def stepI (m R P : List (List Int)) (acc : Nat × Nat) (x y : Nat) : Nat × Nat :=
  if sumW m (R.getD x []) (P.getD y []) > sumW m (R.getD acc.1 []) (P.getD acc.2 []) then (x, y) else acc
def inI (m R P : List (List Int)) (acc : Nat × Nat) (x y : Nat) : Nat × Nat := fo (fun a y => stepI m R P a x y) acc y
def outI (m R P : List (List Int)) (x : Nat) : Nat × Nat := fo (fun a x => inI m R P a x P.length) (0, 0) x

theorem inI_lt {m R P : List (List Int)} {acc : Nat × Nat} {x : Nat} (h1 : acc.1 < R.length) (h2 : acc.2 < P.length) (hx : x < R.length) : ∀ y, y ≤ P.length → (inI m R P acc x y).1 < R.length ∧ (inI m R P acc x y).2 < P.length
  | 0, _ => ⟨h1, h2⟩
  | y + 1, hy => by
    have := inI_lt (m := m) h1 h2 hx y (by omega)
    show (stepI m R P (inI m R P acc x y) x y).1 < _ ∧ (stepI m R P (inI m R P acc x y) x y).2 < _
    unfold stepI
    split
    · exact ⟨hx, by simp only; omega⟩
    · exact this
theorem outI_lt {m R P : List (List Int)} (h1 : 0 < R.length) (h2 : 0 < P.length) : ∀ x, x ≤ R.length → (outI m R P x).1 < R.length ∧ (outI m R P x).2 < P.length
  | 0, _ => ⟨h1, h2⟩
  | x + 1, hx => by
    have := outI_lt (m := m) h1 h2 x (by omega)
    exact inI_lt this.1 this.2 (by omega) P.length (Nat.le_refl _)
theorem inI_succ (m R P : List (List Int)) (acc : Nat × Nat) (x y : Nat) : inI m R P acc x (y + 1) = stepI m R P (inI m R P acc x y) x y := rfl
theorem outI_succ (m R P : List (List Int)) (x : Nat) : outI m R P (x + 1) = inI m R P (outI m R P x) x P.length := rfl

def sgR (m : List (List Int)) : List (List Int) := signsL m.length
def sgP (m : List (List Int)) : List (List Int) := signsL (m.getD 0 []).length
def bestIx (m : List (List Int)) : Nat × Nat := outI m (sgR m) (sgP m) (sgR m).length
def bestR (m : List (List Int)) : List Int := (sgR m).getD (bestIx m).1 []
def bestP (m : List (List Int)) : List Int := (sgP m).getD (bestIx m).2 []

theorem sum_pre {m : List (List Int)} (hg : goodM m = true) {x y : Nat} (hx : x < (sgR m).length) (hy : y < (sgP m).length) :
    m.length ≤ ((sgR m).getD x []).length ∧ (∀ r, r ∈ m → r.length ≤ ((sgP m).getD y []).length) ∧ ((sgR m).getD x []).length ≤ 1000 ∧ ((sgP m).getD y []).length ≤ 1000 := by
  obtain ⟨g1, g2, g3, g4, g5⟩ := goodM_spec hg
  have h1 := signsL_row hx
  have h2 := signsL_row hy
  unfold sgR sgP
  exact ⟨by omega, fun r hr => by have := (g5 r hr).1; omega, by omega, by omega⟩

theorem l5Best_spec (m : List (List Int)) (hg : goodM m = true) :
    FSpec Tryz.prog 114 [.t (.rows m)] (ex (.tu [.own 0, .own 1]) [(0, .ints 3 .i64 (bestR m)), (1, .ints 3 .i64 (bestP m))]) := by
  obtain ⟨g1, g2, g3, g4, g5⟩ := goodM_spec hg
  have pR : 0 < (sgR m).length := by rw [sgR, signsL_len]; exact two_pow_pos _
  have pP : 0 < (sgP m).length := by rw [sgP, signsL_len]; exact two_pow_pos _
  have lR : (sgR m).length ≤ 4096 := by rw [sgR, signsL_len]; exact two_pow_le (by omega)
  have lP : (sgP m).length ≤ 4096 := by rw [sgP, signsL_len]; exact two_pow_le (by omega)
  refine fspec tyOk mx Tryz.func114 rfl (by kernel_rfl) rfl ?_
  conv => whnf
  refine ADraw.mid (⟨61, [(0, .t (.rows m)), (4, .own 0), (5, .own 1)], [(0, .rows 38 3 true (sgR m)), (1, .rows 38 3 true (sgP m))], 2⟩ : St) (ADraw.plan tyOk mx (.q 0 (.q 1 (.q 3 (.q 4 (.q 5 (.q 6 (.last 2 (.last 7 (.q 8 (.q 9 (.done)))))))))) : Plan) (by kernel_rfl) ?_) ?_
  · conv => whnf
    refine ⟨0, rfl, by omega, ?_⟩
    conv => whnf
    refine ACall.useR (l5Signs_spec m.length (by omega)) ?_
    conv => whnf
    refine ACall.useR (l5Signs_spec (m.getD 0 []).length (by omega)) ?_
    conv => whnf
    exact ⟨[(0, .row 0), (1, .row 1)], (by refine ⟨rfl, rfl, ?_, ?_⟩ <;> ((repeat' (first | exact trivial | exact rfl | refine And.intro ?_ ?_)) <;> (try ((conv => whnf); first | refine vint ?_ | refine vboo ?_ | refine rint ?_ | refine rrow ?_ | skip)) <;> (try first | omega | (simp; done) | ((repeat rw [flts_closed _ (by assumption)]); exact vws_closed _ (by assumption)))))⟩
  · conv => whnf
    refine ADraw.std tyOk mx ⟨by kernel_rfl, 0, rfl, pR, 0, rfl, pP, ?_⟩
    conv => whnf
    refine aloopI tyOk mx (fun x : Nat => (⟨61, [(0, .t (.rows m)), (4, .own 0), (5, .own 1), (6, .sub 0 (outI m (sgR m) (sgP m) x).1), (7, .sub 1 (outI m (sgR m) (sgP m) x).2), (8, .c (.int .i64 (x)))], [(0, .rows 38 3 true (sgR m)), (1, .rows 38 3 true (sgP m))], 2⟩ : St)) (fun x => x ≤ (sgR m).length) (fun x => (sgR m).length - x) 0 (Nat.zero_le _) none (by refine ⟨rfl, rfl, ?_, ?_⟩ <;> ((repeat' (first | exact trivial | exact rfl | refine And.intro ?_ ?_)) <;> (try ((conv => whnf); first | refine vint ?_ | refine vboo ?_ | refine rint ?_ | refine rrow ?_ | skip)) <;> (try first | omega | (simp; done) | ((repeat rw [flts_closed _ (by assumption)]); exact vws_closed _ (by assumption))))) (fun x hx => ?_)
    refine ⟨fun h => ?_, fun h => ?_⟩
    · have h := ltT h
      have ho := outI_lt (m := m) pR pP x hx
      conv => whnf
      refine aloopI tyOk mx (fun y : Nat => (⟨61, [(0, .t (.rows m)), (4, .own 0), (5, .own 1), (6, .sub 0 (inI m (sgR m) (sgP m) (outI m (sgR m) (sgP m) x) x y).1), (7, .sub 1 (inI m (sgR m) (sgP m) (outI m (sgR m) (sgP m) x) x y).2), (8, .c (.int .i64 (x))), (9, .c (.int .i64 (y)))], [(0, .rows 38 3 true (sgR m)), (1, .rows 38 3 true (sgP m))], 2⟩ : St)) (fun y => y ≤ (sgP m).length) (fun y => (sgP m).length - y) 0 (Nat.zero_le _) none (by refine ⟨rfl, rfl, ?_, ?_⟩ <;> ((repeat' (first | exact trivial | exact rfl | refine And.intro ?_ ?_)) <;> (try ((conv => whnf); first | refine vint ?_ | refine vboo ?_ | refine rint ?_ | refine rrow ?_ | skip)) <;> (try first | omega | (simp; done) | ((repeat rw [flts_closed _ (by assumption)]); exact vws_closed _ (by assumption))))) (fun y hy => ?_)
      refine ⟨fun h5 => ?_, fun h5 => ?_⟩
      · have h5 := ltT h5
        have hi := inI_lt (m := m) ho.1 ho.2 h y hy
        obtain ⟨q1, q2, q3, q4⟩ := sum_pre hg h h5
        obtain ⟨r1, r2, r3, r4⟩ := sum_pre hg hi.1 hi.2
        refine ADraw.std tyOk mx ⟨by kernel_rfl, x, rfl, h, y, rfl, h5, ?_⟩
        conv => whnf
        refine QCall.use (l5Sum_spec m ((sgR m).getD x []) ((sgP m).getD y []) q1 q2 q3 q4) ?_
        conv => whnf
        refine QCall.use (l5Sum_spec m _ _ r1 r2 r3 r4) ?_
        conv => whnf
        refine ⟨fun h6 => ?_, fun h6 => ?_⟩
        · have e : inI m (sgR m) (sgP m) (outI m (sgR m) (sgP m) x) x (y + 1) = (x, y) := by rw [inI_succ, stepI, if_pos (of_decide_eq_true h6)]
          conv => whnf
          refine ⟨x, rfl, h, ?_⟩
          conv => whnf
          refine ⟨y, rfl, h5, ?_⟩
          conv => whnf
          rw [nat_wrap (by omega)]
          refine ⟨y + 1, none, ?_, by omega, by omega⟩
          dsimp only
          rw [e]
          (refine ⟨rfl, rfl, ?_, ?_⟩ <;> ((repeat' (first | exact trivial | exact rfl | refine And.intro ?_ ?_)) <;> (try ((conv => whnf); first | refine vint ?_ | refine vboo ?_ | refine rint ?_ | refine rrow ?_ | skip)) <;> (try first | omega | (simp; done) | ((repeat rw [flts_closed _ (by assumption)]); exact vws_closed _ (by assumption)))))
        · have e : inI m (sgR m) (sgP m) (outI m (sgR m) (sgP m) x) x (y + 1) = inI m (sgR m) (sgP m) (outI m (sgR m) (sgP m) x) x y := by rw [inI_succ, stepI, if_neg (of_decide_eq_false h6)]
          conv => whnf
          rw [nat_wrap (by omega)]
          refine ⟨y + 1, none, ?_, by omega, by omega⟩
          dsimp only
          rw [e]
          (refine ⟨rfl, rfl, ?_, ?_⟩ <;> ((repeat' (first | exact trivial | exact rfl | refine And.intro ?_ ?_)) <;> (try ((conv => whnf); first | refine vint ?_ | refine vboo ?_ | refine rint ?_ | refine rrow ?_ | skip)) <;> (try first | omega | (simp; done) | ((repeat rw [flts_closed _ (by assumption)]); exact vws_closed _ (by assumption)))))
      · have h5 := ltF h5
        obtain rfl : y = (sgP m).length := by omega
        conv => whnf
        rw [nat_wrap (by omega)]
        exact ⟨x + 1, none, (by refine ⟨rfl, rfl, ?_, ?_⟩ <;> ((repeat' (first | exact trivial | exact rfl | refine And.intro ?_ ?_)) <;> (try ((conv => whnf); first | refine vint ?_ | refine vboo ?_ | refine rint ?_ | refine rrow ?_ | skip)) <;> (try first | omega | (simp; done) | ((repeat rw [flts_closed _ (by assumption)]); exact vws_closed _ (by assumption))))), by omega, by omega⟩
    · have h := ltF h
      obtain rfl : x = (sgR m).length := by omega
      conv => whnf
      exact ⟨rfl, rfl⟩
end Go.Proofs.YtkomndcehdneaaaGreat
/- The first signs with the greatest sum: the program's. -/
namespace Go.Proofs.YtkomndcehdneaaaGreat
open Go.Aw
set_option maxRecDepth 100000

theorem bestSigns_spec (m : List (List Int)) (hg : goodM m = true) :
    FSpec Tryz.prog 112 [.t (.rows m)] (ex (.tu [.own 0, .own 1, .c (.int .i64 (sumW m (bestR m) (bestP m)))]) [(0, .ints 3 .i64 (bestR m)), (1, .ints 3 .i64 (bestP m))]) := by
  obtain ⟨g1, g2, g3, g4, g5⟩ := goodM_spec hg
  have pR : 0 < (sgR m).length := by rw [sgR, signsL_len]; exact two_pow_pos _
  have pP : 0 < (sgP m).length := by rw [sgP, signsL_len]; exact two_pow_pos _
  have lR : (sgR m).length ≤ 4096 := by rw [sgR, signsL_len]; exact two_pow_le (by omega)
  have lP : (sgP m).length ≤ 4096 := by rw [sgP, signsL_len]; exact two_pow_le (by omega)
  refine fspec tyOk mx Tryz.func112 rfl (by kernel_rfl) rfl ?_
  conv => whnf
  refine ACall.use (signsOf_spec m.length (by omega)) ?_
  conv => whnf
  refine aloopI tyOk mx (fun x : Nat => match x with
    | 0 => (⟨51, [(0, .t (.rows m)), (5, .c (.slice none 0 0)), (6, .c (.slice none 0 0)), (7, .c (.int .i64 (0))), (8, .c (.bool false)), (16, .own 0), (17, .c (.int .i64 ((sgR m).length))), (18, .c (.int .i64 ((0 : Nat))))], [(0, .rows 38 3 true (sgR m))], 1⟩ : St)
    | x + 1 => (⟨51, [(0, .t (.rows m)), (5, .sub 0 (outI m (sgR m) (sgP m) (x + 1)).1), (6, .sub 1 (outI m (sgR m) (sgP m) (x + 1)).2), (7, .c (.int .i64 (sumW m ((sgR m).getD (outI m (sgR m) (sgP m) (x + 1)).1 []) ((sgP m).getD (outI m (sgR m) (sgP m) (x + 1)).2 [])))), (8, .c (.bool true)), (16, .own 0), (17, .c (.int .i64 ((sgR m).length))), (18, .c (.int .i64 ((x + 1 : Nat))))], [(0, .rows 38 3 true (sgR m)), (1, .rows 38 3 true (sgP m))], 2⟩ : St))
    (fun x => x ≤ (sgR m).length) (fun x => (sgR m).length - x) 0 (Nat.zero_le _) none (by refine ⟨rfl, rfl, ?_, ?_⟩ <;> ((repeat' (first | exact trivial | exact rfl | refine And.intro ?_ ?_)) <;> (try ((conv => whnf); first | refine vint ?_ | refine vboo ?_ | refine rint ?_ | refine rrow ?_ | skip)) <;> (try first | omega | (simp; done) | ((repeat rw [flts_closed _ (by assumption)]); exact vws_closed _ (by assumption))))) (fun x hx => ?_)
  cases x with
  | zero =>
    refine ⟨fun _ => ?_, fun h => absurd pR (ltF h)⟩
    conv => whnf
    refine ⟨0, rfl, pR, ?_⟩
    conv => whnf
    refine ⟨0, rfl, by omega, ?_⟩
    conv => whnf
    refine ACall.use (signsOf_spec (m.getD 0 []).length (by omega)) ?_
    conv => whnf
    refine aloopI tyOk mx (fun y : Nat => match y with
      | 0 => (⟨51, [(0, .t (.rows m)), (5, .c (.slice none 0 0)), (6, .c (.slice none 0 0)), (7, .c (.int .i64 (0))), (8, .c (.bool false)), (10, .sub 0 0), (16, .own 0), (17, .c (.int .i64 ((sgR m).length))), (18, .c (.int .i64 ((0 : Nat)))), (26, .own 1), (27, .c (.int .i64 ((sgP m).length))), (28, .c (.int .i64 ((0 : Nat))))], [(0, .rows 38 3 true (sgR m)), (1, .rows 38 3 true (sgP m))], 2⟩ : St)
      | y + 1 => (⟨51, [(0, .t (.rows m)), (5, .sub 0 (inI m (sgR m) (sgP m) (0, 0) 0 (y + 1)).1), (6, .sub 1 (inI m (sgR m) (sgP m) (0, 0) 0 (y + 1)).2), (7, .c (.int .i64 (sumW m ((sgR m).getD (inI m (sgR m) (sgP m) (0, 0) 0 (y + 1)).1 []) ((sgP m).getD (inI m (sgR m) (sgP m) (0, 0) 0 (y + 1)).2 [])))), (8, .c (.bool true)), (10, .sub 0 0), (16, .own 0), (17, .c (.int .i64 ((sgR m).length))), (18, .c (.int .i64 ((0 : Nat)))), (26, .own 1), (27, .c (.int .i64 ((sgP m).length))), (28, .c (.int .i64 ((y + 1 : Nat))))], [(0, .rows 38 3 true (sgR m)), (1, .rows 38 3 true (sgP m))], 2⟩ : St))
      (fun y => y ≤ (sgP m).length) (fun y => (sgP m).length - y) 0 (Nat.zero_le _) none (by refine ⟨rfl, rfl, ?_, ?_⟩ <;> ((repeat' (first | exact trivial | exact rfl | refine And.intro ?_ ?_)) <;> (try ((conv => whnf); first | refine vint ?_ | refine vboo ?_ | refine rint ?_ | refine rrow ?_ | skip)) <;> (try first | omega | (simp; done) | ((repeat rw [flts_closed _ (by assumption)]); exact vws_closed _ (by assumption))))) (fun y hy => ?_)
    cases y with
    | zero =>
      refine ⟨fun _ => ?_, fun h => absurd pP (ltF h)⟩
      obtain ⟨q1, q2, q3, q4⟩ := sum_pre hg pR pP
      conv => whnf
      refine ⟨0, rfl, pP, ?_⟩
      conv => whnf
      refine ACall.use (signed_spec m ((sgR m).getD 0 []) ((sgP m).getD 0 []) q1 q2 q3 q4) ?_
      conv => whnf
      first | refine ⟨fun h => absurd h (by decide), fun _ => ?_⟩ | refine ⟨fun _ => ?_, fun h => absurd h (by decide)⟩
      conv => whnf
      first | refine ⟨fun h => absurd h (by decide), fun _ => ?_⟩ | refine ⟨fun _ => ?_, fun h => absurd h (by decide)⟩
      have e : inI m (sgR m) (sgP m) (0, 0) 0 (0 + 1) = (0, 0) := by rw [inI_succ, stepI, if_neg (by exact Int.lt_irrefl _)]; rfl
      conv => whnf
      rw [nat_wrap (by omega)]
      refine ⟨0 + 1, none, ?_, by omega, by omega⟩
      dsimp only
      simp only [e]
      (refine ⟨rfl, rfl, ?_, ?_⟩ <;> ((repeat' (first | exact trivial | exact rfl | refine And.intro ?_ ?_)) <;> (try ((conv => whnf); first | refine vint ?_ | refine vboo ?_ | refine rint ?_ | refine rrow ?_ | skip)) <;> (try first | omega | (simp; done) | ((repeat rw [flts_closed _ (by assumption)]); exact vws_closed _ (by assumption)))))
    | succ y =>
      refine ⟨fun h5 => ?_, fun h5 => ?_⟩
      · have h5 := ltT h5
        have hi := inI_lt (m := m) (acc := (0, 0)) (x := 0) pR pP pR (y + 1) hy
        obtain ⟨q1, q2, q3, q4⟩ := sum_pre hg pR h5
        conv => whnf
        refine ⟨y + 1, rfl, h5, ?_⟩
        conv => whnf
        refine ACall.use (signed_spec m ((sgR m).getD 0 []) ((sgP m).getD (y + 1) []) q1 q2 q3 q4) ?_
        conv => whnf
        first | refine ⟨fun h => absurd h (by decide), fun _ => ?_⟩ | refine ⟨fun _ => ?_, fun h => absurd h (by decide)⟩
        conv => whnf
        refine ⟨fun h6 => ?_, fun h6 => ?_⟩
        · have e : inI m (sgR m) (sgP m) (0, 0) 0 (y + 1 + 1) = (0, y + 1) := by rw [inI_succ, stepI, if_pos (of_decide_eq_true h6)]
          conv => whnf
          rw [nat_wrap (by omega)]
          refine ⟨y + 1 + 1, none, ?_, by omega, by omega⟩
          dsimp only
          simp only [e]
          (refine ⟨rfl, rfl, ?_, ?_⟩ <;> ((repeat' (first | exact trivial | exact rfl | refine And.intro ?_ ?_)) <;> (try ((conv => whnf); first | refine vint ?_ | refine vboo ?_ | refine rint ?_ | refine rrow ?_ | skip)) <;> (try first | omega | (simp; done) | ((repeat rw [flts_closed _ (by assumption)]); exact vws_closed _ (by assumption)))))
        · have e : inI m (sgR m) (sgP m) (0, 0) 0 (y + 1 + 1) = inI m (sgR m) (sgP m) (0, 0) 0 (y + 1) := by rw [inI_succ, stepI, if_neg (of_decide_eq_false h6)]
          conv => whnf
          rw [nat_wrap (by omega)]
          refine ⟨y + 1 + 1, none, ?_, by omega, by omega⟩
          dsimp only
          simp only [e]
          (refine ⟨rfl, rfl, ?_, ?_⟩ <;> ((repeat' (first | exact trivial | exact rfl | refine And.intro ?_ ?_)) <;> (try ((conv => whnf); first | refine vint ?_ | refine vboo ?_ | refine rint ?_ | refine rrow ?_ | skip)) <;> (try first | omega | (simp; done) | ((repeat rw [flts_closed _ (by assumption)]); exact vws_closed _ (by assumption)))))
      · have h5 := ltF h5
        have hy1 : y + 1 = (sgP m).length := by omega
        have e : outI m (sgR m) (sgP m) (0 + 1) = inI m (sgR m) (sgP m) (0, 0) 0 (y + 1) := by rw [outI_succ, hy1]; rfl
        conv => whnf
        rw [nat_wrap (by omega)]
        refine ⟨0 + 1, none, ?_, by omega, by omega⟩
        dsimp only
        simp only [e]
        (refine ⟨rfl, rfl, ?_, ?_⟩ <;> ((repeat' (first | exact trivial | exact rfl | refine And.intro ?_ ?_)) <;> (try ((conv => whnf); first | refine vint ?_ | refine vboo ?_ | refine rint ?_ | refine rrow ?_ | skip)) <;> (try first | omega | (simp; done) | ((repeat rw [flts_closed _ (by assumption)]); exact vws_closed _ (by assumption)))))
  | succ x =>
    refine ⟨fun h => ?_, fun h => ?_⟩
    · have h := ltT h
      have ho := outI_lt (m := m) pR pP (x + 1) hx
      conv => whnf
      refine ⟨x + 1, rfl, h, ?_⟩
      conv => whnf
      refine ⟨0, rfl, by omega, ?_⟩
      conv => whnf
      refine ACall.use (signsOf_spec (m.getD 0 []).length (by omega)) ?_
      conv => whnf
      refine aloopI tyOk mx (fun p : Bool × Nat => match p with
        | (true, y) => (⟨51, [(0, .t (.rows m)), (5, .sub 0 (inI m (sgR m) (sgP m) (outI m (sgR m) (sgP m) (x + 1)) (x + 1) y).1), (6, .sub 2 (inI m (sgR m) (sgP m) (outI m (sgR m) (sgP m) (x + 1)) (x + 1) y).2), (7, .c (.int .i64 (sumW m ((sgR m).getD (inI m (sgR m) (sgP m) (outI m (sgR m) (sgP m) (x + 1)) (x + 1) y).1 []) ((sgP m).getD (inI m (sgR m) (sgP m) (outI m (sgR m) (sgP m) (x + 1)) (x + 1) y).2 [])))), (8, .c (.bool true)), (10, .sub 0 (x + 1)), (16, .own 0), (17, .c (.int .i64 ((sgR m).length))), (18, .c (.int .i64 ((x + 1 : Nat)))), (26, .own 2), (27, .c (.int .i64 ((sgP m).length))), (28, .c (.int .i64 (y)))], [(0, .rows 38 3 true (sgR m)), (1, .rows 38 3 true (sgP m)), (2, .rows 38 3 true (sgP m))], 3⟩ : St)
        | (false, y) => (⟨51, [(0, .t (.rows m)), (5, .sub 0 (inI m (sgR m) (sgP m) (outI m (sgR m) (sgP m) (x + 1)) (x + 1) y).1), (6, .sub 1 (inI m (sgR m) (sgP m) (outI m (sgR m) (sgP m) (x + 1)) (x + 1) y).2), (7, .c (.int .i64 (sumW m ((sgR m).getD (inI m (sgR m) (sgP m) (outI m (sgR m) (sgP m) (x + 1)) (x + 1) y).1 []) ((sgP m).getD (inI m (sgR m) (sgP m) (outI m (sgR m) (sgP m) (x + 1)) (x + 1) y).2 [])))), (8, .c (.bool true)), (10, .sub 0 (x + 1)), (16, .own 0), (17, .c (.int .i64 ((sgR m).length))), (18, .c (.int .i64 ((x + 1 : Nat)))), (26, .own 2), (27, .c (.int .i64 ((sgP m).length))), (28, .c (.int .i64 (y)))], [(0, .rows 38 3 true (sgR m)), (1, .rows 38 3 true (sgP m)), (2, .rows 38 3 true (sgP m))], 3⟩ : St))
        (fun p => p.2 ≤ (sgP m).length) (fun p => (sgP m).length - p.2) (false, 0) (Nat.zero_le _) none (by refine ⟨rfl, rfl, ?_, ?_⟩ <;> ((repeat' (first | exact trivial | exact rfl | refine And.intro ?_ ?_)) <;> (try ((conv => whnf); first | refine vint ?_ | refine vboo ?_ | refine rint ?_ | refine rrow ?_ | skip)) <;> (try first | omega | (simp; done) | ((repeat rw [flts_closed _ (by assumption)]); exact vws_closed _ (by assumption))))) (fun p hy => ?_)
      obtain ⟨b, y⟩ := p
      simp only at hy
      have hi := inI_lt (m := m) ho.1 ho.2 h y hy
      cases b with
      | true =>
        refine ⟨fun h5 => ?_, fun h5 => ?_⟩
        · have h5 := ltT h5
          obtain ⟨q1, q2, q3, q4⟩ := sum_pre hg h h5
          conv => whnf
          refine ⟨y, rfl, h5, ?_⟩
          conv => whnf
          refine ACall.use (signed_spec m ((sgR m).getD (x + 1) []) ((sgP m).getD y []) q1 q2 q3 q4) ?_
          conv => whnf
          first | refine ⟨fun h => absurd h (by decide), fun _ => ?_⟩ | refine ⟨fun _ => ?_, fun h => absurd h (by decide)⟩
          conv => whnf
          refine ⟨fun h6 => ?_, fun h6 => ?_⟩
          · have e : inI m (sgR m) (sgP m) (outI m (sgR m) (sgP m) (x + 1)) (x + 1) (y + 1) = (x + 1, y) := by rw [inI_succ, stepI, if_pos (of_decide_eq_true h6)]
            conv => whnf
            rw [nat_wrap (by omega)]
            refine ⟨(true, y + 1), none, ?_, by simp only; omega, by simp only; omega⟩
            dsimp only
            simp only [e]
            (refine ⟨rfl, rfl, ?_, ?_⟩ <;> ((repeat' (first | exact trivial | exact rfl | refine And.intro ?_ ?_)) <;> (try ((conv => whnf); first | refine vint ?_ | refine vboo ?_ | refine rint ?_ | refine rrow ?_ | skip)) <;> (try first | omega | (simp; done) | ((repeat rw [flts_closed _ (by assumption)]); exact vws_closed _ (by assumption)))))
          · have e : inI m (sgR m) (sgP m) (outI m (sgR m) (sgP m) (x + 1)) (x + 1) (y + 1) = inI m (sgR m) (sgP m) (outI m (sgR m) (sgP m) (x + 1)) (x + 1) y := by rw [inI_succ, stepI, if_neg (of_decide_eq_false h6)]
            conv => whnf
            rw [nat_wrap (by omega)]
            refine ⟨(true, y + 1), none, ?_, by simp only; omega, by simp only; omega⟩
            dsimp only
            simp only [e]
            (refine ⟨rfl, rfl, ?_, ?_⟩ <;> ((repeat' (first | exact trivial | exact rfl | refine And.intro ?_ ?_)) <;> (try ((conv => whnf); first | refine vint ?_ | refine vboo ?_ | refine rint ?_ | refine rrow ?_ | skip)) <;> (try first | omega | (simp; done) | ((repeat rw [flts_closed _ (by assumption)]); exact vws_closed _ (by assumption)))))
        · have h5 := ltF h5
          obtain rfl : y = (sgP m).length := by omega
          conv => whnf
          rw [nat_wrap (by omega)]
          refine ⟨x + 1 + 1, some [(0, .row 0), (1, .row 2)], ?_, by omega, by omega⟩
          dsimp only
          simp only [outI_succ m (sgR m) (sgP m) (x + 1)]
          (refine ⟨rfl, rfl, ?_, ?_⟩ <;> ((repeat' (first | exact trivial | exact rfl | refine And.intro ?_ ?_)) <;> (try ((conv => whnf); first | refine vint ?_ | refine vboo ?_ | refine rint ?_ | refine rrow ?_ | skip)) <;> (try first | omega | (simp; done) | ((repeat rw [flts_closed _ (by assumption)]); exact vws_closed _ (by assumption)))))
      | false =>
        refine ⟨fun h5 => ?_, fun h5 => ?_⟩
        · have h5 := ltT h5
          obtain ⟨q1, q2, q3, q4⟩ := sum_pre hg h h5
          conv => whnf
          refine ⟨y, rfl, h5, ?_⟩
          conv => whnf
          refine ACall.use (signed_spec m ((sgR m).getD (x + 1) []) ((sgP m).getD y []) q1 q2 q3 q4) ?_
          conv => whnf
          first | refine ⟨fun h => absurd h (by decide), fun _ => ?_⟩ | refine ⟨fun _ => ?_, fun h => absurd h (by decide)⟩
          conv => whnf
          refine ⟨fun h6 => ?_, fun h6 => ?_⟩
          · have e : inI m (sgR m) (sgP m) (outI m (sgR m) (sgP m) (x + 1)) (x + 1) (y + 1) = (x + 1, y) := by rw [inI_succ, stepI, if_pos (of_decide_eq_true h6)]
            conv => whnf
            rw [nat_wrap (by omega)]
            refine ⟨(true, y + 1), none, ?_, by simp only; omega, by simp only; omega⟩
            dsimp only
            simp only [e]
            (refine ⟨rfl, rfl, ?_, ?_⟩ <;> ((repeat' (first | exact trivial | exact rfl | refine And.intro ?_ ?_)) <;> (try ((conv => whnf); first | refine vint ?_ | refine vboo ?_ | refine rint ?_ | refine rrow ?_ | skip)) <;> (try first | omega | (simp; done) | ((repeat rw [flts_closed _ (by assumption)]); exact vws_closed _ (by assumption)))))
          · have e : inI m (sgR m) (sgP m) (outI m (sgR m) (sgP m) (x + 1)) (x + 1) (y + 1) = inI m (sgR m) (sgP m) (outI m (sgR m) (sgP m) (x + 1)) (x + 1) y := by rw [inI_succ, stepI, if_neg (of_decide_eq_false h6)]
            conv => whnf
            rw [nat_wrap (by omega)]
            refine ⟨(false, y + 1), none, ?_, by simp only; omega, by simp only; omega⟩
            dsimp only
            simp only [e]
            (refine ⟨rfl, rfl, ?_, ?_⟩ <;> ((repeat' (first | exact trivial | exact rfl | refine And.intro ?_ ?_)) <;> (try ((conv => whnf); first | refine vint ?_ | refine vboo ?_ | refine rint ?_ | refine rrow ?_ | skip)) <;> (try first | omega | (simp; done) | ((repeat rw [flts_closed _ (by assumption)]); exact vws_closed _ (by assumption)))))
        · have h5 := ltF h5
          obtain rfl : y = (sgP m).length := by omega
          conv => whnf
          rw [nat_wrap (by omega)]
          refine ⟨x + 1 + 1, some [(0, .row 0), (1, .row 1)], ?_, by omega, by omega⟩
          dsimp only
          simp only [outI_succ m (sgR m) (sgP m) (x + 1)]
          (refine ⟨rfl, rfl, ?_, ?_⟩ <;> ((repeat' (first | exact trivial | exact rfl | refine And.intro ?_ ?_)) <;> (try ((conv => whnf); first | refine vint ?_ | refine vboo ?_ | refine rint ?_ | refine rrow ?_ | skip)) <;> (try first | omega | (simp; done) | ((repeat rw [flts_closed _ (by assumption)]); exact vws_closed _ (by assumption)))))
    · have h := ltF h
      have hx1 : x + 1 = (sgR m).length := by omega
      have e : outI m (sgR m) (sgP m) (x + 1) = bestIx m := by rw [hx1]; rfl
      conv => whnf
      rw [e]
      exact ⟨rfl, rfl⟩
end Go.Proofs.YtkomndcehdneaaaGreat
/- SignBias, program and reference. -/
namespace Go.Proofs.YtkomndcehdneaaaGreat
open Go.Aw
set_option maxRecDepth 100000

def biasOf (m : List (List Int)) : Int := if goodM m then sumW m (bestR m) (bestP m) else 0
def bestRr (m : List (List Int)) : List Int := if goodM m then bestR m else []
def bestPr (m : List (List Int)) : List Int := if goodM m then bestP m else []

theorem best_pre {m : List (List Int)} (hg : goodM m = true) : m.length ≤ (bestR m).length ∧ (∀ r, r ∈ m → r.length ≤ (bestP m).length) ∧ (bestR m).length ≤ 1000 ∧ (bestP m).length ≤ 1000 := by
  have pR : 0 < (sgR m).length := by rw [sgR, signsL_len]; exact two_pow_pos _
  have pP : 0 < (sgP m).length := by rw [sgP, signsL_len]; exact two_pow_pos _
  have h := outI_lt (m := m) pR pP (sgR m).length (Nat.le_refl _)
  exact sum_pre hg h.1 h.2

theorem SignBias_s (m : List (List Int)) (hm : OkM m) (_km : SzM m) : FSpec Tryz.prog 42 [.t (.rows m)] (ex (.tu [.c (.int .i64 (biasOf m)), .c (.bool (goodM m))]) []) := by
  refine fspec tyOk mx Tryz.func42 rfl (by kernel_rfl) rfl ?_
  conv => whnf
  refine ACall.use (l5Good_spec m hm.1 hm.len) ?_
  refine ⟨fun h => ?_, fun h => ?_⟩
  · have hg : goodM m = false := by simpa using h
    conv => whnf
    refine ⟨by rw [biasOf, hg]; rfl, rfl⟩
  · have hg : goodM m = true := by simpa using h
    obtain ⟨p1, p2, p3, p4⟩ := best_pre hg
    conv => whnf
    refine ACall.use (l5Best_spec m hg) ?_
    conv => whnf
    refine ACall.use (l5Sum_spec m (bestR m) (bestP m) p1 p2 p3 p4) ?_
    conv => whnf
    refine ⟨by rw [biasOf, hg]; rfl, rfl⟩

theorem SignBias_i (m : List (List Int)) (hm : OkM m) (_km : SzM m) : FSpec Tryz.prog 41 [.t (.rows m)] (ex (.tu [.c (.int .i64 (biasOf m)), .c (.bool (goodM m))]) []) := by
  refine fspec tyOk mx Tryz.func41 rfl (by kernel_rfl) rfl ?_
  conv => whnf
  refine ACall.use (iIsSignGame_spec m hm.1 hm.len) ?_
  refine ⟨fun h => ?_, fun h => ?_⟩
  · have hg : goodM m = false := by simpa using h
    conv => whnf
    refine ⟨by rw [biasOf, hg]; rfl, rfl⟩
  · have hg : goodM m = true := by simpa using h
    conv => whnf
    refine ACall.use (bestSigns_spec m hg) ?_
    conv => whnf
    refine ⟨by rw [biasOf, hg]; rfl, rfl⟩

end Go.Proofs.YtkomndcehdneaaaGreat
/- Signs, sums over signs, the bias: what holds of them. -/
namespace Go.Proofs.YtkomndcehdneaaaGreat
open Go.Aw
set_option maxRecDepth 100000

theorem getD_out {α : Type} {l : List α} {i : Nat} {d : α} (h : ¬ i < l.length) : l.getD i d = d := by rw [List.getD_eq_getElem?_getD, List.getElem?_eq_none (Nat.le_of_not_lt h)]; rfl
theorem W_id {n : Int} (h1 : -9223372036854775808 ≤ n) (h2 : n ≤ 9223372036854775807) : W n = n := w64 (by omega) (by omega)
theorem rep_getD {α : Type} {n i : Nat} {a d : α} (h : i < n) : (List.replicate n a).getD i d = a := by rw [List.getD_eq_getElem?_getD, List.getElem?_replicate, if_pos h]; rfl
/-- a vector of n signs -/
def Sg (n : Nat) (l : List Int) : Prop := l.length = n ∧ ∀ x, x ∈ l → x = 1 ∨ x = -1
def mulV (a b : List Int) : List Int := List.zipWith (· * ·) a b
theorem mulV_get : ∀ (a b : List Int) (i : Nat), (mulV a b).getD i 0 = a.getD i 0 * b.getD i 0
  | [], b, i => by simp [mulV]
  | x :: a, [], i => by simp [mulV]
  | x :: a, y :: b, 0 => by simp [mulV]
  | x :: a, y :: b, i + 1 => by
      have := mulV_get a b i
      simpa [mulV] using this
theorem Sg.get {n : Nat} {l : List Int} (h : Sg n l) {i : Nat} (hi : i < n) : l.getD i 0 = 1 ∨ l.getD i 0 = -1 := h.2 _ (getD_mem (by rw [h.1]; exact hi))
theorem Sg.at {n : Nat} {l : List Int} (h : Sg n l) (i : Nat) : -1 ≤ l.getD i 0 ∧ l.getD i 0 ≤ 1 := by
  by_cases hi : i < n
  · rcases h.get hi with e | e <;> omega
  · have : l.getD i 0 = 0 := by simp [List.getD, show ¬ i < l.length by rw [h.1]; exact hi]
    omega
theorem Sg.mul {n : Nat} {a b : List Int} (ha : Sg n a) (hb : Sg n b) : Sg n (mulV a b) := by
  have hl : (mulV a b).length = n := by simp [mulV, ha.1, hb.1]
  refine ⟨hl, fun x hx => ?_⟩
  obtain ⟨i, hi, rfl⟩ := List.mem_iff_getElem.1 hx
  have e : (mulV a b)[i] = (mulV a b).getD i 0 := by simp [List.getD, hi]
  rw [e, mulV_get]
  rw [hl] at hi
  rcases ha.get hi with h1 | h1 <;> rcases hb.get hi with h2 | h2 <;> rw [h1, h2] <;> omega
theorem Sg.one (n : Nat) : Sg n (List.replicate n 1) := ⟨by simp, fun x hx => .inl (List.eq_of_mem_replicate hx)⟩
theorem Sg.neg {n : Nat} {a : List Int} (ha : Sg n a) : Sg n (a.map fun x => -x) := by
  refine ⟨by simp [ha.1], fun x hx => ?_⟩
  obtain ⟨y, hy, rfl⟩ := List.mem_map.1 hx
  rcases ha.2 y hy with h | h <;> omega

theorem sg_row {n x : Nat} (h1 : 1 ≤ n) (h3 : n ≤ 3) (h : x < (signsL n).length) : Sg n ((signsL n).getD x []) := by
  have key : ∀ n, 1 ≤ n → n ≤ 3 → ∀ l, l ∈ signsL n → l.length = n ∧ ∀ x, x ∈ l → x = 1 ∨ x = -1 := by
    intro n h1 h3
    have : n = 1 ∨ n = 2 ∨ n = 3 := by omega
    rcases this with rfl | rfl | rfl <;> decide +kernel
  exact key n h1 h3 _ (getD_mem h)
theorem Sg.mem {n : Nat} {l : List Int} (h1 : 1 ≤ n) (h3 : n ≤ 3) (h : Sg n l) : ∃ x, x < (signsL n).length ∧ (signsL n).getD x [] = l := by
  have key : l ∈ signsL n := by
    have : n = 1 ∨ n = 2 ∨ n = 3 := by omega
    obtain ⟨hl, hs⟩ := h
    have k1 : ∀ a, a ∈ [(1 : Int), -1] → [a] ∈ signsL 1 := by decide +kernel
    have k2 : ∀ a, a ∈ [(1 : Int), -1] → ∀ b, b ∈ [(1 : Int), -1] → [a, b] ∈ signsL 2 := by decide +kernel
    have k3 : ∀ a, a ∈ [(1 : Int), -1] → ∀ b, b ∈ [(1 : Int), -1] → ∀ c, c ∈ [(1 : Int), -1] → [a, b, c] ∈ signsL 3 := by decide +kernel
    have q : ∀ x, x ∈ l → x ∈ [(1 : Int), -1] := fun x hx => by simpa using hs x hx
    rcases this with rfl | rfl | rfl
    · obtain ⟨a, rfl⟩ := List.length_eq_one_iff.1 hl
      exact k1 a (q a (by simp))
    · match l, hl with
      | [a, b], _ => exact k2 a (q a (by simp)) b (q b (by simp))
    · match l, hl with
      | [a, b, c], _ => exact k3 a (q a (by simp)) b (q b (by simp)) c (q c (by simp))
  obtain ⟨x, hx, e⟩ := List.mem_iff_getElem.1 key
  exact ⟨x, hx, by simp [List.getD, hx, e]⟩

theorem goodM_of {m : List (List Int)} {n : Nat} (h1 : 1 ≤ m.length) (h2 : m.length ≤ 3) (h3 : 1 ≤ n) (h4 : n ≤ 3) (h5 : ∀ r, r ∈ m → r.length = n ∧ ∀ x, x ∈ r → -9 ≤ x ∧ x ≤ 9) : goodM m = true := by
  have h0 := (h5 _ (getD_mem (d := []) (k := 0) (by omega : 0 < m.length))).1
  simp only [goodM, inR, rowIn, Bool.and_eq_true, decide_eq_true_eq, List.all_eq_true]
  refine ⟨⟨by omega, by omega⟩, fun r hr => ?_⟩
  have := h5 r hr
  exact ⟨⟨⟨by omega, by omega⟩, by omega⟩, this.2⟩

theorem good_at {m : List (List Int)} (hg : goodM m = true) (x y : Nat) : -9 ≤ (m.getD x []).getD y 0 ∧ (m.getD x []).getD y 0 ≤ 9 := by
  obtain ⟨_, _, _, _, g5⟩ := goodM_spec hg
  by_cases hx : x < m.length
  · have := g5 _ (getD_mem (d := []) hx)
    by_cases hy : y < (m.getD x []).length
    · exact this.2 _ (getD_mem hy)
    · rw [getD_out hy]; omega
  · rw [getD_out (l := m) hx, getD_out (by simp)]; omega
theorem good_out {m : List (List Int)} {x y : Nat} (hy : ¬ y < (m.getD x []).length) : (m.getD x []).getD y 0 = 0 := by
  exact getD_out hy
theorem good_wid {m : List (List Int)} (hg : goodM m = true) {x : Nat} (hx : x < m.length) : (m.getD x []).length = (m.getD 0 []).length := by
  obtain ⟨_, _, _, _, g5⟩ := goodM_spec hg
  exact (g5 _ (getD_mem (d := []) hx)).1

theorem mul3 {a c p b : Int} (hb : 0 ≤ b) (ha : -b ≤ a ∧ a ≤ b) (hc : -1 ≤ c ∧ c ≤ 1) (hp : -1 ≤ p ∧ p ≤ 1) : (-b ≤ a * c ∧ a * c ≤ b) ∧ (-b ≤ a * c * p ∧ a * c * p ≤ b) := by
  have hc : c = -1 ∨ c = 0 ∨ c = 1 := by omega
  have hp : p = -1 ∨ p = 0 ∨ p = 1 := by omega
  rcases hc with rfl | rfl | rfl <;> rcases hp with rfl | rfl | rfl <;> simp <;> omega

def SS (m : List (List Int)) (r p : List Int) : Int := sm (fun x => sm (fun y => (m.getD x []).getD y 0 * r.getD x 0 * p.getD y 0) (m.getD x []).length) m.length
def Un (l : List Int) : Prop := ∀ i, -1 ≤ l.getD i 0 ∧ l.getD i 0 ≤ 1
theorem Sg.un {n : Nat} {l : List Int} (h : Sg n l) : Un l := h.at
theorem sumRow_nx (r p : List Int) (c s : Int) (y : Nat) : sumRow r p c s (y + 1) = W (sumRow r p c s y + W (W (r.getD y 0 * c) * p.getD y 0)) := rfl
theorem sumRow_eq {m : List (List Int)} (hg : goodM m = true) {r p : List Int} (hr : Un r) (hp : Un p) (x : Nat) (s : Int) (hs : -1000 ≤ s ∧ s ≤ 1000) : ∀ n : Nat, n ≤ 3 →
    sumRow (m.getD x []) p (r.getD x 0) s n = s + sm (fun y => (m.getD x []).getD y 0 * r.getD x 0 * p.getD y 0) n
  | 0, _ => by show s = s + 0; omega
  | n + 1, hn => by
      have h := mul3 (by omega) (good_at hg x n) (hr x) (hp n)
      have hb := sm_bd (b := 9) (n := n) (f := fun y => (m.getD x []).getD y 0 * r.getD x 0 * p.getD y 0) (fun y _ => (mul3 (by omega) (good_at hg x y) (hr x) (hp y)).2)
      rw [sumRow_nx, sumRow_eq hg hr hp x s hs n (by omega), W_id (n := (m.getD x []).getD n 0 * r.getD x 0) (by omega) (by omega), W_id (n := (m.getD x []).getD n 0 * r.getD x 0 * p.getD n 0) (by omega) (by omega), W_id (by omega) (by omega), sm]
      omega
theorem sumTo_eq {m : List (List Int)} (hg : goodM m = true) {r p : List Int} (hr : Un r) (hp : Un p) : ∀ n : Nat, n ≤ m.length →
    sumTo m r p n = sm (fun x => sm (fun y => (m.getD x []).getD y 0 * r.getD x 0 * p.getD y 0) (m.getD x []).length) n ∧ -(n * 27 : Int) ≤ sumTo m r p n ∧ sumTo m r p n ≤ n * 27
  | 0, _ => ⟨rfl, by show _ ≤ (0 : Int); omega, by show (0 : Int) ≤ _; omega⟩
  | n + 1, hn => by
      obtain ⟨g1, g2, g3, g4, g5⟩ := goodM_spec hg
      obtain ⟨h1, h2, h3⟩ := sumTo_eq hg hr hp n (by omega)
      have hw := good_wid hg (x := n) (by omega)
      have e : sumTo m r p (n + 1) = sumRow (m.getD n []) p (r.getD n 0) (sumTo m r p n) (m.getD n []).length := rfl
      rw [e, sumRow_eq hg hr hp n _ (by omega) _ (by omega), sm, h1]
      have hb := sm_bd (b := 9) (n := (m.getD n []).length) (f := fun y => (m.getD n []).getD y 0 * r.getD n 0 * p.getD y 0) (fun y _ => (mul3 (by omega) (good_at hg n y) (hr n) (hp y)).2)
      rw [h1] at h2 h3
      refine ⟨rfl, ?_, ?_⟩ <;> (have : (m.getD n []).length ≤ 3 := by omega) <;> omega
theorem sumW_eq {m : List (List Int)} (hg : goodM m = true) {r p : List Int} (hr : Un r) (hp : Un p) : sumW m r p = SS m r p ∧ -81 ≤ SS m r p ∧ SS m r p ≤ 81 := by
  obtain ⟨g1, g2, g3, g4, g5⟩ := goodM_spec hg
  obtain ⟨h1, h2, h3⟩ := sumTo_eq hg hr hp m.length (Nat.le_refl _)
  have : sumW m r p = SS m r p := h1
  refine ⟨this, ?_, ?_⟩ <;> rw [← this] <;> (show _ ≤ _) <;> simp only [sumW] <;> omega

theorem inI_le {m R P : List (List Int)} {acc : Nat × Nat} {x : Nat} : ∀ y, (sumW m (R.getD acc.1 []) (P.getD acc.2 []) ≤ sumW m (R.getD (inI m R P acc x y).1 []) (P.getD (inI m R P acc x y).2 [])) ∧
    ∀ k, k < y → sumW m (R.getD x []) (P.getD k []) ≤ sumW m (R.getD (inI m R P acc x y).1 []) (P.getD (inI m R P acc x y).2 [])
  | 0 => ⟨Int.le_refl _, fun k hk => absurd hk (by omega)⟩
  | y + 1 => by
      obtain ⟨h1, h2⟩ := inI_le (m := m) (R := R) (P := P) (acc := acc) (x := x) y
      rw [inI_succ]
      unfold stepI
      split
      · rename_i h
        refine ⟨by simp only; omega, fun k hk => ?_⟩
        by_cases e : k = y
        · subst e; exact Int.le_refl _
        · have := h2 k (by omega)
          simp only; omega
      · rename_i h
        refine ⟨h1, fun k hk => ?_⟩
        by_cases e : k = y
        · subst e; omega
        · exact h2 k (by omega)
theorem outI_le {m R P : List (List Int)} : ∀ x, ∀ j, j < x → ∀ k, k < P.length → sumW m (R.getD j []) (P.getD k []) ≤ sumW m (R.getD (outI m R P x).1 []) (P.getD (outI m R P x).2 [])
  | 0 => fun j hj => absurd hj (by omega)
  | x + 1 => fun j hj k hk => by
      obtain ⟨h1, h2⟩ := inI_le (m := m) (R := R) (P := P) (acc := outI m R P x) (x := x) P.length
      rw [outI_succ]
      by_cases e : j = x
      · subst e; exact h2 k hk
      · exact Int.le_trans (outI_le x j (by omega) k hk) h1
theorem bias_ge {m : List (List Int)} (hg : goodM m = true) {r p : List Int} (hr : Sg m.length r) (hp : Sg (m.getD 0 []).length p) : SS m r p ≤ biasOf m := by
  obtain ⟨g1, g2, g3, g4, g5⟩ := goodM_spec hg
  rw [← (sumW_eq hg hr.un hp.un).1, biasOf, if_pos hg]
  obtain ⟨i, hi, rfl⟩ := hr.mem g1 g2
  obtain ⟨j, hj, rfl⟩ := hp.mem g3 g4
  exact outI_le _ i hi j hj
theorem bias_at {m : List (List Int)} (hg : goodM m = true) : ∃ r p, Sg m.length r ∧ Sg (m.getD 0 []).length p ∧ biasOf m = SS m r p := by
  obtain ⟨g1, g2, g3, g4, g5⟩ := goodM_spec hg
  have h := outI_lt (m := m) (R := sgR m) (P := sgP m) (by rw [sgR, signsL_len]; exact two_pow_pos _) (by rw [sgP, signsL_len]; exact two_pow_pos _) (sgR m).length (Nat.le_refl _)
  have hr := sg_row g1 g2 h.1
  have hp := sg_row g3 g4 h.2
  exact ⟨_, _, hr, hp, by rw [biasOf, if_pos hg]; exact (sumW_eq hg hr.un hp.un).1⟩
theorem bias_le {m : List (List Int)} (hg : goodM m = true) : -81 ≤ biasOf m ∧ biasOf m ≤ 81 := by
  obtain ⟨r, p, hr, hp, e⟩ := bias_at hg
  rw [e]; exact (sumW_eq hg hr.un hp.un).2
end Go.Proofs.YtkomndcehdneaaaGreat
/- Sign games that are switched; their functionals. -/
namespace Go.Proofs.YtkomndcehdneaaaGreat
open Go.Aw
set_option maxRecDepth 100000

def isSign (x : Int) : Bool := x == 1 || x == -1
def areS (l : List Int) (n : Int) : Bool := l.all isSign && decide ((l.length : Int) = n)

theorem l1Has_spec (l : List Int) (n : Int) (hl : l.length ≤ 9223372036854775806) : FSpec Tryz.prog 178 [.t (.ints .i64 l), .c (.int .i64 n)] (ex (.c (.bool (decide (n ∈ l)))) []) := by
  refine fspec tyOk mx Tryz.func178 rfl (by kernel_rfl) rfl ?_
  conv => whnf
  refine aloopI tyOk mx (fun k : Nat => (⟨18, [(0, .t (.ints .i64 l)), (1, .c (.int .i64 n)), (5, .c (.int .i64 (k)))], [], 0⟩ : St)) (fun k => k ≤ l.length ∧ n ∉ l.take k) (fun k => l.length - k) 0 ⟨by omega, by simp⟩ none (by refine ⟨rfl, rfl, ?_, ?_⟩ <;> ((repeat' (first | exact trivial | exact rfl | refine And.intro ?_ ?_)) <;> (try ((conv => whnf); first | refine vint ?_ | refine vboo ?_ | refine rint ?_ | refine rrow ?_ | skip)) <;> (try first | omega | (simp; done) | ((repeat rw [flts_closed _ (by assumption)]); exact vws_closed _ (by assumption))))) (fun k hI => ?_)
  obtain ⟨hk, hp⟩ := hI
  refine ⟨fun h => ?_, fun h => ?_⟩
  · have h := ltT h
    conv => whnf
    refine ⟨k, rfl, h, ?_⟩
    refine ⟨fun h2 => ?_, fun h2 => ?_⟩
    · conv => whnf
      refine ⟨?_, rfl⟩
      have e : l.getD k 0 = n := by simpa using h2
      rw [decide_eq_true (by rw [← e]; exact getD_mem h)]
    · conv => whnf
      rw [nat_wrap (by omega)]
      refine ⟨k + 1, none, (by refine ⟨rfl, rfl, ?_, ?_⟩ <;> ((repeat' (first | exact trivial | exact rfl | refine And.intro ?_ ?_)) <;> (try ((conv => whnf); first | refine vint ?_ | refine vboo ?_ | refine rint ?_ | refine rrow ?_ | skip)) <;> (try first | omega | (simp; done) | ((repeat rw [flts_closed _ (by assumption)]); exact vws_closed _ (by assumption))))), ⟨by omega, ?_⟩, by omega⟩
      rw [List.take_succ_eq_append_getElem h]
      have e : l.getD k 0 ≠ n := by simpa using h2
      simp [List.getD, h] at e
      rw [List.mem_append]
      rintro (h3 | h3)
      · exact hp h3
      · simp at h3; exact e h3.symm
  · have h := ltF h
    conv => whnf
    refine ⟨?_, rfl⟩
    rw [List.take_of_length_le (by omega)] at hp
    rw [decide_eq_false hp]
theorem l5Are_spec (l : List Int) (n : Int) (hl : l.length ≤ 9223372036854775806) : FSpec Tryz.prog 124 [.t (.ints .i64 l), .c (.int .i64 n)] (ex (.c (.bool (areS l n))) []) := by
  refine fspec tyOk mx Tryz.func124 rfl (by kernel_rfl) rfl ?_
  conv => whnf
  refine aloopI tyOk mx (fun k : Nat => (⟨23, [(0, .t (.ints .i64 l)), (1, .c (.int .i64 n)), (5, .c (.int .i64 (k)))], [], 0⟩ : St)) (fun k => k ≤ l.length ∧ (l.take k).all isSign = true) (fun k => l.length - k) 0 ⟨by omega, by simp⟩ none (by refine ⟨rfl, rfl, ?_, ?_⟩ <;> ((repeat' (first | exact trivial | exact rfl | refine And.intro ?_ ?_)) <;> (try ((conv => whnf); first | refine vint ?_ | refine vboo ?_ | refine rint ?_ | refine rrow ?_ | skip)) <;> (try first | omega | (simp; done) | ((repeat rw [flts_closed _ (by assumption)]); exact vws_closed _ (by assumption))))) (fun k hI => ?_)
  obtain ⟨hk, hp⟩ := hI
  refine ⟨fun h => ?_, fun h => ?_⟩
  · have h := ltT h
    conv => whnf
    refine ⟨k, rfl, h, ?_⟩
    conv => whnf
    refine ACall.use (l1Has_spec [1, -1] (l.getD k 0) (by decide)) ?_
    refine ⟨fun h2 => ?_, fun h2 => ?_⟩
    · conv => whnf
      refine ⟨?_, rfl⟩
      rw [areS, all_false (d := 0) h (by simpa [isSign] using h2)]
      rfl
    · conv => whnf
      rw [nat_wrap (by omega)]
      refine ⟨k + 1, none, (by refine ⟨rfl, rfl, ?_, ?_⟩ <;> ((repeat' (first | exact trivial | exact rfl | refine And.intro ?_ ?_)) <;> (try ((conv => whnf); first | refine vint ?_ | refine vboo ?_ | refine rint ?_ | refine rrow ?_ | skip)) <;> (try first | omega | (simp; done) | ((repeat rw [flts_closed _ (by assumption)]); exact vws_closed _ (by assumption))))), ⟨by omega, all_take_succ (d := 0) h hp (by simpa [isSign, Classical.or_iff_not_imp_left] using h2)⟩, by omega⟩
  · have h := ltF h
    conv => whnf
    refine ⟨?_, rfl⟩
    rw [areS, all_end h hp, Bool.true_and]
    rfl
theorem areSigns_spec (l : List Int) (n : Int) (hl : l.length ≤ 9223372036854775806) : FSpec Tryz.prog 122 [.t (.ints .i64 l), .c (.int .i64 n)] (ex (.c (.bool (areS l n))) []) := by
  refine fspec tyOk mx Tryz.func122 rfl (by kernel_rfl) rfl ?_
  conv => whnf
  refine aloopI tyOk mx (fun k : Nat => (⟨24, [(0, .t (.ints .i64 l)), (1, .c (.int .i64 n)), (7, .t (.ints .i64 l)), (8, .c (.int .i64 l.length)), (9, .c (.int .i64 (k)))], [], 0⟩ : St)) (fun k => k ≤ l.length ∧ (l.take k).all isSign = true) (fun k => l.length - k) 0 ⟨by omega, by simp⟩ none (by refine ⟨rfl, rfl, ?_, ?_⟩ <;> ((repeat' (first | exact trivial | exact rfl | refine And.intro ?_ ?_)) <;> (try ((conv => whnf); first | refine vint ?_ | refine vboo ?_ | refine rint ?_ | refine rrow ?_ | skip)) <;> (try first | omega | (simp; done) | ((repeat rw [flts_closed _ (by assumption)]); exact vws_closed _ (by assumption))))) (fun k hI => ?_)
  obtain ⟨hk, hp⟩ := hI
  refine ⟨fun h => ?_, fun h => ?_⟩
  · have h := ltT h
    conv => whnf
    refine ⟨k, rfl, h, ?_⟩
    refine ⟨fun h2 => ?_, fun h2 => ?_⟩
    · conv => whnf
      refine ⟨fun h3 => ?_, fun h3 => ?_⟩
      · conv => whnf
        refine ⟨?_, rfl⟩
        rw [areS, all_false (d := 0) h (by simp [isSign] at h2 h3 ⊢; exact ⟨h2, h3⟩)]
        rfl
      · conv => whnf
        rw [nat_wrap (by omega)]
        refine ⟨k + 1, none, (by refine ⟨rfl, rfl, ?_, ?_⟩ <;> ((repeat' (first | exact trivial | exact rfl | refine And.intro ?_ ?_)) <;> (try ((conv => whnf); first | refine vint ?_ | refine vboo ?_ | refine rint ?_ | refine rrow ?_ | skip)) <;> (try first | omega | (simp; done) | ((repeat rw [flts_closed _ (by assumption)]); exact vws_closed _ (by assumption))))), ⟨by omega, all_take_succ (d := 0) h hp (by simp [isSign] at h2 h3 ⊢; exact .inr h3)⟩, by omega⟩
    · conv => whnf
      first | refine ⟨fun h => absurd h (by decide), fun _ => ?_⟩ | refine ⟨fun _ => ?_, fun h => absurd h (by decide)⟩
      conv => whnf
      rw [nat_wrap (by omega)]
      refine ⟨k + 1, none, (by refine ⟨rfl, rfl, ?_, ?_⟩ <;> ((repeat' (first | exact trivial | exact rfl | refine And.intro ?_ ?_)) <;> (try ((conv => whnf); first | refine vint ?_ | refine vboo ?_ | refine rint ?_ | refine rrow ?_ | skip)) <;> (try first | omega | (simp; done) | ((repeat rw [flts_closed _ (by assumption)]); exact vws_closed _ (by assumption))))), ⟨by omega, all_take_succ (d := 0) h hp (by simp [isSign] at h2 ⊢; exact .inl h2)⟩, by omega⟩
  · have h := ltF h
    conv => whnf
    refine ⟨?_, rfl⟩
    rw [areS, all_end h hp, Bool.true_and]
    rfl
def swAt (m : List (List Int)) (r p : List Int) (x y : Nat) : Int := W (W ((m.getD x []).getD y 0 * r.getD x 0) * p.getD y 0)
def swRow (m : List (List Int)) (r p : List Int) (x : Nat) : List Int := (List.range (m.getD x []).length).map (swAt m r p x)
def switchR (m : List (List Int)) (r p : List Int) : List (List Int) := (List.range m.length).map (swRow m r p)

theorem l5Switch_spec (m : List (List Int)) (r p : List Int) (hm : m.length ≤ 1000) (h1 : m.length ≤ r.length) (h2 : ∀ q, q ∈ m → q.length ≤ p.length) (h3 : p.length ≤ 1000) :
    FSpec Tryz.prog 125 [.t (.rows m), .t (.ints .i64 r), .t (.ints .i64 p)] (ex (.own 0) [(0, .rows 38 3 true (switchR m r p))]) := by
  refine fspec tyOk mx Tryz.func125 rfl (by kernel_rfl) rfl ?_
  conv => whnf
  refine aloopI tyOk mx (fun x : Nat => (⟨53, [(0, .t (.rows m)), (1, .t (.ints .i64 r)), (2, .t (.ints .i64 p)), (7, .own 0), (8, .c (.int .i64 (x)))], [(0, .rows 38 3 true ((List.range x).map (swRow m r p)))], 1⟩ : St)) (fun x => x ≤ m.length) (fun x => m.length - x) 0 (by omega) none (by refine ⟨rfl, rfl, ?_, ?_⟩ <;> ((repeat' (first | exact trivial | exact rfl | refine And.intro ?_ ?_)) <;> (try ((conv => whnf); first | refine vint ?_ | refine vboo ?_ | refine rint ?_ | refine rrow ?_ | skip)) <;> (try first | omega | (simp; done) | ((repeat rw [flts_closed _ (by assumption)]); exact vws_closed _ (by assumption))))) (fun x hx => ?_)
  refine ⟨fun h => ?_, fun h => ?_⟩
  · have h := ltT h
    have h4 := h2 _ (getD_mem (d := []) h)
    conv => whnf
    refine aloopI tyOk mx (fun y : Nat => (⟨53, [(0, .t (.rows m)), (1, .t (.ints .i64 r)), (2, .t (.ints .i64 p)), (7, .own 0), (8, .c (.int .i64 (x))), (9, .own 1), (10, .c (.int .i64 (y)))], [(0, .rows 38 3 true ((List.range x).map (swRow m r p))), (1, .ints 3 .i64 ((List.range y).map (swAt m r p x)))], 2⟩ : St)) (fun y => y ≤ (m.getD x []).length) (fun y => (m.getD x []).length - y) 0 (by omega) none (by refine ⟨rfl, rfl, ?_, ?_⟩ <;> ((repeat' (first | exact trivial | exact rfl | refine And.intro ?_ ?_)) <;> (try ((conv => whnf); first | refine vint ?_ | refine vboo ?_ | refine rint ?_ | refine rrow ?_ | skip)) <;> (try first | omega | (simp; done) | ((repeat rw [flts_closed _ (by assumption)]); exact vws_closed _ (by assumption))))) (fun y hy => ?_)
    refine ⟨x, rfl, h, fun h5 => ?_, fun h5 => ?_⟩
    · have h5 := ltT h5
      refine ADraw.plan tyOk mx (.q 0 (.q 1 (.q 2 (.q 3 (.q 4 (.q 5 (.q 6 (.q 7 (.q 8 (.q 9 (.q 10 (.q 11 (.q 12 (.q 13 (.q 14 (.q 15 (.q 16 (.q 17 (.last 18 (.last 19 (.q 20 (.done))))))))))))))))))))) : Plan) (by kernel_rfl) ?_
      conv => whnf
      refine ⟨x, rfl, h, y, rfl, h5, x, rfl, by omega, y, rfl, by omega, ?_⟩
      conv => whnf
      refine ⟨by simp [room]; omega, ?_⟩
      conv => whnf
      rw [nat_wrap (by omega)]
      refine ⟨y + 1, none, ?_, by omega, by omega⟩
      (refine ⟨rfl, rfl, ?_, ?_⟩ <;> ((repeat' (first | exact trivial | exact rfl | refine And.intro ?_ ?_)) <;> (try ((conv => whnf); first | refine vint ?_ | refine vboo ?_ | refine rint ?_ | refine rrow ?_ | skip)) <;> (try first | omega | (simp; done) | ((repeat rw [flts_closed _ (by assumption)]); exact vws_closed _ (by assumption)))))
      rw [← map_range_succ]; rfl
    · have h5 := ltF h5
      obtain rfl : y = (m.getD x []).length := by omega
      conv => whnf
      refine ⟨by simp [room]; omega, ?_⟩
      conv => whnf
      rw [nat_wrap (by omega)]
      refine ⟨x + 1, none, ?_, by omega, by omega⟩
      (refine ⟨rfl, rfl, ?_, ?_⟩ <;> ((repeat' (first | exact trivial | exact rfl | refine And.intro ?_ ?_)) <;> (try ((conv => whnf); first | refine vint ?_ | refine vboo ?_ | refine rint ?_ | refine rrow ?_ | skip)) <;> (try first | omega | (simp; done) | ((repeat rw [flts_closed _ (by assumption)]); exact vws_closed _ (by assumption)))))
      rw [← map_range_succ]; rfl
  · have h := ltF h
    obtain rfl : x = m.length := by omega
    conv => whnf
    exact ⟨rfl, rfl⟩

theorem switched_spec (m : List (List Int)) (r p : List Int) (hm : m.length ≤ 1000) (h1 : m.length ≤ r.length) (h2 : ∀ q, q ∈ m → q.length ≤ p.length) (h3 : p.length ≤ 1000) :
    FSpec Tryz.prog 123 [.t (.rows m), .t (.ints .i64 r), .t (.ints .i64 p)] (ex (.own 0) [(0, .rows 38 3 true (switchR m r p))]) := by
  refine fspec tyOk mx Tryz.func123 rfl (by kernel_rfl) rfl ?_
  conv => whnf
  refine aloopI tyOk mx (fun x : Nat => (⟨50, [(1, .t (.ints .i64 r)), (2, .t (.ints .i64 p)), (7, .own 0), (14, .t (.rows m)), (15, .c (.int .i64 m.length)), (16, .c (.int .i64 (x)))], [(0, .rows 38 3 true ((List.range x).map (swRow m r p)))], 1⟩ : St)) (fun x => x ≤ m.length) (fun x => m.length - x) 0 (by omega) none (by refine ⟨rfl, rfl, ?_, ?_⟩ <;> ((repeat' (first | exact trivial | exact rfl | refine And.intro ?_ ?_)) <;> (try ((conv => whnf); first | refine vint ?_ | refine vboo ?_ | refine rint ?_ | refine rrow ?_ | skip)) <;> (try first | omega | (simp; done) | ((repeat rw [flts_closed _ (by assumption)]); exact vws_closed _ (by assumption))))) (fun x hx => ?_)
  refine ⟨fun h => ?_, fun h => ?_⟩
  · have h := ltT h
    have h4 := h2 _ (getD_mem (d := []) h)
    conv => whnf
    refine ⟨x, rfl, h, ?_⟩
    conv => whnf
    refine aloopI tyOk mx (fun y : Nat => (⟨50, [(1, .t (.ints .i64 r)), (2, .t (.ints .i64 p)), (7, .own 0), (8, .c (.int .i64 (x))), (10, .own 1), (14, .t (.rows m)), (15, .c (.int .i64 m.length)), (16, .c (.int .i64 (x))), (22, .t (.ints .i64 (m.getD x []))), (23, .c (.int .i64 ((m.getD x []).length))), (24, .c (.int .i64 (y)))], [(0, .rows 38 3 true ((List.range x).map (swRow m r p))), (1, .ints 3 .i64 ((List.range y).map (swAt m r p x)))], 2⟩ : St)) (fun y => y ≤ (m.getD x []).length) (fun y => (m.getD x []).length - y) 0 (by omega) none (by refine ⟨rfl, rfl, ?_, ?_⟩ <;> ((repeat' (first | exact trivial | exact rfl | refine And.intro ?_ ?_)) <;> (try ((conv => whnf); first | refine vint ?_ | refine vboo ?_ | refine rint ?_ | refine rrow ?_ | skip)) <;> (try first | omega | (simp; done) | ((repeat rw [flts_closed _ (by assumption)]); exact vws_closed _ (by assumption))))) (fun y hy => ?_)
    refine ⟨fun h5 => ?_, fun h5 => ?_⟩
    · have h5 := ltT h5
      conv => whnf
      refine ⟨y, rfl, h5, ?_⟩
      conv => whnf
      refine ADraw.plan tyOk mx (.q 0 (.q 1 (.q 2 (.q 3 (.q 4 (.q 5 (.q 6 (.q 7 (.q 8 (.q 9 (.q 10 (.q 11 (.last 12 (.last 13 (.q 14 (.done))))))))))))))) : Plan) (by kernel_rfl) ?_
      conv => whnf
      refine ⟨x, rfl, by omega, y, rfl, by omega, ?_⟩
      conv => whnf
      refine ⟨by simp [room]; omega, ?_⟩
      conv => whnf
      rw [nat_wrap (by omega)]
      refine ⟨y + 1, none, ?_, by omega, by omega⟩
      (refine ⟨rfl, rfl, ?_, ?_⟩ <;> ((repeat' (first | exact trivial | exact rfl | refine And.intro ?_ ?_)) <;> (try ((conv => whnf); first | refine vint ?_ | refine vboo ?_ | refine rint ?_ | refine rrow ?_ | skip)) <;> (try first | omega | (simp; done) | ((repeat rw [flts_closed _ (by assumption)]); exact vws_closed _ (by assumption)))))
      rw [← map_range_succ]; rfl
    · have h5 := ltF h5
      obtain rfl : y = (m.getD x []).length := by omega
      conv => whnf
      refine ⟨by simp [room]; omega, ?_⟩
      conv => whnf
      rw [nat_wrap (by omega)]
      refine ⟨x + 1, none, ?_, by omega, by omega⟩
      (refine ⟨rfl, rfl, ?_, ?_⟩ <;> ((repeat' (first | exact trivial | exact rfl | refine And.intro ?_ ?_)) <;> (try ((conv => whnf); first | refine vint ?_ | refine vboo ?_ | refine rint ?_ | refine rrow ?_ | skip)) <;> (try first | omega | (simp; done) | ((repeat rw [flts_closed _ (by assumption)]); exact vws_closed _ (by assumption)))))
      rw [← map_range_succ]; rfl
  · have h := ltF h
    obtain rfl : x = m.length := by omega
    conv => whnf
    exact ⟨rfl, rfl⟩
end Go.Proofs.YtkomndcehdneaaaGreat
/- Sign games that are switched: what holds of them. -/
namespace Go.Proofs.YtkomndcehdneaaaGreat
open Go.Aw
set_option maxRecDepth 100000

/-- as many rows and as many places in each -/
def ShpB (a b : List (List Int)) : Prop := a.length = b.length ∧ ∀ x, (a.getD x []).length = (b.getD x []).length
theorem switchB_shp (m : List (List Int)) (r p : List Int) : ShpB (switchR m r p) m := by
  refine ⟨by simp [switchR], fun x => ?_⟩
  by_cases h : x < m.length
  · simp only [switchR, List.getD_eq_getElem?_getD, List.getElem?_map, List.getElem?_range h]
    simp [swRow]
  · simp [switchR, List.getD_eq_getElem?_getD, List.getElem?_map, h]
theorem ShpB.symm {a b : List (List Int)} (h : ShpB a b) : ShpB b a := ⟨h.1.symm, fun x => (h.2 x).symm⟩
theorem ShpB.trans {a b c : List (List Int)} (h : ShpB a b) (h2 : ShpB b c) : ShpB a c := ⟨h.1.trans h2.1, fun x => (h.2 x).trans (h2.2 x)⟩
theorem shpB_ext {a b : List (List Int)} (h : ShpB a b) (he : ∀ x y, (a.getD x []).getD y 0 = (b.getD x []).getD y 0) : a = b := by
  refine List.ext_getElem h.1 fun x h1 h2 => ?_
  have e1 : a[x] = a.getD x [] := by simp [List.getD, h1]
  have e2 : b[x] = b.getD x [] := by simp [List.getD, h2]
  rw [e1, e2]
  refine List.ext_getElem (h.2 x) fun y h3 h4 => ?_
  have := he x y
  rw [List.getD_eq_getElem?_getD, List.getD_eq_getElem?_getD (l := b.getD x []), List.getElem?_eq_getElem h3, List.getElem?_eq_getElem h4] at this
  simpa using this

theorem swAt_eq {m : List (List Int)} (hg : goodM m = true) {r p : List Int} {n k : Nat} (hr : Sg n r) (hp : Sg k p) (x y : Nat) :
    swAt m r p x y = (m.getD x []).getD y 0 * r.getD x 0 * p.getD y 0 := by
  have h := mul3 (by omega) (good_at hg x y) (hr.at x) (hp.at y)
  unfold swAt
  rw [W_id (n := (m.getD x []).getD y 0 * r.getD x 0) (by omega) (by omega), W_id (by omega) (by omega)]
theorem switchR_row {m : List (List Int)} {r p : List Int} {x : Nat} (hx : x < m.length) : (switchR m r p).getD x [] = swRow m r p x := by
  simp [switchR, List.getD, hx]
theorem switchR_at {m : List (List Int)} (hg : goodM m = true) {r p : List Int} {n k : Nat} (hr : Sg n r) (hp : Sg k p) (x y : Nat) :
    ((switchR m r p).getD x []).getD y 0 = (m.getD x []).getD y 0 * r.getD x 0 * p.getD y 0 := by
  by_cases hx : x < m.length
  · rw [switchR_row hx]
    by_cases hy : y < (m.getD x []).length
    · rw [← swAt_eq hg hr hp]
      exact range_getD hy
    · rw [good_out hy]
      simp only [Int.zero_mul]
      simp only [swRow, List.getD_eq_getElem?_getD, List.getElem?_map]
      rw [List.getElem?_eq_none (by simpa using hy)]; rfl
  · have e : m.getD x [] = [] := by simp [List.getD, hx]
    have e2 : (switchR m r p).getD x [] = [] := by simp [switchR, List.getD, hx]
    rw [e, e2]; simp
theorem switchR_good {m : List (List Int)} (hg : goodM m = true) {r p : List Int} {n k : Nat} (hr : Sg n r) (hp : Sg k p) : goodM (switchR m r p) = true := by
  obtain ⟨g1, g2, g3, g4, g5⟩ := goodM_spec hg
  have hs := switchB_shp m r p
  refine goodM_of (n := (m.getD 0 []).length) (by rw [hs.1]; omega) (by rw [hs.1]; omega) g3 g4 fun q hq => ?_
  obtain ⟨x, hx, rfl⟩ := List.mem_iff_getElem.1 hq
  have hx' : x < m.length := by rw [← hs.1]; exact hx
  have e1 : (switchR m r p)[x] = (switchR m r p).getD x [] := by simp [List.getD, hx]
  rw [e1]
  refine ⟨(hs.2 x).trans (good_wid hg hx'), fun v hv => ?_⟩
  obtain ⟨y, hy, rfl⟩ := List.mem_iff_getElem.1 hv
  have e2 : ((switchR m r p).getD x [])[y] = ((switchR m r p).getD x []).getD y 0 := by
    rw [List.getD_eq_getElem?_getD (l := (switchR m r p).getD x []), List.getElem?_eq_getElem hy]; rfl
  rw [e2, switchR_at hg hr hp]
  exact (mul3 (by omega) (good_at hg x y) (hr.at x) (hp.at y)).2
theorem switchR_mul {m : List (List Int)} (hg : goodM m = true) {r p r' p' : List Int} {n k : Nat} (hr : Sg n r) (hp : Sg k p) (hr' : Sg n r') (hp' : Sg k p') :
    switchR (switchR m r p) r' p' = switchR m (mulV r r') (mulV p p') := by
  have hg' := switchR_good hg hr hp
  refine shpB_ext ((switchB_shp _ _ _).trans ((switchB_shp _ _ _).trans (switchB_shp _ _ _).symm)) fun x y => ?_
  rw [switchR_at hg' hr' hp', switchR_at hg hr hp, switchR_at hg (hr.mul hr') (hp.mul hp'), mulV_get, mulV_get]
  simp only [Int.mul_assoc, Int.mul_comm, Int.mul_left_comm]
theorem switchR_one {m : List (List Int)} (hg : goodM m = true) {r p : List Int} (hr : Sg m.length r) (hp : Sg (m.getD 0 []).length p) (h1 : ∀ x, x < m.length → r.getD x 0 = 1) (h2 : ∀ y, y < (m.getD 0 []).length → p.getD y 0 = 1) :
    switchR m r p = m := by
  refine shpB_ext (switchB_shp _ _ _) fun x y => ?_
  rw [switchR_at hg hr hp]
  by_cases hx : x < m.length
  · by_cases hy : y < (m.getD x []).length
    · rw [h1 x hx, h2 y (by rw [← good_wid hg hx]; exact hy)]; omega
    · rw [good_out hy]; simp
  · have e : m.getD x [] = [] := by simp [List.getD, hx]
    rw [e]; simp

theorem Sg.sq {n : Nat} {r : List Int} (h : Sg n r) : ∀ x, x < n → (mulV r r).getD x 0 = 1 := fun x hx => by
  rw [mulV_get]
  rcases h.get hx with e | e <;> rw [e] <;> rfl
theorem SS_switch {m : List (List Int)} (hg : goodM m = true) {r p a b : List Int} {n k : Nat} (hr : Sg n r) (hp : Sg k p) : SS (switchR m r p) a b = SS m (mulV r a) (mulV p b) := by
  have hs := switchB_shp m r p
  unfold SS
  rw [hs.1]
  refine sm_congr fun x _ => ?_
  rw [hs.2 x]
  refine sm_congr fun y _ => ?_
  rw [switchR_at hg hr hp, mulV_get, mulV_get]
  simp only [Int.mul_assoc, Int.mul_comm, Int.mul_left_comm]

end Go.Proofs.YtkomndcehdneaaaGreat
/- CutOf, program and reference. -/
namespace Go.Aw
theorem fo_eq_foldl {α : Type} (f : α → Nat → α) (a : α) : ∀ n, fo f a n = (List.range n).foldl f a
  | 0 => rfl
  | n + 1 => by rw [fo, fo_eq_foldl f a n, List.range_succ, List.foldl_append]; rfl
theorem perm_flatMap {α β : Type} {f g : α → List β} (h : ∀ a, (f a).Perm (g a)) : ∀ l : List α, (l.flatMap f).Perm (l.flatMap g)
  | [] => by simp
  | a :: l => by simp only [List.flatMap_cons]; exact (h a).append (perm_flatMap h l)
def bitOf (c : Int) (i : Nat) : Int := bits .and .i64 (shr .i64 c i) 1
def bitsI (n a : Nat) : List Int := (List.range n).map (bitOf a)
theorem bitsI_get {n a i : Nat} (h : i < n) : (bitsI n a).getD i 0 = bitOf a i := by simp [bitsI, List.getD, h]
end Go.Aw
namespace Go.Proofs.YtkomndcehdneaaaGreat
open Go.Aw
set_option maxRecDepth 100000

def halfOf (s : Int) : Int := W (Int.tdiv (W (s + 1)) 2)
def halfL (l : List Int) : List Int := l.map halfOf
def cutStep (m : List (List Int)) (acc : Int) (r p : List Int) : Int := max (max acc (sumW m r p)) (W (0 - sumW m r p))
def cutIn (m : List (List Int)) (r : List Int) (P : Nat → List Int) (acc : Int) (b : Nat) : Int := fo (fun acc b => cutStep m acc r (P b)) acc b
def cutOut (m : List (List Int)) (R P : Nat → List Int) (nP : Nat) (a : Nat) : Int := fo (fun acc a => cutIn m (R a) P acc nP) 0 a

theorem cutIn_succ (m : List (List Int)) (r : List Int) (P : Nat → List Int) (acc : Int) (b : Nat) : cutIn m r P acc (b + 1) = cutStep m (cutIn m r P acc b) r (P b) := rfl
theorem sumRow_succ (r p : List Int) (c s : Int) (y : Nat) : sumRow r p c s (y + 1) = W (sumRow r p c s y + W (W (r.getD y 0 * c) * p.getD y 0)) := rfl
theorem max3 (a b c : Int) : max a (max b c) = max (max a b) c := by omega
theorem max3' (a b c : Int) : (if c > (if b > a then b else a) then c else (if b > a then b else a)) = max (max a b) c := by omega
theorem cutOut_list (m : List (List Int)) (R P : Nat → List Int) (nP nR : Nat) :
    cutOut m R P nP nR = (((List.range nR).map R).flatMap fun r => ((List.range nP).map P).map fun p => (r, p)).foldl (fun acc q => cutStep m acc q.1 q.2) 0 := by
  unfold cutOut
  rw [fo_eq_foldl, List.foldl_flatMap, List.foldl_map]
  refine congrArg (fun f => (List.range nR).foldl f 0) ?_
  funext acc a
  unfold cutIn
  rw [fo_eq_foldl, List.map_map, List.foldl_map]
  rfl

def cutBits (m : List (List Int)) : Int := cutOut m (bitsI m.length) (bitsI (m.getD 0 []).length) (2 ^ (m.getD 0 []).length) (2 ^ m.length)
def cutRef (m : List (List Int)) : Int := cutOut m (fun a => halfL ((sgR m).getD a [])) (fun b => halfL ((sgP m).getD b [])) (2 ^ (m.getD 0 []).length) (2 ^ m.length)

theorem half_perm (n : Nat) (h1 : 1 ≤ n) (h3 : n ≤ 3) : ((List.range (2 ^ n)).map (bitsI n)).Perm ((List.range (2 ^ n)).map fun a => halfL ((signsL n).getD a [])) := by
  have : n = 1 ∨ n = 2 ∨ n = 3 := by omega
  rcases this with rfl | rfl | rfl <;> decide +kernel

theorem cut_eq (m : List (List Int)) (hg : goodM m = true) : cutRef m = cutBits m := by
  obtain ⟨g1, g2, g3, g4, g5⟩ := goodM_spec hg
  unfold cutRef cutBits
  rw [cutOut_list, cutOut_list]
  refine (List.Perm.foldl_eq' ?_ ?_ 0).symm
  · exact ((half_perm _ g1 g2).flatMap_right _).trans (perm_flatMap (fun r => (half_perm _ g3 g4).map _) _)
  · intro x _ y _ z
    simp only [cutStep]
    omega
end Go.Proofs.YtkomndcehdneaaaGreat
/- CutOf, walked, program and reference. -/
namespace Go.Proofs.YtkomndcehdneaaaGreat
open Go.Aw
set_option maxRecDepth 100000

def cutOf (m : List (List Int)) : Int := if goodM m then cutBits m else 0

theorem l1Most_spec (a b : Int) : FSpec Tryz.prog 100 [.c (.int .i64 a), .c (.int .i64 b)] (ex (.c (.int .i64 (max a b))) []) := by
  refine fspec tyOk mx Tryz.func100 rfl (by kernel_rfl) rfl ?_
  conv => whnf
  refine ⟨fun h => ?_, fun h => ?_⟩
  · have h := of_decide_eq_true h
    conv => whnf
    refine ⟨?_, rfl⟩
    rw [Int.max_eq_left (by omega)]
  · have h := of_decide_eq_false h
    conv => whnf
    refine ⟨?_, rfl⟩
    rw [Int.max_eq_right (by omega)]

theorem l5Half_spec (l : List Int) (hl : l.length ≤ 1000) : FSpec Tryz.prog 117 [.t (.ints .i64 l)] (ex (.own 0) [(0, .ints 3 .i64 (halfL l))]) := by
  refine fspec tyOk mx Tryz.func117 rfl (by kernel_rfl) rfl ?_
  conv => whnf
  refine aloopI tyOk mx (fun i : Nat => (⟨22, [(0, .t (.ints .i64 l)), (3, .own 0), (4, .c (.int .i64 (i)))], [(0, .ints 3 .i64 ((l.take i).map halfOf))], 1⟩ : St)) (fun i => i ≤ l.length) (fun i => l.length - i) 0 (Nat.zero_le _) none (by refine ⟨rfl, rfl, ?_, ?_⟩ <;> ((repeat' (first | exact trivial | exact rfl | refine And.intro ?_ ?_)) <;> (try ((conv => whnf); first | refine vint ?_ | refine vboo ?_ | refine rint ?_ | refine rrow ?_ | skip)) <;> (try first | omega | (simp; done) | ((repeat rw [flts_closed _ (by assumption)]); exact vws_closed _ (by assumption))))) (fun i hi => ?_)
  refine ⟨fun h => ?_, fun h => ?_⟩
  · have h := ltT h
    conv => whnf
    refine ⟨i, rfl, h, ?_⟩
    conv => whnf
    refine ⟨by decide, ?_⟩
    conv => whnf
    refine ⟨by simp [room]; omega, ?_⟩
    conv => whnf
    rw [nat_wrap (by omega)]
    refine ⟨i + 1, none, ?_, by omega, by omega⟩
    (refine ⟨rfl, rfl, ?_, ?_⟩ <;> ((repeat' (first | exact trivial | exact rfl | refine And.intro ?_ ?_)) <;> (try ((conv => whnf); first | refine vint ?_ | refine vboo ?_ | refine rint ?_ | refine rrow ?_ | skip)) <;> (try first | omega | (simp; done) | ((repeat rw [flts_closed _ (by assumption)]); exact vws_closed _ (by assumption)))))
    rw [List.take_succ_eq_append_getElem h, List.map_append, getD_lt h]
    rfl
  · have h := ltF h
    obtain rfl : i = l.length := by omega
    rw [List.take_length]
    conv => whnf
    exact ⟨rfl, rfl⟩

theorem half_pre {m : List (List Int)} (hg : goodM m = true) {x y : Nat} (hx : x < (sgR m).length) (hy : y < (sgP m).length) :
    m.length ≤ (halfL ((sgR m).getD x [])).length ∧ (∀ r, r ∈ m → r.length ≤ (halfL ((sgP m).getD y [])).length) ∧ (halfL ((sgR m).getD x [])).length ≤ 1000 ∧ (halfL ((sgP m).getD y [])).length ≤ 1000 := by
  have := sum_pre hg hx hy
  simpa only [halfL, List.length_map] using this

set_option maxHeartbeats 2000000 in
theorem CutOf_s (m : List (List Int)) (hm : OkM m) (_km : SzM m) : FSpec Tryz.prog 46 [.t (.rows m)] (ex (.tu [.c (.int .i64 (cutOf m)), .c (.bool (goodM m))]) []) := by
  refine fspec tyOk mx Tryz.func46 rfl (by kernel_rfl) rfl ?_
  conv => whnf
  refine ACall.use (l5Good_spec m hm.1 hm.len) ?_
  refine ⟨fun h => ?_, fun h => ?_⟩
  · have hg : goodM m = false := by simpa using h
    conv => whnf
    refine ⟨by rw [cutOf, hg]; rfl, rfl⟩
  · have hg : goodM m = true := by simpa using h
    obtain ⟨g1, g2, g3, g4, g5⟩ := goodM_spec hg
    have eR : (sgR m).length = 2 ^ m.length := by rw [sgR, signsL_len]
    have eP : (sgP m).length = 2 ^ (m.getD 0 []).length := by rw [sgP, signsL_len]
    have lR : (sgR m).length ≤ 4096 := by rw [eR]; exact two_pow_le (by omega)
    have lP : (sgP m).length ≤ 4096 := by rw [eP]; exact two_pow_le (by omega)
    conv => whnf
    refine ADraw.mid (⟨52, [(0, .t (.rows m)), (4, .own 0), (5, .own 1)], [(0, .rows 38 3 true (sgR m)), (1, .rows 38 3 true (sgP m))], 2⟩ : St) (ADraw.plan tyOk mx (.q 0 (.q 1 (.q 3 (.q 4 (.q 5 (.q 6 (.last 2 (.last 7 (.q 8 (.q 9 (.done)))))))))) : Plan) (by kernel_rfl) ?_) ?_
    · conv => whnf
      refine ⟨0, rfl, by omega, ?_⟩
      conv => whnf
      refine ACall.useR (l5Signs_spec m.length (by omega)) ?_
      conv => whnf
      refine ACall.useR (l5Signs_spec (m.getD 0 []).length (by omega)) ?_
      conv => whnf
      exact ⟨[(0, .row 0), (1, .row 1)], (by refine ⟨rfl, rfl, ?_, ?_⟩ <;> ((repeat' (first | exact trivial | exact rfl | refine And.intro ?_ ?_)) <;> (try ((conv => whnf); first | refine vint ?_ | refine vboo ?_ | refine rint ?_ | refine rrow ?_ | skip)) <;> (try first | omega | (simp; done) | ((repeat rw [flts_closed _ (by assumption)]); exact vws_closed _ (by assumption)))))⟩
    · conv => whnf
      refine aloopI tyOk mx (fun a : Nat => (⟨52, [(0, .t (.rows m)), (4, .own 0), (5, .own 1), (6, .c (.int .i64 (cutOut m (fun a => halfL ((sgR m).getD a [])) (fun b => halfL ((sgP m).getD b [])) (sgP m).length a))), (7, .c (.int .i64 (a)))], [(0, .rows 38 3 true (sgR m)), (1, .rows 38 3 true (sgP m))], 2⟩ : St)) (fun a => a ≤ (sgR m).length) (fun a => (sgR m).length - a) 0 (Nat.zero_le _) none (by refine ⟨rfl, rfl, ?_, ?_⟩ <;> ((repeat' (first | exact trivial | exact rfl | refine And.intro ?_ ?_)) <;> (try ((conv => whnf); first | refine vint ?_ | refine vboo ?_ | refine rint ?_ | refine rrow ?_ | skip)) <;> (try first | omega | (simp; done) | ((repeat rw [flts_closed _ (by assumption)]); exact vws_closed _ (by assumption))))) (fun a ha => ?_)
      refine ⟨fun h => ?_, fun h => ?_⟩
      · have h := ltT h
        conv => whnf
        refine aloopI tyOk mx (fun b : Nat => (⟨52, [(0, .t (.rows m)), (4, .own 0), (5, .own 1), (6, .c (.int .i64 (cutIn m (halfL ((sgR m).getD a [])) (fun b => halfL ((sgP m).getD b [])) (cutOut m (fun a => halfL ((sgR m).getD a [])) (fun b => halfL ((sgP m).getD b [])) (sgP m).length a) b))), (7, .c (.int .i64 (a))), (8, .c (.int .i64 (b)))], [(0, .rows 38 3 true (sgR m)), (1, .rows 38 3 true (sgP m))], 2⟩ : St)) (fun b => b ≤ (sgP m).length) (fun b => (sgP m).length - b) 0 (Nat.zero_le _) none (by refine ⟨rfl, rfl, ?_, ?_⟩ <;> ((repeat' (first | exact trivial | exact rfl | refine And.intro ?_ ?_)) <;> (try ((conv => whnf); first | refine vint ?_ | refine vboo ?_ | refine rint ?_ | refine rrow ?_ | skip)) <;> (try first | omega | (simp; done) | ((repeat rw [flts_closed _ (by assumption)]); exact vws_closed _ (by assumption))))) (fun b hb => ?_)
        generalize hacc : cutIn m (halfL ((sgR m).getD a [])) (fun b => halfL ((sgP m).getD b [])) (cutOut m (fun a => halfL ((sgR m).getD a [])) (fun b => halfL ((sgP m).getD b [])) (sgP m).length a) b = acc
        refine ⟨fun h5 => ?_, fun h5 => ?_⟩
        · have h5 := ltT h5
          obtain ⟨s1, s2, s3, s4⟩ := sum_pre hg h h5
          obtain ⟨q1, q2, q3, q4⟩ := half_pre hg h h5
          refine ADraw.mid (⟨52, [(0, .t (.rows m)), (4, .own 0), (5, .own 1), (6, .c (.int .i64 (acc))), (7, .c (.int .i64 (a))), (8, .c (.int .i64 (b))), (9, .c (.int .i64 (sumW m (halfL ((sgR m).getD a [])) (halfL ((sgP m).getD b [])))))], [(0, .rows 38 3 true (sgR m)), (1, .rows 38 3 true (sgP m))], 2⟩ : St) (ADraw.plan tyOk mx (.q 0 (.q 1 (.q 2 (.q 3 (.q 4 (.q 6 (.q 7 (.q 8 (.q 9 (.last 5 (.last 10 (.last 11 (.q 12 (.done))))))))))))) : Plan) (by kernel_rfl) ?_) ?_
          · conv => whnf
            refine ⟨a, rfl, h, b, rfl, h5, ?_⟩
            conv => whnf
            refine ACall.useR (l5Half_spec ((sgR m).getD a []) s3) ?_
            conv => whnf
            refine ACall.useR (l5Half_spec ((sgP m).getD b []) s4) ?_
            conv => whnf
            refine ACall.useR (l5Sum_spec m _ _ q1 q2 q3 q4) ?_
            conv => whnf
            exact ⟨[(0, .row 0), (1, .row 1)], (by refine ⟨rfl, rfl, ?_, ?_⟩ <;> ((repeat' (first | exact trivial | exact rfl | refine And.intro ?_ ?_)) <;> (try ((conv => whnf); first | refine vint ?_ | refine vboo ?_ | refine rint ?_ | refine rrow ?_ | skip)) <;> (try first | omega | (simp; done) | ((repeat rw [flts_closed _ (by assumption)]); exact vws_closed _ (by assumption)))))⟩
          · conv => whnf
            refine ACall.use (l1Most_spec _ _) ?_
            conv => whnf
            refine ACall.use (l1Most_spec _ _) ?_
            conv => whnf
            rw [nat_wrap (by omega)]
            refine ⟨b + 1, none, ?_, by omega, by omega⟩
            (refine ⟨rfl, rfl, ?_, ?_⟩ <;> ((repeat' (first | exact trivial | exact rfl | refine And.intro ?_ ?_)) <;> (try ((conv => whnf); first | refine vint ?_ | refine vboo ?_ | refine rint ?_ | refine rrow ?_ | skip)) <;> (try first | omega | (simp; done) | ((repeat rw [flts_closed _ (by assumption)]); exact vws_closed _ (by assumption)))))
            rw [cutIn_succ, hacc]
            exact max3 _ _ _
        · have h5 := ltF h5
          obtain rfl : b = (sgP m).length := by omega
          subst hacc
          conv => whnf
          rw [nat_wrap (by omega)]
          exact ⟨a + 1, none, (by refine ⟨rfl, rfl, ?_, ?_⟩ <;> ((repeat' (first | exact trivial | exact rfl | refine And.intro ?_ ?_)) <;> (try ((conv => whnf); first | refine vint ?_ | refine vboo ?_ | refine rint ?_ | refine rrow ?_ | skip)) <;> (try first | omega | (simp; done) | ((repeat rw [flts_closed _ (by assumption)]); exact vws_closed _ (by assumption))))), by omega, by omega⟩
      · have h := ltF h
        obtain rfl : a = (sgR m).length := by omega
        conv => whnf
        refine ⟨?_, ?_⟩
        · rw [cutOf, hg, if_pos rfl, ← cut_eq m hg, cutRef, eR, eP]
        · rfl

set_option maxHeartbeats 2000000 in
theorem CutOf_i (m : List (List Int)) (hm : OkM m) (_km : SzM m) : FSpec Tryz.prog 45 [.t (.rows m)] (ex (.tu [.c (.int .i64 (cutOf m)), .c (.bool (goodM m))]) []) := by
  refine fspec tyOk mx Tryz.func45 rfl (by kernel_rfl) rfl ?_
  conv => whnf
  refine ACall.use (iIsSignGame_spec m hm.1 hm.len) ?_
  refine ⟨fun h => ?_, fun h => ?_⟩
  · have hg : goodM m = false := by simpa using h
    conv => whnf
    refine ⟨by rw [cutOf, hg]; rfl, rfl⟩
  · have hg : goodM m = true := by simpa using h
    obtain ⟨g1, g2, g3, g4, g5⟩ := goodM_spec hg
    have lR : 2 ^ m.length ≤ 4096 := two_pow_le (by omega)
    have lP : 2 ^ (m.getD 0 []).length ≤ 4096 := two_pow_le (by omega)
    conv => whnf
    refine ⟨by omega, ?_⟩
    rw [shl_one (by omega)]
    conv => whnf
    refine aloopI tyOk mx (fun a : Nat => (⟨66, [(0, .t (.rows m)), (4, .c (.int .i64 (cutOut m (bitsI m.length) (bitsI (m.getD 0 []).length) (2 ^ (m.getD 0 []).length) a))), (17, .c (.int .i64 ((2 ^ m.length : Nat)))), (18, .c (.int .i64 (a)))], [], 0⟩ : St)) (fun a => a ≤ 2 ^ m.length) (fun a => 2 ^ m.length - a) 0 (Nat.zero_le _) none (by refine ⟨rfl, rfl, ?_, ?_⟩ <;> ((repeat' (first | exact trivial | exact rfl | refine And.intro ?_ ?_)) <;> (try ((conv => whnf); first | refine vint ?_ | refine vboo ?_ | refine rint ?_ | refine rrow ?_ | skip)) <;> (try first | omega | (simp; done) | ((repeat rw [flts_closed _ (by assumption)]); exact vws_closed _ (by assumption))))) (fun a ha => ?_)
    refine ⟨fun h => ?_, fun h => ?_⟩
    · have h := ltT h
      conv => whnf
      refine ⟨0, rfl, by omega, ?_⟩
      conv => whnf
      refine ⟨by omega, ?_⟩
      rw [shl_one (by omega)]
      conv => whnf
      refine aloopI tyOk mx (fun b : Nat => (⟨66, [(0, .t (.rows m)), (4, .c (.int .i64 (cutIn m (bitsI m.length a) (bitsI (m.getD 0 []).length) (cutOut m (bitsI m.length) (bitsI (m.getD 0 []).length) (2 ^ (m.getD 0 []).length) a) b))), (5, .c (.int .i64 (a))), (17, .c (.int .i64 ((2 ^ m.length : Nat)))), (18, .c (.int .i64 (a))), (25, .c (.int .i64 ((2 ^ (m.getD 0 []).length : Nat)))), (26, .c (.int .i64 (b)))], [], 0⟩ : St)) (fun b => b ≤ 2 ^ (m.getD 0 []).length) (fun b => 2 ^ (m.getD 0 []).length - b) 0 (Nat.zero_le _) none (by refine ⟨rfl, rfl, ?_, ?_⟩ <;> ((repeat' (first | exact trivial | exact rfl | refine And.intro ?_ ?_)) <;> (try ((conv => whnf); first | refine vint ?_ | refine vboo ?_ | refine rint ?_ | refine rrow ?_ | skip)) <;> (try first | omega | (simp; done) | ((repeat rw [flts_closed _ (by assumption)]); exact vws_closed _ (by assumption))))) (fun b hb => ?_)
      generalize hacc : cutIn m (bitsI m.length a) (bitsI (m.getD 0 []).length) (cutOut m (bitsI m.length) (bitsI (m.getD 0 []).length) (2 ^ (m.getD 0 []).length) a) b = acc
      refine ⟨fun h5 => ?_, fun h5 => ?_⟩
      · have h5 := ltT h5
        conv => whnf
        refine aloopI tyOk mx (fun x : Nat => (⟨66, [(0, .t (.rows m)), (4, .c (.int .i64 (acc))), (5, .c (.int .i64 (a))), (6, .c (.int .i64 (b))), (7, .c (.int .i64 (sumTo m (bitsI m.length a) (bitsI (m.getD 0 []).length b) x))), (17, .c (.int .i64 ((2 ^ m.length : Nat)))), (18, .c (.int .i64 (a))), (25, .c (.int .i64 ((2 ^ (m.getD 0 []).length : Nat)))), (26, .c (.int .i64 (b))), (29, .t (.rows m)), (30, .c (.int .i64 (m.length))), (31, .c (.int .i64 (x)))], [], 0⟩ : St)) (fun x => x ≤ m.length) (fun x => m.length - x) 0 (Nat.zero_le _) none (by refine ⟨rfl, rfl, ?_, ?_⟩ <;> ((repeat' (first | exact trivial | exact rfl | refine And.intro ?_ ?_)) <;> (try ((conv => whnf); first | refine vint ?_ | refine vboo ?_ | refine rint ?_ | refine rrow ?_ | skip)) <;> (try first | omega | (simp; done) | ((repeat rw [flts_closed _ (by assumption)]); exact vws_closed _ (by assumption))))) (fun x hx => ?_)
        refine ⟨fun h6 => ?_, fun h6 => ?_⟩
        · have h6 := ltT h6
          have hrow := (g5 _ (getD_mem (d := []) h6)).1
          conv => whnf
          refine ⟨x, rfl, h6, ?_⟩
          conv => whnf
          refine aloopI tyOk mx (fun y : Nat => (⟨66, [(0, .t (.rows m)), (4, .c (.int .i64 (acc))), (5, .c (.int .i64 (a))), (6, .c (.int .i64 (b))), (7, .c (.int .i64 (sumRow (m.getD x []) (bitsI (m.getD 0 []).length b) ((bitsI m.length a).getD x 0) (sumTo m (bitsI m.length a) (bitsI (m.getD 0 []).length b) x) y))), (8, .c (.int .i64 (x))), (17, .c (.int .i64 ((2 ^ m.length : Nat)))), (18, .c (.int .i64 (a))), (25, .c (.int .i64 ((2 ^ (m.getD 0 []).length : Nat)))), (26, .c (.int .i64 (b))), (29, .t (.rows m)), (30, .c (.int .i64 (m.length))), (31, .c (.int .i64 (x))), (36, .t (.ints .i64 (m.getD x []))), (37, .c (.int .i64 ((m.getD x []).length))), (38, .c (.int .i64 (y)))], [], 0⟩ : St)) (fun y => y ≤ (m.getD x []).length) (fun y => (m.getD x []).length - y) 0 (Nat.zero_le _) none (by refine ⟨rfl, rfl, ?_, ?_⟩ <;> ((repeat' (first | exact trivial | exact rfl | refine And.intro ?_ ?_)) <;> (try ((conv => whnf); first | refine vint ?_ | refine vboo ?_ | refine rint ?_ | refine rrow ?_ | skip)) <;> (try first | omega | (simp; done) | ((repeat rw [flts_closed _ (by assumption)]); exact vws_closed _ (by assumption))))) (fun y hy => ?_)
          refine ⟨fun h7 => ?_, fun h7 => ?_⟩
          · have h7 := ltT h7
            conv => whnf
            refine ⟨y, rfl, h7, ?_⟩
            conv => whnf
            refine ADraw.std tyOk mx ⟨by kernel_rfl, by omega, by omega, ?_⟩
            conv => whnf
            rw [nat_wrap (by omega)]
            refine ⟨y + 1, none, ?_, by omega, by omega⟩
            (refine ⟨rfl, rfl, ?_, ?_⟩ <;> ((repeat' (first | exact trivial | exact rfl | refine And.intro ?_ ?_)) <;> (try ((conv => whnf); first | refine vint ?_ | refine vboo ?_ | refine rint ?_ | refine rrow ?_ | skip)) <;> (try first | omega | (simp; done) | ((repeat rw [flts_closed _ (by assumption)]); exact vws_closed _ (by assumption)))))
            rw [sumRow_succ, bitsI_get (n := m.length) h6, bitsI_get (n := (m.getD 0 []).length) (by omega)]
            rfl
          · have h7 := ltF h7
            obtain rfl : y = (m.getD x []).length := by omega
            conv => whnf
            rw [nat_wrap (by omega)]
            exact ⟨x + 1, none, (by refine ⟨rfl, rfl, ?_, ?_⟩ <;> ((repeat' (first | exact trivial | exact rfl | refine And.intro ?_ ?_)) <;> (try ((conv => whnf); first | refine vint ?_ | refine vboo ?_ | refine rint ?_ | refine rrow ?_ | skip)) <;> (try first | omega | (simp; done) | ((repeat rw [flts_closed _ (by assumption)]); exact vws_closed _ (by assumption))))), by omega, by omega⟩
        · have h6 := ltF h6
          obtain rfl : x = m.length := by omega
          conv => whnf
          rw [nat_wrap (by omega)]
          refine ⟨b + 1, none, ?_, by omega, by omega⟩
          (refine ⟨rfl, rfl, ?_, ?_⟩ <;> ((repeat' (first | exact trivial | exact rfl | refine And.intro ?_ ?_)) <;> (try ((conv => whnf); first | refine vint ?_ | refine vboo ?_ | refine rint ?_ | refine rrow ?_ | skip)) <;> (try first | omega | (simp; done) | ((repeat rw [flts_closed _ (by assumption)]); exact vws_closed _ (by assumption)))))
          rw [cutIn_succ, hacc]
          exact max3' _ _ _
      · have h5 := ltF h5
        obtain rfl : b = 2 ^ (m.getD 0 []).length := by omega
        subst hacc
        conv => whnf
        rw [nat_wrap (by omega)]
        exact ⟨a + 1, none, (by refine ⟨rfl, rfl, ?_, ?_⟩ <;> ((repeat' (first | exact trivial | exact rfl | refine And.intro ?_ ?_)) <;> (try ((conv => whnf); first | refine vint ?_ | refine vboo ?_ | refine rint ?_ | refine rrow ?_ | skip)) <;> (try first | omega | (simp; done) | ((repeat rw [flts_closed _ (by assumption)]); exact vws_closed _ (by assumption))))), by omega, by omega⟩
    · have h := ltF h
      obtain rfl : a = 2 ^ m.length := by omega
      conv => whnf
      exact ⟨by rw [cutOf, hg, if_pos rfl, cutBits], rfl⟩
end Go.Proofs.YtkomndcehdneaaaGreat
/- Cuts: what holds of them. -/
namespace Go.Proofs.YtkomndcehdneaaaGreat
open Go.Aw
set_option maxRecDepth 100000

theorem half_at {n : Nat} {l : List Int} (h : Sg n l) (i : Nat) : 2 * (halfL l).getD i 0 = (if i < n then l.getD i 0 + 1 else 0) ∧ 0 ≤ (halfL l).getD i 0 ∧ (halfL l).getD i 0 ≤ 1 := by
  by_cases hi : i < n
  · have e : (halfL l).getD i 0 = halfOf (l.getD i 0) := by simp [halfL, List.getD, show i < l.length by rw [h.1]; exact hi]
    rw [e, if_pos hi]
    rcases h.get hi with k | k <;> rw [k] <;> decide +kernel
  · have e : (halfL l).getD i 0 = 0 := by simp [halfL, List.getD, show ¬ i < l.length by rw [h.1]; exact hi]
    rw [e, if_neg hi]; decide
theorem half_un {n : Nat} {l : List Int} (h : Sg n l) : Un (halfL l) := fun i => by have := (half_at h i).2; omega
theorem cutStep_ge (m : List (List Int)) (acc : Int) (r p : List Int) : acc ≤ cutStep m acc r p ∧ sumW m r p ≤ cutStep m acc r p ∧ W (0 - sumW m r p) ≤ cutStep m acc r p := by
  unfold cutStep; omega
theorem cutIn_ge (m : List (List Int)) (r : List Int) (P : Nat → List Int) (acc : Int) : ∀ b, acc ≤ cutIn m r P acc b ∧ ∀ k, k < b → sumW m r (P k) ≤ cutIn m r P acc b ∧ W (0 - sumW m r (P k)) ≤ cutIn m r P acc b
  | 0 => ⟨Int.le_refl _, fun k hk => absurd hk (by omega)⟩
  | b + 1 => by
      obtain ⟨h1, h2⟩ := cutIn_ge m r P acc b
      have h := cutStep_ge m (cutIn m r P acc b) r (P b)
      rw [cutIn_succ]
      refine ⟨by omega, fun k hk => ?_⟩
      by_cases e : k = b
      · subst e; omega
      · have := h2 k (by omega); omega
theorem cutOut_ge (m : List (List Int)) (R P : Nat → List Int) (nP : Nat) : ∀ a, ∀ j, j < a → ∀ k, k < nP → sumW m (R j) (P k) ≤ cutOut m R P nP a ∧ W (0 - sumW m (R j) (P k)) ≤ cutOut m R P nP a
  | 0 => fun j hj => absurd hj (by omega)
  | a + 1 => fun j hj k hk => by
      have e1 : cutOut m R P nP (a + 1) = cutIn m (R a) P (cutOut m R P nP a) nP := rfl
      obtain ⟨h1, h2⟩ := cutIn_ge m (R a) P (cutOut m R P nP a) nP
      rw [e1]
      by_cases e : j = a
      · subst e; exact h2 k hk
      · have := cutOut_ge m R P nP a j (by omega) k hk; omega
theorem cut_ge {m : List (List Int)} (hg : goodM m = true) {r p : List Int} (hr : Sg m.length r) (hp : Sg (m.getD 0 []).length p) : SS m (halfL r) (halfL p) ≤ cutOf m ∧ - SS m (halfL r) (halfL p) ≤ cutOf m := by
  obtain ⟨g1, g2, g3, g4, g5⟩ := goodM_spec hg
  obtain ⟨e, h1, h2⟩ := sumW_eq hg (half_un hr) (half_un hp)
  rw [cutOf, if_pos hg, ← cut_eq m hg, cutRef]
  obtain ⟨i, hi, rfl⟩ := hr.mem g1 g2
  obtain ⟨j, hj, rfl⟩ := hp.mem g3 g4
  rw [signsL_len] at hi hj
  have := cutOut_ge m (fun a => halfL ((sgR m).getD a [])) (fun b => halfL ((sgP m).getD b [])) (2 ^ (m.getD 0 []).length) (2 ^ m.length) i hi j hj
  simp only [sgR, sgP] at this
  rw [e, W_id (by omega) (by omega)] at this
  simp only [sgR, sgP]
  omega
theorem cutIn_le (m : List (List Int)) (r : List Int) (P : Nat → List Int) (acc B : Int) (h0 : acc ≤ B) (hk : ∀ k, sumW m r (P k) ≤ B ∧ W (0 - sumW m r (P k)) ≤ B) : ∀ b, cutIn m r P acc b ≤ B
  | 0 => h0
  | b + 1 => by
      have h1 := cutIn_le m r P acc B h0 hk b
      have := hk b
      rw [cutIn_succ, cutStep]; omega
theorem SS_split {m : List (List Int)} (hg : goodM m = true) {r p : List Int} (hr : Sg m.length r) (hp : Sg (m.getD 0 []).length p) :
    SS m r p = SS m (halfL r) (halfL p) - SS m (halfL r) (halfL (p.map fun x => -x)) - SS m (halfL (r.map fun x => -x)) (halfL p) + SS m (halfL (r.map fun x => -x)) (halfL (p.map fun x => -x)) := by
  have hx : ∀ {n : Nat} {l : List Int} (h : Sg n l) (i : Nat), l.getD i 0 = (halfL l).getD i 0 - (halfL (l.map fun x => -x)).getD i 0 := by
    intro n l h i
    have h1 := (half_at h i).1
    have h2 := (half_at h.neg i).1
    have e : (l.map fun x => -x).getD i 0 = - l.getD i 0 := by
      by_cases hi : i < l.length <;> simp [List.getD, hi]
    rw [e] at h2
    by_cases hi : i < n
    · rw [if_pos hi] at h1 h2; omega
    · rw [if_neg hi] at h1 h2
      have : l.getD i 0 = 0 := by simp [List.getD, show ¬ i < l.length by rw [h.1]; exact hi]
      omega
  unfold SS
  rw [← sm_sub, ← sm_sub, ← sm_add]
  refine sm_congr fun x _ => ?_
  rw [← sm_sub, ← sm_sub, ← sm_add]
  refine sm_congr fun y _ => ?_
  rw [hx hr x, hx hp y]
  simp only [Int.mul_sub, Int.sub_mul]
  omega
theorem bias_cut {m : List (List Int)} (hg : goodM m = true) : biasOf m ≤ 4 * cutOf m := by
  obtain ⟨r, p, hr, hp, e⟩ := bias_at hg
  have h1 := cut_ge hg hr hp
  have h2 := cut_ge hg hr hp.neg
  have h3 := cut_ge hg hr.neg hp
  have h4 := cut_ge hg hr.neg hp.neg
  have := SS_split hg hr hp
  omega
end Go.Proofs.YtkomndcehdneaaaGreat
/- Sums of agreements: what no sum of four breaks is at most the bias. -/
namespace Go.Aw
def ab (t : Int) : Int := if t < 0 then -t else t
theorem ab_neg (t : Int) : ab (-t) = ab t := by unfold ab; split <;> split <;> omega
theorem ab_pos {t : Int} (h : 0 ≤ t) : ab t = t := by unfold ab; split <;> omega
theorem ab_ge (t : Int) : t ≤ ab t ∧ -t ≤ ab t ∧ 0 ≤ ab t := by unfold ab; split <;> omega

theorem mul_le {a b c : Int} (h : b ≤ c) (ha : 0 ≤ a) : a * b ≤ a * c := Int.mul_le_mul_of_nonneg_left h ha

section
variable {w u v t c1 c2 c3 : Int}
/-- one row, numbers of at least 0 -/
theorem row_pos (h1 : c1 ≤ w) (h2 : c2 ≤ w) (h3 : c3 ≤ w) (h12 : c1 + c2 ≤ w + u) (h13 : c1 + c3 ≤ w + v) (h23 : c2 + c3 ≤ w + t)
    {m1 m2 m3 : Int} (p1 : 0 ≤ m1) (p2 : 0 ≤ m2) (p3 : 0 ≤ m3) :
    4 * (m1 * c1 + m2 * c2 + m3 * c3) ≤ (w + u + v + t) * ab (m1 + m2 + m3) + (w - u - v + t) * ab (-m1 + m2 + m3) + (w - u + v - t) * ab (m1 - m2 + m3) + (w + u - v - t) * ab (m1 + m2 - m3) := by
  rw [ab_pos (t := m1 + m2 + m3) (by omega)]
  by_cases k1 : m1 ≤ m2 + m3
  · by_cases k2 : m2 ≤ m1 + m3
    · by_cases k3 : m3 ≤ m1 + m2
      · rw [ab_pos (t := -m1 + m2 + m3) (by omega), ab_pos (t := m1 - m2 + m3) (by omega), ab_pos (t := m1 + m2 - m3) (by omega)]
        have e1 := mul_le h12 (show 0 ≤ m1 + m2 - m3 by omega)
        have e2 := mul_le h13 (show 0 ≤ m1 - m2 + m3 by omega)
        have e3 := mul_le h23 (show 0 ≤ -m1 + m2 + m3 by omega)
        simp only [Int.mul_add, Int.add_mul, Int.sub_mul, Int.neg_mul, Int.mul_comm _ w, Int.mul_comm _ u, Int.mul_comm _ v, Int.mul_comm _ t] at *
        simp only [Int.mul_sub, Int.mul_add, Int.mul_neg, Int.mul_comm _ c1, Int.mul_comm _ c2, Int.mul_comm _ c3] at *
        omega
      · rw [ab_pos (t := -m1 + m2 + m3) (by omega), ab_pos (t := m1 - m2 + m3) (by omega), ← ab_neg (m1 + m2 - m3), ab_pos (t := -(m1 + m2 - m3)) (by omega)]
        have e1 := mul_le h3 (show 0 ≤ m3 - m1 - m2 by omega)
        have e2 := mul_le h13 p1
        have e3 := mul_le h23 p2
        simp only [Int.mul_add, Int.add_mul, Int.sub_mul, Int.neg_mul, Int.mul_comm _ w, Int.mul_comm _ u, Int.mul_comm _ v, Int.mul_comm _ t] at *
        simp only [Int.mul_sub, Int.mul_add, Int.mul_neg, Int.mul_comm _ c1, Int.mul_comm _ c2, Int.mul_comm _ c3] at *
        omega
    · rw [ab_pos (t := -m1 + m2 + m3) (by omega), ab_pos (t := m1 + m2 - m3) (by omega), ← ab_neg (m1 - m2 + m3), ab_pos (t := -(m1 - m2 + m3)) (by omega)]
      have e1 := mul_le h2 (show 0 ≤ m2 - m1 - m3 by omega)
      have e2 := mul_le h12 p1
      have e3 := mul_le h23 p3
      simp only [Int.mul_add, Int.add_mul, Int.sub_mul, Int.neg_mul, Int.mul_comm _ w, Int.mul_comm _ u, Int.mul_comm _ v, Int.mul_comm _ t] at *
      simp only [Int.mul_sub, Int.mul_add, Int.mul_neg, Int.mul_comm _ c1, Int.mul_comm _ c2, Int.mul_comm _ c3] at *
      omega
  · rw [ab_pos (t := m1 - m2 + m3) (by omega), ab_pos (t := m1 + m2 - m3) (by omega), ← ab_neg (-m1 + m2 + m3), ab_pos (t := -(-m1 + m2 + m3)) (by omega)]
    have e1 := mul_le h1 (show 0 ≤ m1 - m2 - m3 by omega)
    have e2 := mul_le h12 p2
    have e3 := mul_le h13 p3
    simp only [Int.mul_add, Int.add_mul, Int.sub_mul, Int.neg_mul, Int.mul_comm _ w, Int.mul_comm _ u, Int.mul_comm _ v, Int.mul_comm _ t] at *
    simp only [Int.mul_sub, Int.mul_add, Int.mul_neg, Int.mul_comm _ c1, Int.mul_comm _ c2, Int.mul_comm _ c3] at *
    omega

def rowR (w u v t m1 m2 m3 : Int) : Int := (w + u + v + t) * ab (m1 + m2 + m3) + (w - u - v + t) * ab (-m1 + m2 + m3) + (w - u + v - t) * ab (m1 - m2 + m3) + (w + u - v - t) * ab (m1 + m2 - m3)
theorem rowR_1 (w u v t m1 m2 m3 : Int) : rowR w (-u) (-v) t (-m1) m2 m3 = rowR w u v t m1 m2 m3 := by
  unfold rowR
  rw [show w + -u + -v + t = w - u - v + t by omega, show w - -u - -v + t = w + u + v + t by omega, show w - -u + -v - t = w + u - v - t by omega, show w + -u - -v - t = w - u + v - t by omega,
    show - -m1 + m2 + m3 = m1 + m2 + m3 by omega, show -m1 - m2 + m3 = -(m1 + m2 - m3) by omega, show -m1 + m2 - m3 = -(m1 - m2 + m3) by omega, ab_neg, ab_neg]
  omega
theorem rowR_2 (w u v t m1 m2 m3 : Int) : rowR w (-u) v (-t) m1 (-m2) m3 = rowR w u v t m1 m2 m3 := by
  unfold rowR
  rw [show w + -u + v + -t = w - u + v - t by omega, show w - -u - v + -t = w + u - v - t by omega, show w - -u + v - -t = w + u + v + t by omega, show w + -u - v - -t = w - u - v + t by omega,
    show m1 + -m2 + m3 = m1 - m2 + m3 by omega, show -m1 + -m2 + m3 = -(m1 + m2 - m3) by omega, show m1 - -m2 + m3 = m1 + m2 + m3 by omega, show m1 + -m2 - m3 = -(-m1 + m2 + m3) by omega, ab_neg, ab_neg]
  omega
theorem rowR_3 (w u v t m1 m2 m3 : Int) : rowR w u (-v) (-t) m1 m2 (-m3) = rowR w u v t m1 m2 m3 := by
  unfold rowR
  rw [show w + u + -v + -t = w + u - v - t by omega, show w - u - -v + -t = w - u + v - t by omega, show w - u + -v - -t = w - u - v + t by omega, show w + u - -v - -t = w + u + v + t by omega,
    show m1 + m2 + -m3 = m1 + m2 - m3 by omega, show -m1 + m2 + -m3 = -(m1 - m2 + m3) by omega, show m1 - m2 + -m3 = -(-m1 + m2 + m3) by omega, show m1 + m2 - -m3 = m1 + m2 + m3 by omega, ab_neg, ab_neg]
  omega

structure RowC (w u v t c1 c2 c3 : Int) : Prop where
  b1 : -w ≤ c1 ∧ c1 ≤ w
  b2 : -w ≤ c2 ∧ c2 ≤ w
  b3 : -w ≤ c3 ∧ c3 ≤ w
  p12 : c1 + c2 ≤ w + u ∧ -(c1 + c2) ≤ w + u ∧ c1 - c2 ≤ w - u ∧ c2 - c1 ≤ w - u
  p13 : c1 + c3 ≤ w + v ∧ -(c1 + c3) ≤ w + v ∧ c1 - c3 ≤ w - v ∧ c3 - c1 ≤ w - v
  p23 : c2 + c3 ≤ w + t ∧ -(c2 + c3) ≤ w + t ∧ c2 - c3 ≤ w - t ∧ c3 - c2 ≤ w - t
theorem row_any3 (h : RowC w u v t c1 c2 c3) {m1 m2 m3 : Int} (p1 : 0 ≤ m1) (p2 : 0 ≤ m2) : 4 * (m1 * c1 + m2 * c2 + m3 * c3) ≤ rowR w u v t m1 m2 m3 := by
  by_cases p3 : 0 ≤ m3
  · exact row_pos h.b1.2 h.b2.2 h.b3.2 h.p12.1 h.p13.1 h.p23.1 p1 p2 p3
  · have := row_pos (w := w) (u := u) (v := -v) (t := -t) (c1 := c1) (c2 := c2) (c3 := -c3) h.b1.2 h.b2.2 (by have := h.b3; omega) h.p12.1 (by have := h.p13; omega) (by have := h.p23; omega) p1 p2 (show 0 ≤ -m3 by omega)
    rw [Int.neg_mul_neg] at this
    rw [← rowR_3]; exact this
theorem row_any2 (h : RowC w u v t c1 c2 c3) {m1 m2 m3 : Int} (p1 : 0 ≤ m1) : 4 * (m1 * c1 + m2 * c2 + m3 * c3) ≤ rowR w u v t m1 m2 m3 := by
  by_cases p2 : 0 ≤ m2
  · exact row_any3 h p1 p2
  · have := row_any3 (w := w) (u := -u) (v := v) (t := -t) (c1 := c1) (c2 := -c2) (c3 := c3) ⟨h.b1, by have := h.b2; omega, h.b3, by have := h.p12; omega, h.p13, by have := h.p23; omega⟩ (m3 := m3) p1 (show 0 ≤ -m2 by omega)
    rw [Int.neg_mul_neg] at this
    rw [← rowR_2]; exact this
theorem row_any (h : RowC w u v t c1 c2 c3) (m1 m2 m3 : Int) : 4 * (m1 * c1 + m2 * c2 + m3 * c3) ≤ rowR w u v t m1 m2 m3 := by
  by_cases p1 : 0 ≤ m1
  · exact row_any2 h p1
  · have := row_any2 (w := w) (u := -u) (v := -v) (t := t) (c1 := -c1) (c2 := c2) (c3 := c3) ⟨by have := h.b1; omega, h.b2, h.b3, by have := h.p12; omega, by have := h.p13; omega, h.p23⟩ (m2 := m2) (m3 := m3) (show 0 ≤ -m1 by omega)
    rw [Int.neg_mul_neg] at this
    rw [← rowR_1]; exact this
end

/-- all sums of four keep their bound -/
def Ch (w : Int) (c : Nat → Nat → Int) : Prop := ∀ x x' y y' : Nat, x < 3 → x' < 3 → y < 3 → y' < 3 →
  c x y + c x y' + c x' y - c x' y' ≤ 2 * w ∧ c x y + c x y' - c x' y + c x' y' ≤ 2 * w ∧ -c x y - c x y' + c x' y - c x' y' ≤ 2 * w ∧ -c x y - c x y' - c x' y + c x' y' ≤ 2 * w

def mx3 (f : Nat → Int) : Int := max (ab (f 0)) (max (ab (f 1)) (ab (f 2)))
theorem mx3_ge (f : Nat → Int) {x : Nat} (hx : x < 3) : f x ≤ mx3 f ∧ -f x ≤ mx3 f := by
  have h0 := ab_ge (f 0); have h1 := ab_ge (f 1); have h2 := ab_ge (f 2)
  have : x = 0 ∨ x = 1 ∨ x = 2 := by omega
  unfold mx3
  rcases this with rfl | rfl | rfl <;> omega
theorem mx3_at (f : Nat → Int) : ∃ x, x < 3 ∧ (mx3 f = f x ∨ mx3 f = -f x) := by
  have k : ∀ t, ab t = t ∨ ab t = -t := fun t => by unfold ab; split <;> omega
  have h : mx3 f = ab (f 0) ∨ mx3 f = ab (f 1) ∨ mx3 f = ab (f 2) := by unfold mx3; omega
  rcases h with h | h | h
  · exact ⟨0, by omega, by rw [h]; exact k _⟩
  · exact ⟨1, by omega, by rw [h]; exact k _⟩
  · exact ⟨2, by omega, by rw [h]; exact k _⟩
def pl (c : Nat → Nat → Int) (y y' x : Nat) : Int := c x y + c x y'
def mi (c : Nat → Nat → Int) (y y' x : Nat) : Int := c x y - c x y'

theorem pl_at (c : Nat → Nat → Int) (y y' x : Nat) : pl c y y' x = c x y + c x y' := rfl
theorem mi_at (c : Nat → Nat → Int) (y y' x : Nat) : mi c y y' x = c x y - c x y' := rfl

theorem pm_ite (p : Prop) [Decidable p] : (if p then (-1 : Int) else 1) = 1 ∨ (if p then (-1 : Int) else 1) = -1 := by split <;> omega

theorem two_le {w : Int} {c : Nat → Nat → Int} (h : Ch w c) {y y' : Nat} (hy : y < 3) (hy' : y' < 3) : mx3 (pl c y y') + mx3 (mi c y y') ≤ 2 * w := by
  obtain ⟨x, hx, e⟩ := mx3_at (pl c y y')
  obtain ⟨z, hz, e2⟩ := mx3_at (mi c y y')
  have k := h x z y y' hx hz hy hy'
  unfold pl mi at *
  rcases e with e | e <;> rcases e2 with e2 | e2 <;> omega
theorem six_ppm {w : Int} {c : Nat → Nat → Int} (h : Ch w c) {i j k : Nat} (hi : i < 3) (hj : j < 3) (hk : k < 3) : mx3 (pl c i j) + mx3 (pl c i k) + mx3 (mi c j k) ≤ 4 * w := by
  obtain ⟨x, hx, e⟩ := mx3_at (pl c i j)
  obtain ⟨y, hy, e2⟩ := mx3_at (pl c i k)
  obtain ⟨z, hz, e3⟩ := mx3_at (mi c j k)
  have k1 := h x y i k hx hy hi hk
  have k2 := h y x i k hy hx hi hk
  have k3 := h x z j k hx hz hj hk
  have k4 := h z x j k hz hx hj hk
  unfold pl mi at *
  rcases e with e | e <;> rcases e2 with e2 | e2 <;> rcases e3 with e3 | e3 <;> omega
theorem six_mmm {w : Int} {c : Nat → Nat → Int} (h : Ch w c) {i j k : Nat} (hi : i < 3) (hj : j < 3) (hk : k < 3) : mx3 (mi c i j) + mx3 (mi c i k) + mx3 (mi c j k) ≤ 4 * w := by
  obtain ⟨x, hx, e⟩ := mx3_at (mi c i j)
  obtain ⟨y, hy, e2⟩ := mx3_at (mi c i k)
  obtain ⟨z, hz, e3⟩ := mx3_at (mi c j k)
  have k1 := h x y i k hx hy hi hk
  have k2 := h y x i k hy hx hi hk
  have k3 := h x z j k hx hz hj hk
  have k4 := h z x j k hz hx hj hk
  unfold mi at *
  rcases e with e | e <;> rcases e2 with e2 | e2 <;> rcases e3 with e3 | e3 <;> omega

theorem u_ex {w A B C D E F : Int} (h1 : 0 ≤ A) (h2 : 0 ≤ B) (h3 : 0 ≤ C) (h4 : 0 ≤ D) (h5 : 0 ≤ E) (h6 : 0 ≤ F)
    (k1 : A + D ≤ 2 * w) (k2 : B + E ≤ 2 * w) (k3 : C + F ≤ 2 * w) (s1 : A + B + F ≤ 4 * w) (s2 : A + C + E ≤ 4 * w) (s3 : B + C + D ≤ 4 * w) (s4 : D + E + F ≤ 4 * w) :
    ∃ u v t : Int, A ≤ w + u ∧ D ≤ w - u ∧ B ≤ w + v ∧ E ≤ w - v ∧ C ≤ w + t ∧ F ≤ w - t ∧
      0 ≤ w + u + v + t ∧ 0 ≤ w - u - v + t ∧ 0 ≤ w - u + v - t ∧ 0 ≤ w + u - v - t := by
  obtain ⟨u, a1, a2, a3, a4, b1, b2, b3, b4⟩ : ∃ u : Int, A - w ≤ u ∧ -w ≤ u ∧ (B - w) + (C - w) - w ≤ u ∧ -w - (w - F) - (w - E) ≤ u ∧
      u ≤ w - D ∧ u ≤ w ∧ u ≤ w + (w - F) - (B - w) ∧ u ≤ w + (w - E) - (C - w) :=
    ⟨max (max (A - w) (-w)) (max ((B - w) + (C - w) - w) (-w - (w - F) - (w - E))), by omega⟩
  obtain ⟨v, c1, c2, c3, c4, d1, d2, d3, d4⟩ : ∃ v : Int, B - w ≤ v ∧ u - w + (C - w) ≤ v ∧ -w - (w - F) - u ≤ v ∧ -w ≤ v ∧
      v ≤ w - E ∧ v ≤ u + w - (C - w) ∧ v ≤ w + (w - F) - u ∧ v ≤ w :=
    ⟨max (max (B - w) (u - w + (C - w))) (max (-w - (w - F) - u) (-w)), by omega⟩
  obtain ⟨t, e1, e2, e3, f1, f2, f3⟩ : ∃ t : Int, C - w ≤ t ∧ -w - u - v ≤ t ∧ u + v - w ≤ t ∧ t ≤ w - F ∧ t ≤ w + u - v ∧ t ≤ w - u + v :=
    ⟨max (C - w) (max (-w - u - v) (u + v - w)), by omega⟩
  exact ⟨u, v, t, by omega⟩

/-- AGREEMENTS THAT BREAK NO SUM OF FOUR: at most the bias -/
theorem k33 {w : Int} {c : Nat → Nat → Int} (h : Ch w c) (hb : ∀ x y, x < 3 → y < 3 → -w ≤ c x y ∧ c x y ≤ w) (m : Nat → Nat → Int) {top : Int}
    (ht : ∀ r s : Nat → Int, (∀ i, r i = 1 ∨ r i = -1) → (∀ i, s i = 1 ∨ s i = -1) →
      r 0 * (m 0 0 * s 0 + m 0 1 * s 1 + m 0 2 * s 2) + r 1 * (m 1 0 * s 0 + m 1 1 * s 1 + m 1 2 * s 2) + r 2 * (m 2 0 * s 0 + m 2 1 * s 1 + m 2 2 * s 2) ≤ top) :
    (m 0 0 * c 0 0 + m 0 1 * c 0 1 + m 0 2 * c 0 2) + (m 1 0 * c 1 0 + m 1 1 * c 1 1 + m 1 2 * c 1 2) + (m 2 0 * c 2 0 + m 2 1 * c 2 1 + m 2 2 * c 2 2) ≤ w * top := by
  have nn : ∀ f, 0 ≤ mx3 f := fun f => by have := ab_ge (f 0); unfold mx3; omega
  obtain ⟨u, v, t, q1, q2, q3, q4, q5, q6, z0, z1, z2, z3⟩ := u_ex (w := w) (nn (pl c 0 1)) (nn (pl c 0 2)) (nn (pl c 1 2)) (nn (mi c 0 1)) (nn (mi c 0 2)) (nn (mi c 1 2))
    (two_le h (by omega) (by omega)) (two_le h (by omega) (by omega)) (two_le h (by omega) (by omega))
    (six_ppm h (i := 0) (j := 1) (k := 2) (by omega) (by omega) (by omega))
    (by
      have := six_ppm h (i := 1) (j := 0) (k := 2) (by omega) (by omega) (by omega)
      have e : pl c 1 0 = pl c 0 1 := by funext x; unfold pl; omega
      rw [e] at this; exact this)
    (by
      have := six_ppm h (i := 2) (j := 0) (k := 1) (by omega) (by omega) (by omega)
      have e : pl c 2 0 = pl c 0 2 := by funext x; unfold pl; omega
      have e2 : pl c 2 1 = pl c 1 2 := by funext x; unfold pl; omega
      rw [e, e2] at this; exact this)
    (six_mmm h (i := 0) (j := 1) (k := 2) (by omega) (by omega) (by omega))
  have R : ∀ x, x < 3 → RowC w u v t (c x 0) (c x 1) (c x 2) := fun x hx => by
    have a1 := mx3_ge (pl c 0 1) hx; have a2 := mx3_ge (pl c 0 2) hx; have a3 := mx3_ge (pl c 1 2) hx
    have b1 := mx3_ge (mi c 0 1) hx; have b2 := mx3_ge (mi c 0 2) hx; have b3 := mx3_ge (mi c 1 2) hx
    simp only [pl_at] at a1 a2 a3
    simp only [mi_at] at b1 b2 b3
    exact ⟨hb x 0 hx (by omega), hb x 1 hx (by omega), hb x 2 hx (by omega), ⟨by omega, by omega, by omega, by omega⟩, ⟨by omega, by omega, by omega, by omega⟩, ⟨by omega, by omega, by omega, by omega⟩⟩
  have r0 := row_any (R 0 (by omega)) (m 0 0) (m 0 1) (m 0 2)
  have r1 := row_any (R 1 (by omega)) (m 1 0) (m 1 1) (m 1 2)
  have r2 := row_any (R 2 (by omega)) (m 2 0) (m 2 1) (m 2 2)
  have S : ∀ s : Nat → Int, (∀ i, s i = 1 ∨ s i = -1) → ab (m 0 0 * s 0 + m 0 1 * s 1 + m 0 2 * s 2) + ab (m 1 0 * s 0 + m 1 1 * s 1 + m 1 2 * s 2) + ab (m 2 0 * s 0 + m 2 1 * s 1 + m 2 2 * s 2) ≤ top := fun s hs => by
    have k := ht (fun i => if m i 0 * s 0 + m i 1 * s 1 + m i 2 * s 2 < 0 then -1 else 1) s (fun i => pm_ite _) hs
    have e : ∀ i, (if m i 0 * s 0 + m i 1 * s 1 + m i 2 * s 2 < 0 then -1 else 1) * (m i 0 * s 0 + m i 1 * s 1 + m i 2 * s 2) = ab (m i 0 * s 0 + m i 1 * s 1 + m i 2 * s 2) := fun i => by
      unfold ab; split <;> omega
    simp only [e] at k
    exact k
  have S0 := S (fun _ => 1) (fun _ => .inl rfl)
  have S1 := S (fun i => if i = 0 then -1 else 1) (fun i => pm_ite _)
  have S2 := S (fun i => if i = 1 then -1 else 1) (fun i => pm_ite _)
  have S3 := S (fun i => if i = 2 then -1 else 1) (fun i => pm_ite _)
  simp only [Int.mul_one, if_true, if_false, Int.mul_neg, show (1 : Nat) ≠ 0 by decide, show (2 : Nat) ≠ 0 by decide, show (0 : Nat) ≠ 1 by decide, show (2 : Nat) ≠ 1 by decide, show (0 : Nat) ≠ 2 by decide, show (1 : Nat) ≠ 2 by decide] at S0 S1 S2 S3
  have T0 := mul_le S0 z0
  have T1 := mul_le S1 z1
  have T2 := mul_le S2 z2
  have T3 := mul_le S3 z3
  unfold rowR at r0 r1 r2
  have E : (w + u + v + t) * top + (w - u - v + t) * top + (w - u + v - t) * top + (w + u - v - t) * top = 4 * (w * top) := by
    simp only [Int.add_mul, Int.sub_mul]; omega
  simp only [Int.mul_add] at T0 T1 T2 T3
  simp only [← Int.sub_eq_add_neg] at T0 T1 T2 T3
  omega
end Go.Aw
/- SwitchSigns and SignFunctional, program and reference. -/
namespace Go.Proofs.YtkomndcehdneaaaGreat
open Go.Aw
set_option maxRecDepth 100000

def switchOk (m : List (List Int)) (r p : List Int) : Bool := goodM m && areS r m.length && areS p (m.getD 0 []).length
def switchRes (m : List (List Int)) (r p : List Int) : List (List Int) := if switchOk m r p then switchR m r p else []

theorem switchOk_pre {m : List (List Int)} {r p : List Int} (h : switchOk m r p = true) : m.length ≤ 1000 ∧ m.length ≤ r.length ∧ (∀ q, q ∈ m → q.length ≤ p.length) ∧ p.length ≤ 1000 := by
  simp only [switchOk, areS, Bool.and_eq_true, decide_eq_true_eq] at h
  obtain ⟨⟨h1, _, h2⟩, _, h3⟩ := h
  obtain ⟨g1, g2, g3, g4, g5⟩ := goodM_spec h1
  exact ⟨by omega, by omega, fun q hq => by have := (g5 q hq).1; omega, by omega⟩

theorem SwitchSigns_s (m : List (List Int)) (hm : OkM m) (_km : SzM m) (r : List Int) (_hr : OkI r) (kr : SzI r) (p : List Int) (_hp : OkI p) (kp : SzI p) :
    FSpec Tryz.prog 51 [.t (.rows m), .t (.ints .i64 r), .t (.ints .i64 p)] (ex (.tu [.own 0, .c (.bool (switchOk m r p))]) [(0, .rows 38 3 true (switchRes m r p))]) := by
  unfold SzI at kr kp
  refine fspec tyOk mx Tryz.func51 rfl (by kernel_rfl) rfl ?_
  conv => whnf
  refine ACall.use (l5Good_spec m hm.1 hm.len) ?_
  refine ⟨fun h => ?_, fun h => ?_⟩
  · have hg : goodM m = true := by simpa using h
    obtain ⟨g1, g2, g3, g4, g5⟩ := goodM_spec hg
    conv => whnf
    refine ACall.use (l5Are_spec r m.length (by omega)) ?_
    conv => whnf
    refine ⟨fun h2 => ?_, fun h2 => ?_⟩
    · conv => whnf
      refine ⟨0, rfl, by omega, ?_⟩
      conv => whnf
      refine ACall.use (l5Are_spec p (m.getD 0 []).length (by omega)) ?_
      conv => whnf
      refine ⟨fun h3 => ?_, fun h3 => ?_⟩
      · have hok : switchOk m r p = false := by
          have : areS p (m.getD 0 []).length = false := by simpa using h3
          simp only [switchOk, this, Bool.and_false]
        conv => whnf
        refine ⟨?_, ?_⟩
        · rw [hok]
        · rw [switchRes, hok]; rfl
      · have hok : switchOk m r p = true := by
          have a1 : areS p (m.getD 0 []).length = true := by simpa using h3
          have a2 : areS r m.length = true := by simpa using h2
          simp only [switchOk, hg, a1, a2, Bool.and_true]
        obtain ⟨p1, p2, p3, p4⟩ := switchOk_pre hok
        conv => whnf
        refine ACall.use (l5Switch_spec m r p p1 p2 p3 p4) ?_
        conv => whnf
        refine ⟨?_, ?_⟩
        · rw [hok]
        · rw [switchRes, hok]; rfl
    · have hok : switchOk m r p = false := by
        have : areS r m.length = false := by simpa using h2
        simp only [switchOk, this, Bool.and_false, Bool.false_and]
      conv => whnf
      first | refine ⟨fun h => absurd h (by decide), fun _ => ?_⟩ | refine ⟨fun _ => ?_, fun h => absurd h (by decide)⟩
      conv => whnf
      refine ⟨?_, ?_⟩
      · rw [hok]
      · rw [switchRes, hok]; rfl
  · have hg : goodM m = false := by simpa using h
    have hok : switchOk m r p = false := by simp only [switchOk, hg, Bool.false_and]
    conv => whnf
    first | refine ⟨fun h => absurd h (by decide), fun _ => ?_⟩ | refine ⟨fun _ => ?_, fun h => absurd h (by decide)⟩
    conv => whnf
    first | refine ⟨fun h => absurd h (by decide), fun _ => ?_⟩ | refine ⟨fun _ => ?_, fun h => absurd h (by decide)⟩
    conv => whnf
    refine ⟨?_, ?_⟩
    · rw [hok]
    · rw [switchRes, hok]; rfl

theorem SwitchSigns_i (m : List (List Int)) (hm : OkM m) (_km : SzM m) (r : List Int) (_hr : OkI r) (kr : SzI r) (p : List Int) (_hp : OkI p) (kp : SzI p) :
    FSpec Tryz.prog 50 [.t (.rows m), .t (.ints .i64 r), .t (.ints .i64 p)] (ex (.tu [.own 0, .c (.bool (switchOk m r p))]) [(0, .rows 38 3 true (switchRes m r p))]) := by
  unfold SzI at kr kp
  refine view_rows ?_
  refine fspec tyOk mx Tryz.func50 rfl (by kernel_rfl) rfl ?_
  conv => whnf
  refine ACall.use (iIsSignGame_spec m hm.1 hm.len) ?_
  refine ⟨fun h => ?_, fun h => ?_⟩
  · have hg : goodM m = true := by simpa using h
    obtain ⟨g1, g2, g3, g4, g5⟩ := goodM_spec hg
    conv => whnf
    refine ACall.use (areSigns_spec r m.length (by omega)) ?_
    conv => whnf
    refine ⟨fun h2 => ?_, fun h2 => ?_⟩
    · conv => whnf
      refine ⟨0, rfl, by omega, ?_⟩
      conv => whnf
      refine ACall.use (areSigns_spec p (m.getD 0 []).length (by omega)) ?_
      conv => whnf
      refine ⟨fun h3 => ?_, fun h3 => ?_⟩
      · have hok : switchOk m r p = false := by
          have : areS p (m.getD 0 []).length = false := by simpa using h3
          simp only [switchOk, this, Bool.and_false]
        conv => whnf
        exact .inl ⟨hok, rfl, rfl⟩
      · have hok : switchOk m r p = true := by
          have a1 : areS p (m.getD 0 []).length = true := by simpa using h3
          have a2 : areS r m.length = true := by simpa using h2
          simp only [switchOk, hg, a1, a2, Bool.and_true]
        obtain ⟨p1, p2, p3, p4⟩ := switchOk_pre hok
        conv => whnf
        refine ACall.use (switched_spec m r p p1 p2 p3 p4) ?_
        conv => whnf
        exact .inr ⟨hok, rfl, rfl⟩
    · have hok : switchOk m r p = false := by
        have : areS r m.length = false := by simpa using h2
        simp only [switchOk, this, Bool.and_false, Bool.false_and]
      conv => whnf
      first | refine ⟨fun h => absurd h (by decide), fun _ => ?_⟩ | refine ⟨fun _ => ?_, fun h => absurd h (by decide)⟩
      conv => whnf
      exact .inl ⟨hok, rfl, rfl⟩
  · have hg : goodM m = false := by simpa using h
    have hok : switchOk m r p = false := by simp only [switchOk, hg, Bool.false_and]
    conv => whnf
    first | refine ⟨fun h => absurd h (by decide), fun _ => ?_⟩ | refine ⟨fun _ => ?_, fun h => absurd h (by decide)⟩
    conv => whnf
    first | refine ⟨fun h => absurd h (by decide), fun _ => ?_⟩ | refine ⟨fun _ => ?_, fun h => absurd h (by decide)⟩
    conv => whnf
    exact .inl ⟨hok, rfl, rfl⟩

theorem SwitchSigns_bd (m : List (List Int)) (_hm : OkM m) (_km : SzM m) (r : List Int) (_hr : OkI r) (_kr : SzI r) (p : List Int) (_hp : OkI p) (_kp : SzI p) : (switchRes m r p).length ≤ 1000000 ∧ tot (switchRes m r p) ≤ 1000000 := by
  unfold switchRes
  split
  · rename_i h
    obtain ⟨p1, p2, p3, p4⟩ := switchOk_pre h
    have h1 : (switchR m r p).length = m.length := by simp [switchR]
    have h2 := tot_le_mul (m := switchR m r p) (n := 1000) (fun q hq => by
      obtain ⟨x, hx, rfl⟩ := List.mem_map.1 hq
      have hx := List.mem_range.1 hx
      have := p3 _ (getD_mem (d := []) hx)
      simp only [swRow, List.length_map, List.length_range]; omega)
    rw [h1] at h2
    have := Nat.mul_le_mul_right 1000 p1
    omega
  · simp [tot]
end Go.Proofs.YtkomndcehdneaaaGreat
/- SignFunctional, program and reference. -/
namespace Go.Proofs.YtkomndcehdneaaaGreat
open Go.Aw
set_option maxRecDepth 100000

def fnAt (n : Int) : List Int := [n, W (0 - n), W (0 - n), n]
def sfRow (r : List Int) : List (List Int) := r.map fnAt
def functionalL (m : List (List Int)) : List (List Int) := m.flatMap sfRow
def fnTo (m : List (List Int)) (x y : Nat) : List (List Int) := (m.take x).flatMap sfRow ++ ((m.getD x []).take y).map fnAt

theorem fnTo_row (m : List (List Int)) (x y : Nat) (hy : y < (m.getD x []).length) : fnTo m x y ++ [fnAt ((m.getD x []).getD y 0)] = fnTo m x (y + 1) := by
  unfold fnTo
  have e : (m.getD x []).getD y 0 = (m.getD x [])[y] := getD_lt hy
  rw [List.take_succ_eq_append_getElem hy, List.map_append, List.append_assoc, e]
  rfl
theorem fnTo_end (m : List (List Int)) (x : Nat) (hx : x < m.length) : fnTo m x (m.getD x []).length = fnTo m (x + 1) 0 := by
  unfold fnTo
  rw [List.take_succ_eq_append_getElem hx, List.flatMap_append, List.take_length]
  simp [List.getD, hx, sfRow]
theorem fnTo_all (m : List (List Int)) : fnTo m m.length 0 = functionalL m := by
  unfold fnTo functionalL
  simp
theorem fnTo_len (m : List (List Int)) (h : goodM m = true) (x y : Nat) (hx : x ≤ m.length) (hy : y ≤ (m.getD x []).length) : (fnTo m x y).length ≤ 16 := by
  obtain ⟨g1, g2, g3, g4, g5⟩ := goodM_spec h
  have key : ∀ (l : List (List Int)), (∀ r, r ∈ l → r.length ≤ 3) → (l.flatMap sfRow).length ≤ 3 * l.length := by
    intro l
    induction l with
    | nil => simp
    | cons r l ih => intro hl; have := ih (fun q hq => hl q (by simp [hq])); have := hl r (by simp); simp [sfRow] at *; omega
  have h1 := key (m.take x) (fun r hr => by have := (g5 r (List.mem_of_mem_take hr)).1; omega)
  have h2 : (m.getD x []).length ≤ 3 := by
    by_cases hx2 : x < m.length
    · have := (g5 _ (getD_mem (d := []) hx2)).1; omega
    · simp [List.getD, List.getElem?_eq_none (by omega : m.length ≤ x)]
  unfold fnTo
  simp only [List.length_append, List.length_map, List.length_take] at h1 ⊢
  omega

def fnRes (m : List (List Int)) : List (List Int) := if goodM m then functionalL m else []

theorem l5Functional_spec (m : List (List Int)) (hg : goodM m = true) :
    FSpec Tryz.prog 118 [.t (.rows m)] (ex (.own 0) [(0, .rows 38 3 true (functionalL m))]) := by
  obtain ⟨g1, g2, g3, g4, g5⟩ := goodM_spec hg
  refine fspec tyOk mx Tryz.func118 rfl (by kernel_rfl) rfl ?_
  conv => whnf
  refine aloopI tyOk mx (fun x : Nat => (⟨57, [(0, .t (.rows m)), (3, .own 0), (4, .c (.int .i64 (x)))], [(0, .rows 38 3 true (fnTo m x 0))], 1⟩ : St)) (fun x => x ≤ m.length) (fun x => m.length - x) 0 (by omega) none (by refine ⟨rfl, rfl, ?_, ?_⟩ <;> ((repeat' (first | exact trivial | exact rfl | refine And.intro ?_ ?_)) <;> (try ((conv => whnf); first | refine vint ?_ | refine vboo ?_ | refine rint ?_ | refine rrow ?_ | skip)) <;> (try first | omega | (simp; done) | ((repeat rw [flts_closed _ (by assumption)]); exact vws_closed _ (by assumption))))) (fun x hx => ?_)
  refine ⟨fun h => ?_, fun h => ?_⟩
  · have h := ltT h
    have h4 := (g5 _ (getD_mem (d := []) h)).1
    conv => whnf
    refine aloopI tyOk mx (fun y : Nat => (⟨57, [(0, .t (.rows m)), (3, .own 0), (4, .c (.int .i64 (x))), (5, .c (.int .i64 (y)))], [(0, .rows 38 3 true (fnTo m x y))], 1⟩ : St)) (fun y => y ≤ (m.getD x []).length) (fun y => (m.getD x []).length - y) 0 (by omega) none (by refine ⟨rfl, rfl, ?_, ?_⟩ <;> ((repeat' (first | exact trivial | exact rfl | refine And.intro ?_ ?_)) <;> (try ((conv => whnf); first | refine vint ?_ | refine vboo ?_ | refine rint ?_ | refine rrow ?_ | skip)) <;> (try first | omega | (simp; done) | ((repeat rw [flts_closed _ (by assumption)]); exact vws_closed _ (by assumption))))) (fun y hy => ?_)
    have hlen := fnTo_len m hg x y hx hy
    refine ⟨x, rfl, h, fun h5 => ?_, fun h5 => ?_⟩
    · have h5 := ltT h5
      refine ADraw.plan tyOk mx (.q 0 (.q 1 (.q 2 (.q 3 (.q 4 (.q 5 (.q 6 (.q 7 (.q 8 (.q 9 (.q 10 (.q 11 (.q 12 (.q 13 (.q 14 (.q 15 (.q 16 (.q 17 (.q 18 (.q 19 (.q 20 (.q 21 (.q 22 (.q 23 (.q 24 (.q 25 (.q 26 (.q 27 (.q 28 (.q 29 (.q 30 (.last 31 (.last 32 (.last 33 (.q 34 (.done))))))))))))))))))))))))))))))))))) : Plan) (by kernel_rfl) ?_
      conv => whnf
      refine ⟨x, rfl, h, y, rfl, h5, x, rfl, h, y, rfl, h5, x, rfl, h, y, rfl, h5, x, rfl, h, y, rfl, h5, ?_⟩
      conv => whnf
      refine ⟨by simp [room]; omega, ?_⟩
      conv => whnf
      rw [nat_wrap (by omega)]
      refine ⟨y + 1, none, ?_, by omega, by omega⟩
      (refine ⟨rfl, rfl, ?_, ?_⟩ <;> ((repeat' (first | exact trivial | exact rfl | refine And.intro ?_ ?_)) <;> (try ((conv => whnf); first | refine vint ?_ | refine vboo ?_ | refine rint ?_ | refine rrow ?_ | skip)) <;> (try first | omega | (simp; done) | ((repeat rw [flts_closed _ (by assumption)]); exact vws_closed _ (by assumption)))))
      exact fnTo_row m x y h5
    · have h5 := ltF h5
      obtain rfl : y = (m.getD x []).length := by omega
      conv => whnf
      rw [nat_wrap (by omega)]
      refine ⟨x + 1, none, ?_, by omega, by omega⟩
      (refine ⟨rfl, rfl, ?_, ?_⟩ <;> ((repeat' (first | exact trivial | exact rfl | refine And.intro ?_ ?_)) <;> (try ((conv => whnf); first | refine vint ?_ | refine vboo ?_ | refine rint ?_ | refine rrow ?_ | skip)) <;> (try first | omega | (simp; done) | ((repeat rw [flts_closed _ (by assumption)]); exact vws_closed _ (by assumption)))))
      exact fnTo_end m x h
  · have h := ltF h
    obtain rfl : x = m.length := by omega
    conv => whnf
    exact ⟨rfl, by rw [fnTo_all]⟩

theorem SignFunctional_s (m : List (List Int)) (hm : OkM m) (_km : SzM m) :
    FSpec Tryz.prog 48 [.t (.rows m)] (ex (.tu [.own 0, .c (.bool (goodM m))]) [(0, .rows 38 3 true (fnRes m))]) := by
  refine fspec tyOk mx Tryz.func48 rfl (by kernel_rfl) rfl ?_
  conv => whnf
  refine ACall.use (l5Good_spec m hm.1 hm.len) ?_
  refine ⟨fun h => ?_, fun h => ?_⟩
  · have hg : goodM m = false := by simpa using h
    conv => whnf
    refine ⟨by rw [hg], by rw [fnRes, hg]; rfl⟩
  · have hg : goodM m = true := by simpa using h
    conv => whnf
    refine ACall.use (l5Functional_spec m hg) ?_
    conv => whnf
    refine ⟨by rw [hg], by rw [fnRes, hg]; rfl⟩

theorem SignFunctional_i (m : List (List Int)) (hm : OkM m) (_km : SzM m) :
    FSpec Tryz.prog 47 [.t (.rows m)] (ex (.tu [.own 0, .c (.bool (goodM m))]) [(0, .rows 38 3 true (fnRes m))]) := by
  refine view_rows ?_
  refine fspec tyOk mx Tryz.func47 rfl (by kernel_rfl) rfl ?_
  conv => whnf
  refine ACall.use (iIsSignGame_spec m hm.1 hm.len) ?_
  refine ⟨fun h => ?_, fun h => ?_⟩
  · have hg : goodM m = false := by simpa using h
    conv => whnf
    exact .inl ⟨hg, rfl, rfl⟩
  · have hg : goodM m = true := by simpa using h
    obtain ⟨g1, g2, g3, g4, g5⟩ := goodM_spec hg
    conv => whnf
    refine aloopI tyOk mx (fun x : Nat => (⟨38, [(4, .own 0), (13, .t (.rows m)), (14, .c (.int .i64 m.length)), (15, .c (.int .i64 (x)))], [(0, .rows 38 3 true (fnTo m x 0))], 1⟩ : St)) (fun x => x ≤ m.length) (fun x => m.length - x) 0 (by omega) none (by refine ⟨rfl, rfl, ?_, ?_⟩ <;> ((repeat' (first | exact trivial | exact rfl | refine And.intro ?_ ?_)) <;> (try ((conv => whnf); first | refine vint ?_ | refine vboo ?_ | refine rint ?_ | refine rrow ?_ | skip)) <;> (try first | omega | (simp; done) | ((repeat rw [flts_closed _ (by assumption)]); exact vws_closed _ (by assumption))))) (fun x hx => ?_)
    refine ⟨fun h => ?_, fun h => ?_⟩
    · have h := ltT h
      have h4 := (g5 _ (getD_mem (d := []) h)).1
      conv => whnf
      refine ⟨x, rfl, h, ?_⟩
      conv => whnf
      refine aloopI tyOk mx (fun y : Nat => (⟨38, [(4, .own 0), (13, .t (.rows m)), (14, .c (.int .i64 m.length)), (15, .c (.int .i64 (x))), (19, .t (.ints .i64 (m.getD x []))), (20, .c (.int .i64 ((m.getD x []).length))), (21, .c (.int .i64 (y)))], [(0, .rows 38 3 true (fnTo m x y))], 1⟩ : St)) (fun y => y ≤ (m.getD x []).length) (fun y => (m.getD x []).length - y) 0 (by omega) none (by refine ⟨rfl, rfl, ?_, ?_⟩ <;> ((repeat' (first | exact trivial | exact rfl | refine And.intro ?_ ?_)) <;> (try ((conv => whnf); first | refine vint ?_ | refine vboo ?_ | refine rint ?_ | refine rrow ?_ | skip)) <;> (try first | omega | (simp; done) | ((repeat rw [flts_closed _ (by assumption)]); exact vws_closed _ (by assumption))))) (fun y hy => ?_)
      have hlen := fnTo_len m hg x y hx hy
      refine ⟨fun h5 => ?_, fun h5 => ?_⟩
      · have h5 := ltT h5
        conv => whnf
        refine ⟨y, rfl, h5, ?_⟩
        conv => whnf
        refine ⟨by simp [room]; omega, ?_⟩
        conv => whnf
        rw [nat_wrap (by omega)]
        refine ⟨y + 1, none, ?_, by omega, by omega⟩
        (refine ⟨rfl, rfl, ?_, ?_⟩ <;> ((repeat' (first | exact trivial | exact rfl | refine And.intro ?_ ?_)) <;> (try ((conv => whnf); first | refine vint ?_ | refine vboo ?_ | refine rint ?_ | refine rrow ?_ | skip)) <;> (try first | omega | (simp; done) | ((repeat rw [flts_closed _ (by assumption)]); exact vws_closed _ (by assumption)))))
        exact fnTo_row m x y h5
      · have h5 := ltF h5
        obtain rfl : y = (m.getD x []).length := by omega
        conv => whnf
        rw [nat_wrap (by omega)]
        refine ⟨x + 1, none, ?_, by omega, by omega⟩
        (refine ⟨rfl, rfl, ?_, ?_⟩ <;> ((repeat' (first | exact trivial | exact rfl | refine And.intro ?_ ?_)) <;> (try ((conv => whnf); first | refine vint ?_ | refine vboo ?_ | refine rint ?_ | refine rrow ?_ | skip)) <;> (try first | omega | (simp; done) | ((repeat rw [flts_closed _ (by assumption)]); exact vws_closed _ (by assumption)))))
        exact fnTo_end m x h
    · have h := ltF h
      obtain rfl : x = m.length := by omega
      conv => whnf
      exact .inr ⟨hg, rfl, by rw [fnTo_all]⟩

theorem SignFunctional_bd (m : List (List Int)) (_hm : OkM m) (_km : SzM m) : (fnRes m).length ≤ 1000000 ∧ tot (fnRes m) ≤ 1000000 := by
  unfold fnRes
  split
  · rename_i h
    have h1 := fnTo_len m h m.length 0 (Nat.le_refl _) (Nat.zero_le _)
    rw [fnTo_all] at h1
    have h2 := tot_le_mul (m := functionalL m) (n := 4) (fun q hq => by
      obtain ⟨r, _, hr⟩ := List.mem_flatMap.1 hq
      obtain ⟨n, _, rfl⟩ := List.mem_map.1 hr
      simp [fnAt])
    omega
  · simp [tot]
end Go.Proofs.YtkomndcehdneaaaGreat
/- Lists of bits, of the reference. -/
namespace Go.Proofs.YtkomndcehdneaaaGreat
open Go.Aw
set_option maxRecDepth 100000
theorem l2Bits_spec (l : List Int) (n : Int) (hl : l.length ≤ 9223372036854775806) :
    FSpec Tryz.prog 194 [.t (.ints .i64 l), .c (.int .i64 n)] (ex (.c (.bool (rowIn l 0 1 && decide ((l.length : Int) = n)))) []) := by
  refine fspec tyOk mx Tryz.func194 rfl (by kernel_rfl) rfl ?_
  conv => whnf
  refine aloopI tyOk mx (fun k : Nat => (⟨22, [(0, .t (.ints .i64 l)), (1, .c (.int .i64 n)), (5, .c (.int .i64 (k)))], [], 0⟩ : St)) (fun k => k ≤ l.length ∧ (l.take k).all (fun x => inR x 0 1) = true) (fun k => l.length - k) 0 ⟨by omega, rfl⟩ none (by refine ⟨rfl, rfl, ?_, ?_⟩ <;> ((repeat' (first | exact trivial | exact rfl | refine And.intro ?_ ?_)) <;> (try ((conv => whnf); first | refine vint ?_ | refine vboo ?_ | refine rint ?_ | refine rrow ?_ | skip)) <;> (try first | omega | (simp; done) | ((repeat rw [flts_closed _ (by assumption)]); exact vws_closed _ (by assumption))))) (fun k hI => ?_)
  obtain ⟨hk, hp⟩ := hI
  refine ⟨fun h => ?_, fun h => ?_⟩
  · have h := ltT h
    conv => whnf
    refine ⟨k, rfl, h, ?_⟩
    conv => whnf
    refine ACall.use (l1In_spec _ _ _) ?_
    refine ⟨fun h2 => ?_, fun h2 => ?_⟩
    · conv => whnf
      refine ⟨?_, rfl⟩
      rw [rowIn, all_false (d := 0) h (by simpa using h2)]
      rfl
    · conv => whnf
      rw [nat_wrap (by omega)]
      exact ⟨k + 1, none, (by refine ⟨rfl, rfl, ?_, ?_⟩ <;> ((repeat' (first | exact trivial | exact rfl | refine And.intro ?_ ?_)) <;> (try ((conv => whnf); first | refine vint ?_ | refine vboo ?_ | refine rint ?_ | refine rrow ?_ | skip)) <;> (try first | omega | (simp; done) | ((repeat rw [flts_closed _ (by assumption)]); exact vws_closed _ (by assumption))))), ⟨by omega, all_take_succ (d := 0) h hp (by simpa using h2)⟩, by omega⟩
  · have h := ltF h
    conv => whnf
    refine ⟨?_, rfl⟩
    rw [rowIn, all_end h hp, Bool.true_and]
    rfl
end Go.Proofs.YtkomndcehdneaaaGreat
