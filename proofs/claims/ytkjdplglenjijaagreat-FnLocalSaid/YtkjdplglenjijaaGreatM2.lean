/- What a function hands back; the contract of a whole function. -/
import Derived.Test.YtkjdplglenjijaaGreatM1
import Derived.Test.YtkjdplglenjijaaGreatProg
namespace Go.Aw
open Go.RowKit

mutual
/-- the rows that a result leads to, in their order (an inner row by its place) -/
def refs : AVal → List (Nat × Option Nat)
  | .own k => [(k, none)]
  | .sub k i => [(k, some i)]
  | .ag l | .tu l => refsAll l
  | _ => []
def refsAll : List AVal → List (Nat × Option Nat)
  | [] => []
  | a :: r => refs a ++ refsAll r
end

mutual
/-- the result with its rows numbered from n on -/
def canon (n : Nat) : AVal → Option (AVal × Nat)
  | .c v => some (.c v, n)
  | .nul => some (.nul, n)
  | .t t => some (.t t, n)
  | .own _ | .sub _ _ => some (.own n, n + 1)
  | .ag l => match canons n l with
    | some (l', m) => some (.ag l', m)
    | none => none
  | .tu l => match canons n l with
    | some (l', m) => some (.tu l', m)
    | none => none
  | _ => none
def canons (n : Nat) : List AVal → Option (List AVal × Nat)
  | [] => some ([], n)
  | a :: r => match canon n a with
    | none => none
    | some (a', m) => match canons m r with
      | none => none
      | some (r', q) => some (a' :: r', q)
end

def rowOf (hp : List (Nat × ARow)) (p : Nat × Option Nat) : Option ARow :=
  match look hp p.1 with
  | some (.cells ..) => none
  | some r => match p.2 with
    | none => some r
    | some i => match r with
      | .rows _ e1 true m => some (.ints e1 .i64 (m.getD i []))
      | _ => none
  | none => none

def rowsOf (hp : List (Nat × ARow)) (n : Nat) : List (Nat × Option Nat) → Option (List (Nat × ARow))
  | [] => some []
  | p :: r => match rowOf hp p with
    | none => none
    | some x => match rowsOf hp (n + 1) r with
      | none => none
      | some l => some ((n, x) :: l)

def fresh (k : Nat) : List (Nat × Option Nat) → Bool
  | [] => true
  | (j, _) :: r => match Nat.beq j k with | true => false | false => fresh k r

def differ : List (Nat × Option Nat) → Bool
  | [] => true
  | (k, _) :: r => match fresh k r with | true => differ r | false => false

def afin (st : St) (x : AVal) (post : AVal → List (Nat × ARow) → Prop) : Prop :=
  match canon 0 x with
  | none => False
  | some (x', _) => match differ (refs x) with
    | false => False
    | true => match rowsOf st.hp 0 (refs x) with
      | none => False
      | some h => post x' h

def ares (Γ : Tys) (st : St) : List ResultVar → (List AVal → Prop) → Prop
  | [], K => K []
  | .tmp t :: r, K => match lk st t with
    | some x => ares Γ st r fun l => K (x :: l)
    | none => False
  | .cell p t :: r, K => match lk st p with
    | some y => match isKey st.hp (match y with | .ptr k _ => k | _ => st.nx) with
      | true => aload Γ st t y fun x => ares Γ st r fun l => K (x :: l)
      | false => False
    | none => False

def aret (Γ : Tys) (st : St) (rs : List ResultVar) (post : AVal → List (Nat × ARow) → Prop) : Prop :=
  ares Γ st rs fun l => match l with
    | [x] => afin st x post
    | l => afin st (.tu l) post

section
variable {P : Program} {Γ : Tys} {w0 : Base} {w w' : World} {ob : Nat → Prop} {st : St} {a : Act} {η : Env}

def valOf (η : Env) (p : Nat × Option Nat) : Value :=
  match p.2 with
  | none => η.val p.1
  | some i => (η.cel p.1).getD i undef

def celOf (hp : List (Nat × ARow)) (η : Env) (p : Nat × Option Nat) : List Value :=
  match p.2 with
  | none => η.cel p.1
  | some i => match look hp p.1 with
    | some (.rows _ _ _ m) => (m.getD i []).map (Value.int .i64)
    | _ => []

def ηret (hp : List (Nat × ARow)) (η : Env) (R : List (Nat × Option Nat)) : Env := ⟨fun j => valOf η (R.getD j (0, none)), fun j => celOf hp η (R.getD j (0, none))⟩

theorem rowsOf_spec {hp : List (Nat × ARow)} : ∀ {R : List (Nat × Option Nat)} {n : Nat} {h : List (Nat × ARow)}, rowsOf hp n R = some h →
    h.length = R.length ∧ (∀ j, j < n → look h j = none) ∧ ∀ j, look h (n + j) = (R[j]?).bind (rowOf hp)
  | [], n, h, hr => by simp only [rowsOf, Option.some.injEq] at hr; subst hr; exact ⟨rfl, fun _ _ => rfl, fun j => by simp [look]⟩
  | p :: R, n, h, hr => by
    simp only [rowsOf] at hr
    cases hp1 : rowOf hp p with
    | none => rw [hp1] at hr; cases hr
    | some x =>
      rw [hp1] at hr
      simp only at hr
      cases hl : rowsOf hp (n + 1) R with
      | none => rw [hl] at hr; cases hr
      | some l =>
        rw [hl] at hr
        simp only [Option.some.injEq] at hr
        subst hr
        obtain ⟨h1, h2, h3⟩ := rowsOf_spec hl
        refine ⟨by simp [h1], fun j hj => ?_, fun j => ?_⟩
        · rw [look_cons, if_neg (by omega)]; exact h2 j (by omega)
        · rw [look_cons]
          match j with
          | 0 => simp [hp1]
          | j + 1 =>
            rw [if_neg (by omega)]
            have := h3 j
            rw [show n + (j + 1) = n + 1 + j by omega, this]
            simp

theorem fresh_spec {k : Nat} : ∀ {R : List (Nat × Option Nat)}, fresh k R = true → ∀ p, p ∈ R → p.1 ≠ k
  | [], _, p, hp => by simp at hp
  | (j, o) :: R, h, p, hp => by
    simp only [fresh] at h
    split at h
    case h_1 => cases h
    case h_2 hb =>
      rcases List.mem_cons.1 hp with rfl | hp
      · exact fun e => by simp only at e; rw [e, Nat.beq_refl] at hb; cases hb
      · exact fresh_spec h p hp

theorem differ_spec : ∀ {R : List (Nat × Option Nat)}, differ R = true → ∀ (i j : Nat) (p q : Nat × Option Nat), R[i]? = some p → R[j]? = some q → i ≠ j → p.1 ≠ q.1
  | [], _, i, j, p, q, hi, _, _ => by simp at hi
  | (k, o) :: R, h, i, j, p, q, hi, hj, hne => by
    simp only [differ] at h
    split at h
    case h_2 => cases h
    case h_1 hf =>
      match i, j with
      | 0, 0 => exact absurd rfl hne
      | 0, j + 1 => simp at hi hj; subst hi; exact Ne.symm (fresh_spec hf q (List.mem_of_getElem? hj))
      | i + 1, 0 => simp at hi hj; subst hj; exact fresh_spec hf p (List.mem_of_getElem? hi)
      | i + 1, j + 1 => simp at hi hj; exact differ_spec h i j p q hi hj (by omega)

/-- an inner row's place is within the row -/
def inOk (η : Env) (p : Nat × Option Nat) : Prop := ∀ i, p.2 = some i → i < (η.cel p.1).length

theorem rowOf_rep {B : Nat} {hp : List (Nat × ARow)} {nx : Nat} (hh : HRep w B ob hp nx η) {R : List (Nat × Option Nat)} {j : Nat} {p : Nat × Option Nat} (hj : R[j]? = some p) {r : ARow} (hr : rowOf hp p = some r) (hin : inOk η p)
    {bad' : Nat → Prop} (hk : Keeps w (badOf ob hp η) w bad') {hp' : List (Nat × ARow)} {nx' : Nat} :
    RowRep w B bad' hp' nx' (ηret hp η R) j r ∧ (∃ r0, look hp p.1 = some r0 ∧ (∀ b, b ∈ bsOf (ηret hp η R) j r → b ∈ bsOf η p.1 r0)) ∧ (bsOf (ηret hp η R) j r).Nodup ∧ r.kind < 4 := by
  have hR : R.getD j (0, none) = p := getD_of hj
  have hv : (ηret hp η R).val j = valOf η p := by simp [ηret, hj]
  have hc : (ηret hp η R).cel j = celOf hp η p := by simp [ηret, hj]
  obtain ⟨k, o⟩ := p
  unfold rowOf at hr
  split at hr
  case h_1 => cases hr
  case h_3 => cases hr
  case h_2 r0 hnc hlk0 =>
    have hlk : look hp k = some r0 := hlk0
    have hrow := hh.row k r0 hlk
    have hnd := hh.nodup k r0 hlk
    split at hr
    case h_1 ho =>
      simp only at ho
      subst ho
      simp only [Option.some.injEq] at hr
      subst hr
      have hbs : bsOf (ηret hp η R) j r0 = bsOf η k r0 := by simp only [bsOf, hv, hc, valOf, celOf]
      refine ⟨?_, ⟨r0, hlk, fun b hb => by rwa [hbs] at hb⟩, by rw [hbs]; exact hnd, ?_⟩
      · match r0 with
        | .ints e kd l => simp only [RowRep, OwnInts, hv, hc]; exact hrow
        | .rows e e1 true m => simp only [RowRep, hv, hc]; exact hrow
        | .rows e e1 false m => simp only [RowRep, hv, hc]; exact ⟨hrow.1, F2.imp (fun _ _ _ ho => ho.keeps hk) hrow.2⟩
        | .cells e l => exact (hnc e l rfl).elim
        | .recs e s L =>
          obtain ⟨g1, css, g2, g3⟩ := hrow
          simp only [RowRep, hv, hc]
          exact ⟨g1, css, g2, F2.imp (fun _ _ _ ho => ho.keeps hk) g3⟩
      · match r0 with
        | .ints .. => simp [ARow.kind]
        | .rows _ _ true _ => simp [ARow.kind]
        | .rows _ _ false _ => simp [ARow.kind]
        | .recs .. => simp [ARow.kind]
        | .cells e l => exact (hnc e l rfl).elim
    case h_2 i ho =>
      simp only at ho
      subst ho
      split at hr
      case h_2 => cases hr
      case h_1 e e1 m =>
        simp only [Option.some.injEq] at hr
        subst hr
        have hi := hin i rfl
        simp only at hi
        obtain ⟨v, hvi⟩ : ∃ v, (η.cel k)[i]? = some v := ⟨_, List.getElem?_eq_getElem hi⟩
        obtain ⟨l, hl, ho⟩ := F2.at' hrow.2 hvi
        have hv' : (ηret hp η R).val j = v := by rw [hv]; exact getD_of hvi
        have hc' : (ηret hp η R).cel j = l.map (Value.int .i64) := by rw [hc]; simp only [celOf, hlk]; rw [getD_of hl]
        rw [getD_of hl]
        have hbs : bsOf (ηret hp η R) j (.ints e1 .i64 l) = blk v := by simp [bsOf, ARow.kind, hv']
        refine ⟨?_, ⟨_, hlk, fun b hb => ?_⟩, ?_, by simp [ARow.kind]⟩
        · simp only [RowRep, hv', hc']; exact ⟨ho, trivial⟩
        · rw [hbs] at hb
          simp only [bsOf, ARow.kind, if_true]
          exact List.mem_append.2 (.inr (List.mem_flatMap.2 ⟨v, List.mem_of_getElem? hvi, hb⟩))
        · rw [hbs]
          have hflat : ((η.cel k).flatMap blk).Nodup := by
            simp only [bsOf, ARow.kind, if_true] at hnd
            exact (List.nodup_append.1 hnd).2.1
          have hsub : (blk v).Sublist ((η.cel k).flatMap blk) := by
            obtain ⟨s, t, hst⟩ := List.append_of_mem (List.mem_of_getElem? hvi)
            rw [hst]
            simp only [List.flatMap_append, List.flatMap_cons]
            exact (List.sublist_append_left _ _).trans (List.sublist_append_right _ _)
          exact hflat.sublist hsub

mutual
theorem canon_rep {hp h : List (Nat × ARow)} {nx : Nat} {bad' : Nat → Prop} (hk : Keeps w (badOf ob hp η) w bad') {R : List (Nat × Option Nat)} (hlen : h.length = R.length) (hrows : ∀ j, look h j = (R[j]?).bind (rowOf hp))
    (hkind : ∀ (j : Nat) (p : Nat × Option Nat) (r : ARow), R[j]? = some p → rowOf hp p = some r → r.kind < 4) : ∀ (x : AVal) {n n' : Nat} {x' : AVal} {v : Value}, canon n x = some (x', n') → (∀ j, j < (refs x).length → R[n + j]? = (refs x)[j]?) → (∀ p, p ∈ refs x → ∃ r, rowOf hp p = some r) →
      VRep w (badOf ob hp η) hp nx η x v → n' = n + (refs x).length ∧ VRep w bad' h h.length (ηret hp η R) x' v
  | .c y, n, n', x', v, hc, _, _, hv => by simp only [canon, Option.some.injEq, Prod.mk.injEq] at hc; obtain ⟨rfl, rfl⟩ := hc; exact ⟨by simp [refs], hv⟩
  | .t t, n, n', x', v, hc, _, _, hv => by simp only [canon, Option.some.injEq, Prod.mk.injEq] at hc; obtain ⟨rfl, rfl⟩ := hc; exact ⟨by simp [refs], TRep.keeps hk hv⟩
  | .nul, n, n', x', v, hc, _, _, hv => by simp only [canon, Option.some.injEq, Prod.mk.injEq] at hc; obtain ⟨rfl, rfl⟩ := hc; exact ⟨by simp [refs], hv⟩
  | .own k, n, n', x', v, hc, hR, hro, hv => by
    simp only [canon, Option.some.injEq, Prod.mk.injEq] at hc
    obtain ⟨rfl, rfl⟩ := hc
    have h0 : R[n]? = some (k, none) := by simpa [refs] using hR 0 (by simp [refs])
    refine ⟨by simp [refs], ?_, fun r hr => ?_⟩
    · rw [hlen]; exact (List.getElem?_eq_some_iff.1 h0).1
    · rw [hrows, h0] at hr
      simp only [Option.bind_some] at hr
      refine ⟨hkind n _ r h0 hr, ?_⟩
      obtain ⟨r1, h1⟩ := hro (k, none) (by simp [refs])
      have : ∃ r0, look hp k = some r0 := by
        unfold rowOf at h1
        cases hl : look hp k with
        | none => rw [hl] at h1; cases h1
        | some r0 => exact ⟨r0, rfl⟩
      obtain ⟨r0, hr0⟩ := this
      rw [(hv.2 r0 hr0).2]
      simp [ηret, h0, valOf]
  | .sub k i, n, n', x', v, hc, hR, hro, hv => by
    simp only [canon, Option.some.injEq, Prod.mk.injEq] at hc
    obtain ⟨rfl, rfl⟩ := hc
    have h0 : R[n]? = some (k, some i) := by simpa [refs] using hR 0 (by simp [refs])
    refine ⟨by simp [refs], ?_, fun r hr => ?_⟩
    · rw [hlen]; exact (List.getElem?_eq_some_iff.1 h0).1
    · rw [hrows, h0] at hr
      simp only [Option.bind_some] at hr
      refine ⟨hkind n _ r h0 hr, ?_⟩
      obtain ⟨r1, h1⟩ := hro (k, some i) (by simp [refs])
      have : ∃ r0, look hp k = some r0 := by
        unfold rowOf at h1
        cases hl : look hp k with
        | none => rw [hl] at h1; cases h1
        | some r0 => exact ⟨r0, rfl⟩
      obtain ⟨r0, hr0⟩ := this
      have := (hv.2 r0 hr0).2
      simp [ηret, h0, valOf, this]
  | .ag l, n, n', x', v, hc, hR, hro, hv => by
    simp only [canon] at hc
    cases hcs : canons n l with
    | none => rw [hcs] at hc; cases hc
    | some q =>
      obtain ⟨l', m⟩ := q
      rw [hcs] at hc
      simp only [Option.some.injEq, Prod.mk.injEq] at hc
      obtain ⟨rfl, rfl⟩ := hc
      obtain ⟨cs, rfl, hr⟩ := hv
      obtain ⟨h1, h2⟩ := canons_rep hk hlen hrows hkind l hcs (by simpa [refs] using hR) (by simpa [refs] using hro) hr
      exact ⟨by simpa [refs] using h1, cs, rfl, h2⟩
  | .tu l, n, n', x', v, hc, hR, hro, hv => by
    simp only [canon] at hc
    cases hcs : canons n l with
    | none => rw [hcs] at hc; cases hc
    | some q =>
      obtain ⟨l', m⟩ := q
      rw [hcs] at hc
      simp only [Option.some.injEq, Prod.mk.injEq] at hc
      obtain ⟨rfl, rfl⟩ := hc
      obtain ⟨cs, rfl, hr⟩ := hv
      obtain ⟨h1, h2⟩ := canons_rep hk hlen hrows hkind l hcs (by simpa [refs] using hR) (by simpa [refs] using hro) hr
      exact ⟨by simpa [refs] using h1, cs, rfl, h2⟩
  | .un, _, _, _, _, hc, _, _, _ => by simp [canon] at hc
  | .ptr _ _, _, _, _, _, hc, _, _, _ => by simp [canon] at hc
  | .subp _ _ _, _, _, _, _, hc, _, _, _ => by simp [canon] at hc
  | .adr _ _, _, _, _, _, hc, _, _, _ => by simp [canon] at hc
  | .rp _ _, _, _, _, _, hc, _, _, _ => by simp [canon] at hc
  | .clo _ _, _, _, _, _, hc, _, _, _ => by simp [canon] at hc
theorem canons_rep {hp h : List (Nat × ARow)} {nx : Nat} {bad' : Nat → Prop} (hk : Keeps w (badOf ob hp η) w bad') {R : List (Nat × Option Nat)} (hlen : h.length = R.length) (hrows : ∀ j, look h j = (R[j]?).bind (rowOf hp))
    (hkind : ∀ (j : Nat) (p : Nat × Option Nat) (r : ARow), R[j]? = some p → rowOf hp p = some r → r.kind < 4) : ∀ (l : List AVal) {n n' : Nat} {l' : List AVal} {vs : List Value}, canons n l = some (l', n') → (∀ j, j < (refsAll l).length → R[n + j]? = (refsAll l)[j]?) → (∀ p, p ∈ refsAll l → ∃ r, rowOf hp p = some r) →
      VReps w (badOf ob hp η) hp nx η l vs → n' = n + (refsAll l).length ∧ VReps w bad' h h.length (ηret hp η R) l' vs
  | [], n, n', l', [], hc, _, _, _ => by simp only [canons, Option.some.injEq, Prod.mk.injEq] at hc; obtain ⟨rfl, rfl⟩ := hc; exact ⟨by simp [refsAll], trivial⟩
  | x :: l, n, n', l', v :: vs, hc, hR, hro, hv => by
    simp only [canons] at hc
    cases hcx : canon n x with
    | none => rw [hcx] at hc; cases hc
    | some q =>
      obtain ⟨x', m⟩ := q
      rw [hcx] at hc
      simp only at hc
      cases hcs : canons m l with
      | none => rw [hcs] at hc; cases hc
      | some q2 =>
        obtain ⟨r', q⟩ := q2
        rw [hcs] at hc
        simp only [Option.some.injEq, Prod.mk.injEq] at hc
        obtain ⟨rfl, rfl⟩ := hc
        simp only [refsAll] at hR hro
        obtain ⟨h1, h2⟩ := canon_rep hk hlen hrows hkind x hcx (fun j hj => by rw [hR j (by simp; omega), List.getElem?_append_left hj]) (fun p hp => hro p (by simp [hp])) hv.1
        subst h1
        obtain ⟨h3, h4⟩ := canons_rep hk hlen hrows hkind l hcs (fun j hj => by
          have := hR ((refs x).length + j) (by simp; omega)
          rw [List.getElem?_append_right (by omega)] at this
          rw [Nat.add_assoc, this]; simp) (fun p hp => hro p (by simp [hp])) hv.2
        exact ⟨by simp only [refsAll, List.length_append]; omega, h2, h4⟩
  | [], _, _, _, _ :: _, _, _, _, hv => hv.elim
  | _ :: _, _, _, _, [], _, _, _, hv => hv.elim
end

mutual
theorem refs_in {hp : List (Nat × ARow)} {nx : Nat} {bad : Nat → Prop} : ∀ (x : AVal) {v : Value}, VRep w bad hp nx η x v → ∀ p, p ∈ refs x → (∃ r, look hp p.1 = some r) → inOk η p
  | .own k, v, hv, p, hp, _ => by simp only [refs, List.mem_singleton] at hp; subst hp; intro i hi; cases hi
  | .sub k i, v, hv, p, hp, ⟨r, hr⟩ => by
    simp only [refs, List.mem_singleton] at hp
    subst hp
    intro j hj
    simp only [Option.some.injEq] at hj
    subst hj
    exact (List.getElem?_eq_some_iff.1 (hv.2 r hr).2).1
  | .ag l, v, ⟨cs, _, hr⟩, p, hp, hl => refsAll_in l hr p (by simpa [refs] using hp) hl
  | .tu l, v, ⟨cs, _, hr⟩, p, hp, hl => refsAll_in l hr p (by simpa [refs] using hp) hl
  | .un, _, _, p, hp, _ => by simp [refs] at hp
  | .c _, _, _, p, hp, _ => by simp [refs] at hp
  | .t _, _, _, p, hp, _ => by simp [refs] at hp
  | .ptr _ _, _, _, p, hp, _ => by simp [refs] at hp
  | .subp _ _ _, _, _, p, hp, _ => by simp [refs] at hp
  | .adr _ _, _, _, p, hp, _ => by simp [refs] at hp
  | .rp _ _, _, _, p, hp, _ => by simp [refs] at hp
  | .clo _ _, _, _, p, hp, _ => by simp [refs] at hp
theorem refsAll_in {hp : List (Nat × ARow)} {nx : Nat} {bad : Nat → Prop} : ∀ (l : List AVal) {vs : List Value}, VReps w bad hp nx η l vs → ∀ p, p ∈ refsAll l → (∃ r, look hp p.1 = some r) → inOk η p
  | [], [], _, p, hp, _ => by simp [refsAll] at hp
  | x :: l, v :: vs, h, p, hp, hl => by
    simp only [refsAll, List.mem_append] at hp
    rcases hp with hp | hp
    · exact refs_in x h.1 p hp hl
    · exact refsAll_in l h.2 p hp hl
  | [], _ :: _, h, _, _, _ => h.elim
  | _ :: _, [], h, _, _, _ => h.elim
end

theorem rowOf_look {hp : List (Nat × ARow)} {p : Nat × Option Nat} {r : ARow} (h : rowOf hp p = some r) : ∃ r0, look hp p.1 = some r0 := by
  unfold rowOf at h
  cases hl : look hp p.1 with
  | none => rw [hl] at h; cases h
  | some r0 => exact ⟨r0, rfl⟩

theorem rowsOf_all {hp : List (Nat × ARow)} : ∀ {R : List (Nat × Option Nat)} {n : Nat} {h : List (Nat × ARow)}, rowsOf hp n R = some h → ∀ p, p ∈ R → ∃ r, rowOf hp p = some r
  | [], _, _, _, p, hm => by simp at hm
  | q :: R, n, h, hr, p, hm => by
    simp only [rowsOf] at hr
    cases hq : rowOf hp q with
    | none => rw [hq] at hr; cases hr
    | some x =>
      rw [hq] at hr
      simp only at hr
      cases hl : rowsOf hp (n + 1) R with
      | none => rw [hl] at hr; cases hr
      | some l =>
        rcases List.mem_cons.1 hm with rfl | hm
        · exact ⟨x, hq⟩
        · exact rowsOf_all hl p hm

theorem rowOf_nc {hp : List (Nat × ARow)} {p : Nat × Option Nat} {r r0 : ARow} (h : rowOf hp p = some r) (h0 : look hp p.1 = some r0) (e : Nat) (l : List AVal) : r0 ≠ .cells e l := by
  rintro rfl
  unfold rowOf at h
  rw [h0] at h
  cases h

/-- what is handed back -/
theorem afin_sound' (h : SRep w0 ob st a w η) {x : AVal} {v : Value} (hv : VR w ob st η x v) {post : AVal → List (Nat × ARow) → Prop} (hk : afin st x post) :
    ∃ x' hr ηr, post x' hr ∧ HRep w w0.B ob hr hr.length ηr ∧ VRep w (fun b => ob b ∨ ownB hr ηr b) hr hr.length ηr x' v ∧
      ∀ b, ownB hr ηr b → ∃ k r, look st.hp k = some r ∧ (∀ e l, r ≠ .cells e l) ∧ b ∈ bsOf η k r := by
  unfold afin at hk
  split at hk
  case h_1 => exact hk.elim
  case h_2 x' m hc =>
    split at hk
    case h_1 => exact hk.elim
    case h_2 hd =>
      split at hk
      case h_1 => exact hk.elim
      case h_2 hr hrs =>
        obtain ⟨hlen, _, hlk⟩ := rowsOf_spec hrs
        have hlk' : ∀ j, look hr j = ((refs x)[j]?).bind (rowOf st.hp) := fun j => by simpa using hlk j
        have hall := rowsOf_all hrs
        have hin : ∀ p, p ∈ refs x → inOk η p := fun p hp => by
          obtain ⟨r, h1⟩ := hall p hp
          exact refs_in x hv p hp (rowOf_look h1)
        have hget : ∀ j r, look hr j = some r → ∃ p, (refs x)[j]? = some p ∧ rowOf st.hp p = some r := fun j r hj => by
          rw [hlk'] at hj
          exact Option.bind_eq_some_iff.1 hj
        have hkeep0 : ∀ bad', (∀ b, bad' b → badOf ob st.hp η b) → Keeps w (badOf ob st.hp η) w bad' := fun bad' hs b o y hb hcell => ⟨fun h1 => hb (hs b h1), hcell⟩
        -- the result's rows are rows of the call's own
        have hown : ∀ b, ownB hr (ηret st.hp η (refs x)) b → ownB st.hp η b := fun b ⟨j, r, hj, hb⟩ => by
          obtain ⟨p, h1, h2⟩ := hget j r hj
          obtain ⟨_, ⟨r0, h3, h4⟩, _, _⟩ := rowOf_rep (bad' := fun _ => False) (hp' := []) (nx' := 0) h.heap h1 h2 (hin p (List.mem_of_getElem? h1)) (Keeps.none w _)
          exact ⟨p.1, r0, h3, h4 b hb⟩
        have hown2 : ∀ b, ownB hr (ηret st.hp η (refs x)) b → ∃ k r, look st.hp k = some r ∧ (∀ e l, r ≠ .cells e l) ∧ b ∈ bsOf η k r := fun b ⟨j, r, hj, hb⟩ => by
          obtain ⟨p, h1, h2⟩ := hget j r hj
          obtain ⟨_, ⟨r0, h3, h4⟩, _, _⟩ := rowOf_rep (bad' := fun _ => False) (hp' := []) (nx' := 0) h.heap h1 h2 (hin p (List.mem_of_getElem? h1)) (Keeps.none w _)
          exact ⟨p.1, r0, h3, rowOf_nc h2 h3, h4 b hb⟩
        have hkeep := hkeep0 (fun b => ob b ∨ ownB hr (ηret st.hp η (refs x)) b) (fun b hb => hb.imp id (hown b))
        have hrep : ∀ j r, look hr j = some r → ∃ p, (refs x)[j]? = some p ∧ RowRep w w0.B (fun b => ob b ∨ ownB hr (ηret st.hp η (refs x)) b) hr hr.length (ηret st.hp η (refs x)) j r ∧
            (∃ r0, look st.hp p.1 = some r0 ∧ (∀ b, b ∈ bsOf (ηret st.hp η (refs x)) j r → b ∈ bsOf η p.1 r0)) ∧ (bsOf (ηret st.hp η (refs x)) j r).Nodup := fun j r hj => by
          obtain ⟨p, h1, h2⟩ := hget j r hj
          obtain ⟨g1, g2, g3, _⟩ := rowOf_rep (hp' := hr) (nx' := hr.length) h.heap h1 h2 (hin p (List.mem_of_getElem? h1)) hkeep
          exact ⟨p, h1, g1, g2, g3⟩
        refine ⟨x', hr, ηret st.hp η (refs x), hk, ⟨fun j r hj => ?_, fun j r hj => ?_, fun j r j' r' hj hj' hne b hb hm => ?_, fun j r hj => ?_⟩, ?_, hown2⟩
        · obtain ⟨_, _, g, _⟩ := hrep j r hj; exact g
        · obtain ⟨_, _, _, _, g⟩ := hrep j r hj; exact g
        · obtain ⟨p, h1, _, ⟨r0, h2, h3⟩, _⟩ := hrep j r hj
          obtain ⟨p', h1', _, ⟨r0', h2', h3'⟩, _⟩ := hrep j' r' hj'
          exact h.heap.apart p.1 r0 p'.1 r0' h2 h2' (differ_spec hd j j' p p' h1 h1' hne) b (h3 b hb) (h3' b hm)
        · obtain ⟨p, h1, _⟩ := hget j r hj
          rw [hlen]; exact (List.getElem?_eq_some_iff.1 h1).1
        · refine (canon_rep hkeep hlen hlk' (fun j p r h1 h2 => ?_) x hc (fun j _ => by rw [Nat.zero_add]) hall hv).2
          exact (rowOf_rep (bad' := fun _ => False) (hp' := []) (nx' := 0) h.heap h1 h2 (hin p (List.mem_of_getElem? h1)) (Keeps.none w _)).2.2.2

theorem afin_sound (h : SRep w0 ob st a w η) {x : AVal} {v : Value} (hv : VR w ob st η x v) {post : AVal → List (Nat × ARow) → Prop} (hk : afin st x post) :
    ∃ x' hr ηr, post x' hr ∧ HRep w w0.B ob hr hr.length ηr ∧ VRep w (fun b => ob b ∨ ownB hr ηr b) hr hr.length ηr x' v := by
  obtain ⟨x', hr, ηr, h1, h2, h3, _⟩ := afin_sound' h hv hk
  exact ⟨x', hr, ηr, h1, h2, h3⟩

def resOf (tmps : Array Value) (r : ResultVar) : Sem Value :=
  match r with
  | .tmp t => Pure.pure (tmps.getD t undef)
  | .cell p t => do loadVar t (← asAddr (tmps.getD p undef))

theorem ares_sound (hΓ : TysOk P Γ) (h : SRep w0 ob st a w η) : ∀ {rs : List ResultVar} {K : List AVal → Prop}, ares Γ st rs K →
    ∃ xs vs, K xs ∧ VRs w ob st η xs vs ∧ (rs.mapM (resOf a.tmps)).run P w = .ok vs w
  | [], K, hk => ⟨[], [], hk, trivial, by simp⟩
  | .tmp t :: rs, K, hk => by
    simp only [ares] at hk
    cases hx : lk st t with
    | none => rw [hx] at hk; exact hk.elim
    | some x =>
      rw [hx] at hk
      obtain ⟨xs, vs, h1, h2, h3⟩ := ares_sound hΓ h hk
      exact ⟨x :: xs, _ :: vs, h1, ⟨h.tmp hx, h2⟩, by simp [List.mapM_cons, resOf, h3]⟩
  | .cell p t :: rs, K, hk => by
    simp only [ares] at hk
    cases hy : lk st p with
    | none => rw [hy] at hk; exact hk.elim
    | some y =>
      rw [hy] at hk
      simp only at hk
      split at hk
      case h_2 => exact hk.elim
      case h_1 hkey =>
        have hyv := h.tmp hy
        obtain ⟨v, x, hx, hv, hrun⟩ := aload_sound hΓ h hyv hk
        obtain ⟨xs, vs, h1, h2, h3⟩ := ares_sound hΓ h hx
        -- the slot holds an address
        have hptr : ∃ ad, a.tmps.getD p undef = .pointer (some ad) := by
          cases y with
          | ptr k off =>
            simp only at hkey
            unfold isKey at hkey
            cases hr : look st.hp k with
            | none => rw [hr] at hkey; cases hkey
            | some r => obtain ⟨_, b, _, he⟩ := hyv.2 r hr; exact ⟨_, he⟩
          | _ =>
            simp only at hkey
            unfold isKey at hkey
            cases hr : look st.hp st.nx with
            | none => rw [hr] at hkey; cases hkey
            | some r => have := h.heap.lt _ r hr; omega
        obtain ⟨ad, had⟩ := hptr
        have hrun' := hrun w (Below.refl _ _)
        rw [had, run_loadAt] at hrun'
        exact ⟨x :: xs, v :: vs, h1, ⟨hv, h2⟩, by simp [List.mapM_cons, resOf, had, asAddr, hrun', h3]⟩

theorem aret_sound (hΓ : TysOk P Γ) (h : SRep w0 ob st a w η) {fn : Func} {post : AVal → List (Nat × ARow) → Prop} (hk : aret Γ st fn.results.toList post) :
    ∃ v x' hr ηr, (results fn a.tmps).run P w = .ok v w ∧ post x' hr ∧ HRep w w0.B ob hr hr.length ηr ∧ VRep w (fun b => ob b ∨ ownB hr ηr b) hr hr.length ηr x' v := by
  obtain ⟨xs, vs, h1, h2, h3⟩ := ares_sound hΓ h hk
  have hres : (results fn a.tmps).run P w = .ok (if hh : vs.toArray.size = 1 then vs.toArray[0] else .tuple vs.toArray) w := by
    have e : results fn a.tmps = (do
        let vs ← fn.results.mapM (resOf a.tmps)
        Pure.pure (if h : vs.size = 1 then vs[0] else .tuple vs)) := rfl
    rw [e, Array.mapM_eq_mapM_toList]
    simp only [Sem.run_bind, Sem.run_map, h3, Result.andThen_ok, Sem.run_pure]
  have two : ∀ {xs : List AVal} {vs : List Value}, VRs w ob st η xs vs → vs.length ≠ 1 → afin st (.tu xs) post → (results fn a.tmps).run P w = .ok (if hh : vs.toArray.size = 1 then vs.toArray[0] else .tuple vs.toArray) w →
      ∃ v x' hr ηr, (results fn a.tmps).run P w = .ok v w ∧ post x' hr ∧ HRep w w0.B ob hr hr.length ηr ∧ VRep w (fun b => ob b ∨ ownB hr ηr b) hr hr.length ηr x' v := by
    intro xs vs h2 hne hf hres
    obtain ⟨x', hr, ηr, g1, g2, g3⟩ := afin_sound h (x := .tu xs) (v := .tuple vs.toArray) ⟨vs, rfl, h2⟩ hf
    exact ⟨_, x', hr, ηr, by rw [hres, dif_neg (by simpa using hne)], g1, g2, g3⟩
  clear h3
  match xs, vs, h2, h1, hres with
  | [x], [v], h2, h1, hres =>
    obtain ⟨x', hr, ηr, g1, g2, g3⟩ := afin_sound h h2.1 h1
    exact ⟨v, x', hr, ηr, by rw [hres]; rfl, g1, g2, g3⟩
  | [], [], h2, h1, hres => exact two h2 (by simp) h1 hres
  | x :: y :: xs, u :: v :: vs, h2, h1, hres => exact two h2 (by simp) h1 hres

def initSl : Nat → List AVal → List (Nat × AVal)
  | _, [] => []
  | i, a :: r => (i, a) :: initSl (i + 1) r

theorem init_look {bad : Nat → Prop} : ∀ {l : List AVal} {vs : List Value} {n : Nat}, VReps w bad [] 0 η0 l vs → ∀ i x, look (initSl n l) i = some x → ∃ v, n ≤ i ∧ vs[i - n]? = some v ∧ VRep w bad [] 0 η0 x v
  | [], [], n, _, i, x, h => by simp [initSl, look] at h
  | y :: l, v :: vs, n, hr, i, x, h => by
    simp only [initSl] at h
    rw [look_cons] at h
    split at h
    · rename_i hni
      simp only [Option.some.injEq] at h
      subst hni h
      exact ⟨v, Nat.le_refl _, by simp, hr.1⟩
    · obtain ⟨u, h1, h2, h3⟩ := init_look hr.2 i x h
      refine ⟨u, by omega, ?_, h3⟩
      rw [show i - n = (i - (n + 1)) + 1 by omega]
      simpa using h2
  | [], _ :: _, _, h, _, _, _ => h.elim
  | _ :: _, [], _, h, _, _, _ => h.elim

def aend (Γ : Tys) (rs : List ResultVar) (post : AVal → List (Nat × ARow) → Prop) : Exit → St → Prop
  | .ret, st => aret Γ st rs post
  | .normal, st => aret Γ st rs post
  | _, _ => False

/-- THE CONTRACT OF A FUNCTION, by its text -/
theorem fspec (hΓ : TysOk P Γ) (hm : P.follows .mixedOrders = true) {f : FuncId} {fn : Func} {c : Code} {args : List AVal} {post : AVal → List (Nat × ARow) → Prop} (hf : P.funcs[f]? = some fn) (hb : fn.body = some c)
    (hname : (fn.name == "runtime.NumGoroutine") = false) (hn : Nat.ble args.length fn.ntmps = true)
    (h : acode P Γ c ⟨fn.ntmps, initSl 0 args, [], 0⟩ (aend Γ fn.results.toList post)) : FSpec P f args post := by
  refine ⟨⟨fn, hf, hname, by rw [hb]; rfl⟩, fun w bad vs hbl hvs => ?_⟩
  refine calls_of_wp hf hb ?_
  have hle := Nat.le_of_ble_eq_true hn
  have hlen := VReps.length hvs
  have hs : SRep ⟨w, w.heap.size, fun _ => False, fun _ => undef⟩ bad ⟨fn.ntmps, initSl 0 args, [], 0⟩ { tmps := vs.toArray ++ Array.replicate (fn.ntmps - vs.toArray.size) undef, defers := [] } w η0 := by
    refine ⟨rfl, by simp; omega, Below.refl _ _, ⟨Nat.le_refl _, hbl, fun _ h => h.elim⟩, fun _ _ _ => rfl, fun b ⟨k, r, hk, _⟩ => by simp [look] at hk, ⟨fun k r hk => by simp [look] at hk, fun k r hk => by simp [look] at hk, fun k r k' r' hk => by simp [look] at hk, fun k r hk => by simp [look] at hk⟩, fun i x hi => ?_⟩
    obtain ⟨v, _, h2, h3⟩ := init_look hvs i x hi
    simp only [Nat.sub_zero] at h2
    have hlt : i < vs.length := (List.getElem?_eq_some_iff.1 h2).1
    have : (vs.toArray ++ Array.replicate (fn.ntmps - vs.toArray.size) undef).getD i undef = v := by
      rw [Array.getD_eq_getD_getElem?, Array.getElem?_append_left (by simpa using hlt)]
      simp [h2]
    simp only [this]
    refine VRep.frame (fun b o y hb hc => ⟨?_, hc⟩) (Nat.le_refl _) (fun k _ => OwnOk.refl _ _ k) (fun k _ => SubOk.refl _ _ k) h3
    rintro (h1 | ⟨j, r, hj, _⟩)
    · exact hb h1
    · simp [look] at hj
  refine wp_mono (acode_sound (w0 := ⟨w, w.heap.size, fun _ => False, fun _ => undef⟩) hΓ hm c _ _ _ w h ⟨η0, hs⟩) (fun e a' w' hl => ?_)
  obtain ⟨st', hk, η', hs'⟩ := hl
  have fin : aret Γ st' fn.results.toList post → ∃ v, (results fn a'.tmps).run P w' = .ok v w' ∧ ∃ v' x h η, Ending.returned v = .returned v' ∧ post x h ∧ Below w.heap.size w w' ∧
      HRep w' w.heap.size bad h h.length η ∧ VRep w' (fun b => bad b ∨ ownB h η b) h h.length η x v' := fun hk => by
    obtain ⟨v, x', hr, ηr, g1, g2, g3, g4⟩ := aret_sound hΓ hs' hk
    exact ⟨v, g1, v, x', hr, ηr, rfl, g2, hs'.below, g3, g4⟩
  cases e with
  | ret => exact ⟨hs'.defers, fin hk⟩
  | normal => exact ⟨hs'.defers, fin hk⟩
  | _ => exact hk.elim
end
end Go.Aw
/- The types of this program, for the engine; small facts. -/
namespace Go.Aw
theorem TyOk.of {P : Program} {t : Nat} {d : TD} {size bytes : Nat} {z : Value} {zero : List Value} (h1 : d.is P t)
    (h2 : (P.info? t).map (fun i => (i.zero, i.size, i.bytes)) = some (some z, size, bytes)) (h3 : z.cells = zero.toArray) : TyOk P t ⟨d, size, bytes, zero⟩ := by
  refine ⟨h1, ?_⟩
  obtain ⟨i, hi, he⟩ := Option.map_eq_some_iff.1 h2
  simp only [Prod.mk.injEq] at he
  exact ⟨i, z, hi, he.2.1, he.2.2, he.1, h3⟩

theorem w64 {n : Int} (h1 : -9223372036854775808 ≤ n) (h2 : n ≤ 9223372036854775807) : IntKind.i64.wrap n = n := by rw [IntKind.wrap_i64]; omega

theorem vint {k : IntKind} {a b : Int} (h : a = b) : Value.int k a = Value.int k b := by rw [h]
theorem vboo {a b : Bool} (h : a = b) : Value.bool a = Value.bool b := by rw [h]
theorem rint {e : Nat} {k : IntKind} {a b : List Int} (h : a = b) : ARow.ints e k a = ARow.ints e k b := by rw [h]
theorem rrow {e e1 : Nat} {u : Bool} {a b : List (List Int)} (h : a = b) : ARow.rows e e1 u a = ARow.rows e e1 u b := by rw [h]
theorem ltT {a b : Nat} (h : decide ((a : Int) < (b : Int)) = true) : a < b := Int.ofNat_lt.1 (of_decide_eq_true h)
theorem ltF {a b : Nat} (h : decide ((a : Int) < (b : Int)) = false) : ¬ a < b := fun hh => of_decide_eq_false h (Int.ofNat_lt.2 hh)
theorem nat_of {n : Int} {len : Nat} (h0 : 0 ≤ n) (h1 : n < len) : ∃ i : Nat, n = (i : Int) ∧ i < len := ⟨n.toNat, by omega, by omega⟩
section
variable {hp : List (Nat × ARow)} {R : List (Nat × Org)} {nx : Nat}
mutual
/-- what is closed is seen as itself -/
theorem vw_closed : ∀ (x : AVal), clo1 (fun _ _ => none) [] x = some x → vw hp R nx x x
  | .c _, _ => rfl
  | .t _, _ => rfl
  | .ag l, h => by
    simp only [clo1] at h
    split at h
    · rename_i l2 hl
      have e : l2 = l := by simpa using h
      exact vws_closed l (e ▸ hl)
    · cases h
  | .rp l o, h => by
    simp only [clo1] at h
    split at h
    · rename_i l2 hl
      have e : l2 = l := by simpa using h
      exact ⟨rfl, vws_closed l (e ▸ hl)⟩
    · cases h
  | .clo f l, h => by
    simp only [clo1] at h
    split at h
    · rename_i l2 hl
      have e : l2 = l := by simpa using h
      exact ⟨rfl, vws_closed l (e ▸ hl)⟩
    · cases h
  | .knot f l n, h => by
    simp only [clo1] at h
    split at h
    · rename_i l2 hl
      have e : l2 = l := by simpa using h
      exact ⟨rfl, rfl, vws_closed l (e ▸ hl)⟩
    · cases h
  | .nul, h => by simp [clo1] at h
  | .un, h => by simp [clo1] at h
  | .tu _, h => by simp [clo1] at h
  | .adr _ _, h => by simp [clo1] at h
  | .subp _ _ _, h => by simp [clo1] at h
  | .own _, h => by simp [clo1, look] at h
  | .sub _ _, h => by simp [clo1, look] at h
  | .ptr _ _, h => by simp [clo1] at h
theorem vws_closed : ∀ (l : List AVal), clos (fun _ _ => none) [] l = some l → vws hp R nx l l
  | [], _ => trivial
  | a :: l, h => by
    simp only [clos] at h
    split at h
    · cases h
    · rename_i b hb
      split at h
      · cases h
      · rename_i l' hl
        simp only [Option.some.injEq, List.cons.injEq] at h
        exact ⟨vw_closed a (hb.trans (congrArg some h.1)), vws_closed l (hl.trans (congrArg some h.2))⟩
end
end
section
variable {f g : Nat → Bool}
mutual
theorem flt_closed : ∀ (x : AVal), clo1 (fun _ _ => none) [] x = some x → x.flt f g = x
  | .c _, _ => rfl
  | .t _, _ => rfl
  | .ag l, h => by
    simp only [clo1] at h
    split at h
    · rename_i l2 hl
      have e : l2 = l := by simpa using h
      rw [AVal.flt, flts_closed l (e ▸ hl)]
    · cases h
  | .rp l o, h => by
    simp only [clo1] at h
    split at h
    · rename_i l2 hl
      have e : l2 = l := by simpa using h
      rw [AVal.flt, flts_closed l (e ▸ hl)]
    · cases h
  | .clo _ l, h => by
    simp only [clo1] at h
    split at h
    · rename_i l2 hl
      have e : l2 = l := by simpa using h
      rw [AVal.flt, flts_closed l (e ▸ hl)]
    · cases h
  | .knot _ l _, h => by
    simp only [clo1] at h
    split at h
    · rename_i l2 hl
      have e : l2 = l := by simpa using h
      rw [AVal.flt, flts_closed l (e ▸ hl)]
    · cases h
  | .nul, h => by simp [clo1] at h
  | .un, h => by simp [clo1] at h
  | .tu _, h => by simp [clo1] at h
  | .adr _ _, h => by simp [clo1] at h
  | .subp _ _ _, h => by simp [clo1] at h
  | .own _, h => by simp [clo1, look] at h
  | .sub _ _, h => by simp [clo1, look] at h
  | .ptr _ _, h => by simp [clo1] at h
theorem flts_closed : ∀ (l : List AVal), clos (fun _ _ => none) [] l = some l → flts f g l = l
  | [], _ => rfl
  | a :: l, h => by
    simp only [clos] at h
    split at h
    · cases h
    · rename_i b hb
      split at h
      · cases h
      · rename_i l' hl
        simp only [Option.some.injEq, List.cons.injEq] at h
        rw [flts, flt_closed a (hb.trans (congrArg some h.1)), flts_closed l (hl.trans (congrArg some h.2))]
end
end
end Go.Aw
namespace Go.Proofs.YtkjdplglenjijaaGreat
open Go.Aw
def ty : Tys := [
 (3, ⟨.int .i64, 1, 8, [.int .i64 0]⟩),
 (38, ⟨.slice 3, 1, 24, [.slice none 0 0]⟩),
 (24, ⟨.slice 38, 1, 24, [.slice none 0 0]⟩),
 (108, ⟨.int .u64, 1, 8, [.int .u64 0]⟩),
 (26, ⟨.struct [(0, 3), (1, 3), (2, 3), (3, 24)], 4, 48, [.int .i64 0, .int .i64 0, .int .i64 0, .slice none 0 0]⟩),
 (49, ⟨.array 2 3, 2, 16, [.int .i64 0, .int .i64 0]⟩),
 (5, ⟨.int .u8, 1, 1, [.int .u8 0]⟩),
 (22, ⟨.slice 5, 1, 24, [.slice none 0 0]⟩),
 (43, ⟨.int .u64, 1, 8, [.int .u64 0]⟩),
 (45, ⟨.struct [(0, 22), (1, 3), (2, 43)], 3, 40, [.slice none 0 0, .int .i64 0, .int .u64 0]⟩),
  (4, ⟨.bool, 1, 1, [.bool false]⟩)]
theorem tyOk : TysOk Tryz.prog ty :=
  ⟨TyOk.of (z := .int .i64 0) Tryz.underlying3 (by kernel_rfl) rfl,
     TyOk.of (z := .slice none 0 0) Tryz.underlying38 (by kernel_rfl) rfl,
     TyOk.of (z := .slice none 0 0) Tryz.underlying24 (by kernel_rfl) rfl,
     TyOk.of (z := .int .u64 0) Tryz.underlying108 (by kernel_rfl) rfl,
     TyOk.of (z := .agg #[.int .i64 0, .int .i64 0, .int .i64 0, .slice none 0 0]) ⟨_, Tryz.underlying26, rfl⟩ (by kernel_rfl) rfl,
     TyOk.of (z := .agg #[.int .i64 0, .int .i64 0]) Tryz.underlying49 (by kernel_rfl) rfl,
     TyOk.of (z := .int .u8 0) Tryz.underlying5 (by kernel_rfl) rfl,
     TyOk.of (z := .slice none 0 0) Tryz.underlying22 (by kernel_rfl) rfl,
     TyOk.of (z := .int .u64 0) Tryz.underlying43 (by kernel_rfl) rfl,
     TyOk.of (z := .agg #[.slice none 0 0, .int .i64 0, .int .u64 0]) ⟨_, Tryz.underlying45, rfl⟩ (by kernel_rfl) rfl,
   TyOk.of (z := .bool false) Tryz.underlying4 (by kernel_rfl) rfl,
   trivial⟩
theorem mx : Tryz.prog.follows .mixedOrders = true := by kernel_rfl
end Go.Proofs.YtkjdplglenjijaaGreat
/- Contracts of the leaves: sizes, copies, comparisons. -/
namespace Go.Proofs.YtkjdplglenjijaaGreat
open Go.Aw

theorem getD_mem {α : Type} {l : List α} {d : α} {k : Nat} (h : k < l.length) : l.getD k d ∈ l := by
  rw [List.getD_eq_getElem?_getD, List.getElem?_eq_getElem h]; exact List.getElem_mem h

/-- the tail of a size reckoning -/
def szS (l : List Int) (left : Int) : Int := if left - l.length < 0 then -1 else left - l.length



theorem set_take {α : Type} (l : List α) (d z : α) (k : Nat) (h : k < l.length) :
    (l.take k ++ List.replicate (l.length - k) z).set k (l.getD k d) = l.take (k + 1) ++ List.replicate (l.length - (k + 1)) z := by
  rw [List.set_append_right _ _ (by simp; omega)]
  rw [List.length_take, Nat.min_eq_left (by omega), Nat.sub_self]
  rw [show l.length - k = (l.length - (k + 1)) + 1 by omega, List.replicate_succ, List.set_cons_zero, List.take_succ_eq_append_getElem h]
  rw [List.getD_eq_getElem?_getD, List.getElem?_eq_getElem h, List.append_assoc]
  rfl




def szGo : List (List Int) → Int → Int
  | [], left => left
  | r :: m, left => if left - r.length < 0 then -1 else szGo m (left - r.length)

def szSS (m : List (List Int)) (left : Int) : Int := if left - m.length < 0 then -1 else szGo m (left - m.length)

theorem szGo_pos : ∀ (m : List (List Int)) (left : Int), 0 ≤ left → 0 ≤ szGo m left → (∀ r, r ∈ m → (r.length : Int) ≤ left) ∧ szGo m left ≤ left
  | [], left, _, _ => ⟨by simp, Int.le_refl _⟩
  | r :: m, left, h0, h => by
    simp only [szGo] at h ⊢
    split at h
    · omega
    · rename_i hn
      rw [if_neg hn]
      obtain ⟨h1, h2⟩ := szGo_pos m _ (by omega) h
      refine ⟨fun r' hr => ?_, by omega⟩
      rcases List.mem_cons.1 hr with rfl | hr
      · omega
      · have := h1 r' hr; omega

theorem szSS_pos {m : List (List Int)} {left : Int} (h : 0 ≤ szSS m left) : (m.length : Int) ≤ left ∧ (∀ r, r ∈ m → (r.length : Int) ≤ left) ∧ szSS m left ≤ left := by
  unfold szSS at h ⊢
  split at h
  · omega
  · rename_i hn
    rw [if_neg hn]
    obtain ⟨h1, h2⟩ := szGo_pos m _ (by omega) h
    exact ⟨by omega, fun r hr => by have := h1 r hr; omega, by omega⟩


end Go.Proofs.YtkjdplglenjijaaGreat
/- Calls that write one row of their caller; calls that are walked into. -/
namespace Go.Aw
open Go.RowKit

def plainC : List AVal → Bool
  | [] => true
  | .c _ :: r => plainC r
  | _ => false

/-- a row that leads to no other memory -/
def plainRow : ARow → Bool
  | .ints .. => true
  | .rows _ _ true _ => true
  | .cells _ l => plainC l
  | _ => false

section
variable {P : Program} {Γ : Tys} {w0 : Base} {w w' : World} {ob : Nat → Prop} {st : St} {a : Act} {η : Env}

theorem plainC_rep {bad bad' : Nat → Prop} {hp hp' : List (Nat × ARow)} {nx nx' : Nat} {η η' : Env} : ∀ {l : List AVal} {vs : List Value}, plainC l = true → VReps w bad hp nx η l vs → VReps w' bad' hp' nx' η' l vs
  | [], [], _, _ => trivial
  | .c _ :: l, _ :: vs, h, hv => ⟨hv.1, plainC_rep (l := l) (by simpa [plainC] using h) hv.2⟩
  | [], _ :: _, _, h => h.elim
  | .c _ :: _, [], _, h => h.elim
  | .un :: _, _, h, _ => by simp [plainC] at h
  | .t _ :: _, _, h, _ => by simp [plainC] at h
  | .ag _ :: _, _, h, _ => by simp [plainC] at h
  | .tu _ :: _, _, h, _ => by simp [plainC] at h
  | .own _ :: _, _, h, _ => by simp [plainC] at h
  | .sub _ _ :: _, _, h, _ => by simp [plainC] at h
  | .ptr _ _ :: _, _, h, _ => by simp [plainC] at h
  | .subp _ _ _ :: _, _, h, _ => by simp [plainC] at h
  | .adr _ _ :: _, _, h, _ => by simp [plainC] at h
  | .rp _ _ :: _, _, h, _ => by simp [plainC] at h
  | .clo _ _ :: _, _, h, _ => by simp [plainC] at h
  | .knot _ _ _ :: _, _, h, _ => by simp [plainC] at h
  | .nul :: _, _, h, _ => by simp [plainC] at h

theorem plain_rep {B : Nat} {bad bad' : Nat → Prop} {hp hp' : List (Nat × ARow)} {nx nx' k k' : Nat} {η η' : Env} : ∀ {r : ARow}, plainRow r = true → RowRep w B bad hp nx η k r → η'.val k' = η.val k → η'.cel k' = η.cel k → RowRep w B bad' hp' nx' η' k' r
  | .ints .., _, h, hv, hc => by simp only [RowRep, hv, hc]; exact h
  | .rows _ _ true _, _, h, hv, hc => by simp only [RowRep, hv, hc]; exact h
  | .rows _ _ false _, hp, _, _, _ => by simp [plainRow] at hp
  | .recs .., hp, _, _, _ => by simp [plainRow] at hp
  | .cells _ l, hp, ⟨b, h1, h2, h3, h4⟩, hv, hc => ⟨b, by rw [hv]; exact h1, h2, by rw [hc]; exact h3, by rw [hc]; exact plainC_rep (by simpa [plainRow] using hp) h4⟩

/-- A FUNCTION THAT WRITES A ROW OF ITS CALLER (key 0): it hands back a plain value, and the row holds something else -/
def MSpec (P : Program) (f : FuncId) (r0 : ARow) (args : List AVal) (post : Value → ARow → Prop) : Prop := FOk P f ∧
  ∀ (w : World) (B : Nat) (ob : Nat → Prop) (η : Env) (vs : List Value), B ≤ w.heap.size → (∀ b, ob b → b < w.heap.size) → (∀ b, b ∈ bsOf η 0 r0 → ¬ ob b) →
    HRep w B ob [(0, r0)] 1 η → VReps w (badOf ob [(0, r0)] η) [(0, r0)] 1 η args vs →
    Calls P f vs.toArray w fun e w' => ∃ v r' η', e = .returned v ∧ v.oneCell' = true ∧ post v r' ∧ Below B w w' ∧
      (∀ b, b < w.heap.size → b ∉ bsOf η 0 r0 → w'.heap[b]? = w.heap[b]?) ∧ plainRow r' = true ∧ RowRep w' B (fun _ => False) [] 0 η' 0 r' ∧ (bsOf η' 0 r').Nodup ∧
      (∀ b, b ∈ bsOf η' 0 r' → b ∈ bsOf η 0 r0 ∨ w.heap.size ≤ b) ∧ r'.kind = r0.kind ∧ η'.val 0 = η.val 0 ∧ (η'.cel 0).length = (η.cel 0).length

def exM (v0 : Value) (r1 : ARow) : Value → ARow → Prop := fun v r => v = v0 ∧ r = r1

def ghostOf : ARow → AVal
  | .cells .. => .ptr 0 0
  | _ => .own 0

def ghostOk : ARow → Bool
  | .cells _ [] => false
  | .rows _ _ false _ => false
  | .recs .. => false
  | _ => true

def isGhost (r : ARow) (x : AVal) : Bool :=
  match r, x with
  | .cells .., .ptr 0 0 => true
  | .ints .., .own 0 => true
  | .rows .., .own 0 => true
  | _, _ => false

def sameLen : ARow → ARow → Bool
  | .cells _ l, .cells _ l' => Nat.beq l.length l'.length
  | _, _ => true

def mfin (sz : Nat) (r0 : ARow) (post : Value → ARow → Prop) (st : St) (l : List AVal) : Prop :=
  match l with
  | [.c v] => match look st.sl sz with
    | some g => match look st.hp 0 with
      | some r' => match Nat.beq r'.kind r0.kind && isGhost r' g && plainRow r' && sameLen r0 r' && Nat.beq st.sz sz with
        | true => post v r'
        | false => False
      | none => False
    | none => False
  | _ => False

def mend (Γ : Tys) (rs : List ResultVar) (sz : Nat) (r0 : ARow) (post : Value → ARow → Prop) : Exit → St → Prop
  | .ret, st => ares Γ st rs (mfin sz r0 post st)
  | .normal, st => ares Γ st rs (mfin sz r0 post st)
  | _, _ => False

theorem init_look' {bad : Nat → Prop} {hp : List (Nat × ARow)} {nx : Nat} : ∀ {l : List AVal} {vs : List Value} {n : Nat}, VReps w bad hp nx η l vs → ∀ i x, look (initSl n l) i = some x → ∃ v, n ≤ i ∧ vs[i - n]? = some v ∧ VRep w bad hp nx η x v
  | [], [], n, _, i, x, h => by simp [initSl, look] at h
  | y :: l, v :: vs, n, hr, i, x, h => by
    simp only [initSl] at h
    rw [look_cons] at h
    split at h
    · rename_i hni
      simp only [Option.some.injEq] at h
      subst hni h
      exact ⟨v, Nat.le_refl _, by simp, hr.1⟩
    · obtain ⟨u, h1, h2, h3⟩ := init_look' hr.2 i x h
      refine ⟨u, by omega, ?_, h3⟩
      rw [show i - n = (i - (n + 1)) + 1 by omega]
      simpa using h2
  | [], _ :: _, _, h, _, _, _ => h.elim
  | _ :: _, [], _, h, _, _, _ => h.elim

theorem ownsRow_len {B B' e e' n n' : Nat} {v : Value} {xs xs' : List Value} (h : w.ownsRow B e 1 v n xs) (h' : w'.ownsRow B' e' 1 v n' xs') : xs'.length = xs.length := by
  have h1 := h.1
  have h1' := h'.1
  rcases h.2 with ⟨rfl, h2⟩ | ⟨g, cap, cur, rfl, _⟩ <;> rcases h'.2 with ⟨e2, h2'⟩ | ⟨g', cap', cur', e2, _⟩
  · omega
  · cases e2
  · cases e2
  · simp only [Value.slice.injEq] at e2
    omega

theorem results_run {fn : Func} {tmps : Array Value} {vs : List Value} (h3 : (fn.results.toList.mapM (resOf tmps)).run P w = .ok vs w) :
    (results fn tmps).run P w = .ok (if hh : vs.toArray.size = 1 then vs.toArray[0] else .tuple vs.toArray) w := by
  have e : results fn tmps = (do
      let vs ← fn.results.mapM (resOf tmps)
      Pure.pure (if h : vs.size = 1 then vs[0] else .tuple vs)) := rfl
  rw [e, Array.mapM_eq_mapM_toList]
  simp only [Sem.run_bind, Sem.run_map, h3, Result.andThen_ok, Sem.run_pure]

theorem ptr_blk {b : Nat} : blk (.pointer (some ⟨b, 0, none⟩)) = [b] := rfl

/-- THE CONTRACT OF SUCH A FUNCTION, by its text -/
theorem mspec (hΓ : TysOk P Γ) (hm : P.follows .mixedOrders = true) {f : FuncId} {fn : Func} {c : Code} {r0 : ARow} {args : List AVal} {post : Value → ARow → Prop} (hf : P.funcs[f]? = some fn) (hb : fn.body = some c)
    (hname : (fn.name == "runtime.NumGoroutine") = false) (hn : Nat.ble args.length fn.ntmps = true) (hg : ghostOk r0 = true)
    (h : acode P Γ c ⟨fn.ntmps, (fn.ntmps, ghostOf r0) :: initSl 0 args, [(0, r0)], 1⟩ (mend Γ fn.results.toList fn.ntmps r0 post)) : MSpec P f r0 args post := by
  refine ⟨⟨fn, hf, hname, by rw [hb]; rfl⟩, fun w B ob η vs hB hobl hfree hh hvs => ?_⟩
  refine calls_of_wp hf hb ?_
  have hle := Nat.le_of_ble_eq_true hn
  have hlen := VReps.length hvs
  have hr0 : look [(0, r0)] 0 = some r0 := rfl
  have hrow0 := hh.row 0 r0 hr0
  have hone : ∀ k r, look [(0, r0)] k = some r → k = 0 ∧ r = r0 := fun k r hk => by
    rw [look_cons] at hk
    split at hk
    · rename_i h0; exact ⟨h0.symm, (Option.some.inj hk).symm⟩
    · cases hk
  let γ : Nat → Value := fun i => if i = fn.ntmps then η.val 0 else undef
  let W0 : Base := ⟨w, B, fun b => b ∈ bsOf η 0 r0, γ⟩
  have hs : SRep W0 ob ⟨fn.ntmps, (fn.ntmps, ghostOf r0) :: initSl 0 args, [(0, r0)], 1⟩ { tmps := vs.toArray ++ Array.replicate (fn.ntmps - vs.toArray.size) undef, defers := [] } w η := by
    have hsz : (vs.toArray ++ Array.replicate (fn.ntmps - vs.toArray.size) undef).size = fn.ntmps := by simp; omega
    refine ⟨rfl, hsz, Below.refl _ _, ⟨hB, hobl, hfree⟩, fun _ _ _ => rfl, fun b ⟨k, r, hk, hb⟩ => ?_, hh, fun i x hi => ?_⟩
    · obtain ⟨rfl, rfl⟩ := hone k r hk; exact .inl hb
    · simp only at hi
      rw [look_cons] at hi
      split at hi
      · rename_i hni
        subst hni
        have hx := Option.some.inj hi
        subst hx
        have hget : (vs.toArray ++ Array.replicate (fn.ntmps - vs.toArray.size) undef).getD fn.ntmps (W0.γ fn.ntmps) = η.val 0 := by
          have : W0.γ fn.ntmps = η.val 0 := if_pos rfl
          rw [Array.getD_eq_getD_getElem?, Array.getElem?_eq_none (by rw [hsz]; exact Nat.le_refl _), this]; rfl
        rw [hget]
        match r0, hg, hrow0, hone with
        | .ints .., _, _, hone => exact ⟨Nat.one_pos, fun r hk => by obtain ⟨_, rfl⟩ := hone 0 r hk; exact ⟨by simp [ARow.kind], rfl⟩⟩
        | .rows _ _ true _, _, _, hone => exact ⟨Nat.one_pos, fun r hk => by obtain ⟨_, rfl⟩ := hone 0 r hk; exact ⟨by simp [ARow.kind], rfl⟩⟩
        | .rows _ _ false _, hg, _, _ => simp [ghostOk] at hg
        | .cells _ [], hg, _, _ => simp [ghostOk] at hg
        | .recs .., hg, _, _ => simp [ghostOk] at hg
        | .cells _ (y :: l), _, hrow0, _ =>
          obtain ⟨b, h1, _, _, h4⟩ := hrow0
          have := VReps.length h4
          exact ⟨Nat.one_pos, fun r _ => ⟨by rw [← this]; simp, b, by rw [h1]; rfl, h1⟩⟩
      · rename_i hni
        obtain ⟨v, _, h2, h3⟩ := init_look' hvs i x hi
        simp only [Nat.sub_zero] at h2
        have hlt : i < vs.length := (List.getElem?_eq_some_iff.1 h2).1
        have : (vs.toArray ++ Array.replicate (fn.ntmps - vs.toArray.size) undef).getD i (W0.γ i) = v := by
          rw [Array.getD_eq_getD_getElem?, Array.getElem?_append_left (by simpa using hlt)]
          simp [h2]
        rw [this]
        exact h3
  refine wp_mono (acode_sound (w0 := W0) hΓ hm c _ _ _ w h ⟨η, hs⟩) (fun e a' w' hl => ?_)
  obtain ⟨st', hk, η', hs'⟩ := hl
  have fin : ares Γ st' fn.results.toList (mfin fn.ntmps r0 post st') → ∃ v, (results fn a'.tmps).run P w' = .ok v w' ∧ ∃ v' r' η', Ending.returned v = .returned v' ∧ v'.oneCell' = true ∧ post v' r' ∧ Below B w w' ∧
      (∀ b, b < w.heap.size → b ∉ bsOf η 0 r0 → w'.heap[b]? = w.heap[b]?) ∧ plainRow r' = true ∧ RowRep w' B (fun _ => False) [] 0 η' 0 r' ∧ (bsOf η' 0 r').Nodup ∧
      (∀ b, b ∈ bsOf η' 0 r' → b ∈ bsOf η 0 r0 ∨ w.heap.size ≤ b) ∧ r'.kind = r0.kind ∧ η'.val 0 = η.val 0 ∧ (η'.cel 0).length = (η.cel 0).length   := fun hk => by
    obtain ⟨xs, us, h1, h2, h3⟩ := ares_sound hΓ hs' hk
    have hres := results_run h3
    unfold mfin at h1
    split at h1
    case h_2 => exact h1.elim
    case h_1 v =>
      split at h1
      case h_2 => exact h1.elim
      case h_1 g hgl =>
        split at h1
        case h_2 => exact h1.elim
        case h_1 r' hr' =>
          split at h1
          case h_2 => exact h1.elim
          case h_1 hc =>
            simp only [Bool.and_eq_true] at hc
            obtain ⟨⟨⟨⟨c1, c2⟩, c3⟩, c4⟩, c5⟩ := hc
            have hsz' := Nat.eq_of_beq_eq_true c5
            have hkind := Nat.eq_of_beq_eq_true c1
            match us, h2 with
            | [u], h2 =>
              obtain ⟨rfl, hone'⟩ := h2.1
              have hrow' := hs'.heap.row 0 r' hr'
              have hval : η'.val 0 = η.val 0 := by
                have hslot := hs'.slot _ _ hgl
                have hget : a'.tmps.getD fn.ntmps (W0.γ fn.ntmps) = η.val 0 := by
                  have e1 : W0.γ fn.ntmps = η.val 0 := if_pos rfl
                  rw [Array.getD_eq_getD_getElem?, Array.getElem?_eq_none (by rw [hs'.size, hsz']; exact Nat.le_refl _), e1]; rfl
                rw [hget] at hslot
                clear hgl
                match r', g, c2, hrow', hslot, hr' with
                | .ints .., .own 0, _, _, hslot, hr' => exact ((hslot.2 _ hr').2).symm
                | .rows .., .own 0, _, _, hslot, hr' => exact ((hslot.2 _ hr').2).symm
                | .cells .., .ptr 0 0, _, ⟨b, e1, _⟩, hslot, hr' =>
                  obtain ⟨_, b', e2, e3⟩ := hslot.2 _ hr'
                  rw [e1, ptr_blk] at e2
                  simp only [List.cons.injEq, and_true] at e2
                  rw [e1, e3, e2]
              have hlen' : (η'.cel 0).length = (η.cel 0).length := by
                have l1 := row_len hrow'
                have l0 := row_len hrow0
                clear hs hs' hr' hgl h
                match r0, r', hkind, c4, hrow0, hrow', l0, l1 with
                | .recs .., .recs .., _, _, g0, g1, l0, l1 =>
                  have c3' := c3; simp [plainRow] at c3'
                | .recs .., .ints .., hk, _, _, _, _, _ => simp [ARow.kind] at hk
                | .recs .., .rows _ _ true _, hk, _, _, _, _, _ => simp [ARow.kind] at hk
                | .recs .., .rows _ _ false _, hk, _, _, _, _, _ => simp [ARow.kind] at hk
                | .recs .., .cells .., hk, _, _, _, _, _ => simp [ARow.kind] at hk
                | .ints .., .recs .., hk, _, _, _, _, _ => simp [ARow.kind] at hk
                | .rows _ _ true _, .recs .., hk, _, _, _, _, _ => simp [ARow.kind] at hk
                | .rows _ _ false _, .recs .., hk, _, _, _, _, _ => simp [ARow.kind] at hk
                | .cells .., .recs .., hk, _, _, _, _, _ => simp [ARow.kind] at hk
                | .ints .., .ints .., _, _, g0, g1, l0, l1 =>
                  have q0 := g0.1; have q1 := g1.1
                  rw [hval] at q1
                  have := ownsRow_len q0 q1
                  simp only [List.length_map] at this
                  simp only at l0 l1
                  omega
                | .rows _ _ true _, .rows _ _ true _, _, _, g0, g1, l0, l1 =>
                  have q0 := g0.1; have q1 := g1.1
                  rw [hval] at q1
                  exact ownsRow_len q0 q1
                | .rows _ _ false _, .rows _ _ false _, _, _, g0, g1, l0, l1 =>
                  have q0 := g0.1; have q1 := g1.1
                  rw [hval] at q1
                  exact ownsRow_len q0 q1
                | .cells _ l, .cells _ l', _, c4, g0, g1, l0, l1 =>
                  have := Nat.eq_of_beq_eq_true c4
                  simp only at l0 l1
                  omega
                | .ints .., .rows _ _ true _, hk, _, _, _, _, _ => simp [ARow.kind] at hk
                | .ints .., .rows _ _ false _, hk, _, _, _, _, _ => simp [ARow.kind] at hk
                | .ints .., .cells .., hk, _, _, _, _, _ => simp [ARow.kind] at hk
                | .rows _ _ true _, .ints .., hk, _, _, _, _, _ => simp [ARow.kind] at hk
                | .rows _ _ true _, .rows _ _ false _, hk, _, _, _, _, _ => simp [ARow.kind] at hk
                | .rows _ _ true _, .cells .., hk, _, _, _, _, _ => simp [ARow.kind] at hk
                | .rows _ _ false _, .ints .., hk, _, _, _, _, _ => simp [ARow.kind] at hk
                | .rows _ _ false _, .rows _ _ true _, hk, _, _, _, _, _ => simp [ARow.kind] at hk
                | .rows _ _ false _, .cells .., hk, _, _, _, _, _ => simp [ARow.kind] at hk
                | .cells .., .ints .., hk, _, _, _, _, _ => simp [ARow.kind] at hk
                | .cells .., .rows _ _ true _, hk, _, _, _, _, _ => simp [ARow.kind] at hk
                | .cells .., .rows _ _ false _, hk, _, _, _, _, _ => simp [ARow.kind] at hk
              refine ⟨_, by rw [hres]; rfl, u, r', η', rfl, hone', h1, hs'.below, fun b hb hnb => hs'.frame b hb hnb, c3, plain_rep c3 hrow' rfl rfl, hs'.heap.nodup 0 r' hr', fun b hb => hs'.src b ⟨0, r', hr', hb⟩, hkind, hval, hlen'⟩
  cases e with
  | ret => exact ⟨hs'.defers, fin hk⟩
  | normal => exact ⟨hs'.defers, fin hk⟩
  | _ => exact hk.elim
end
end Go.Aw
/- Calls that write one row of their caller, at the caller; calls that are walked into. -/
namespace Go.Aw
open Go.RowKit

section
variable {P : Program} {Γ : Tys} {w0 : Base} {w w' : World} {ob : Nat → Prop} {st : St} {a : Act} {η : Env}

/-- a row has become another of its kind -/
theorem SRep.mut (h : SRep w0 ob st a w η) {k : Nat} {r r' : ARow} {cs' : List Value} (hr : look st.hp k = some r) (hkind : r'.kind = r.kind) (hlen : (η.cel k).length ≤ cs'.length)
    (hw : ∀ b, b < w.heap.size → b ∉ bsOf η k r → w'.heap[b]? = w.heap[b]?) (hB : Below w0.B w w')
    (hnd : (bsOf (η.upd k (η.val k) cs') k r').Nodup) (hfr : ∀ b, b ∈ bsOf (η.upd k (η.val k) cs') k r' → b ∈ bsOf η k r ∨ w.heap.size ≤ b)
    (hrow : ∀ bad hp nx, RowRep w' w0.B bad hp nx (η.upd k (η.val k) cs') k r') :
    SRep w0 ob ((st.killSub k).upd k r') a w' (η.upd k (η.val k) cs') := by
  have hoth : ∀ j r1, j ≠ k → look ((st.killSub k).upd k r').hp j = some r1 → ∃ r, look st.hp j = some r ∧ r1 = r.flt (fun _ => true) (ne k) := fun j r1 hj h1 => by
    simp only [St.upd, St.killSub, look_upd, if_neg (Ne.symm hj), look_fltH] at h1
    obtain ⟨r, h2, rfl⟩ := Option.map_eq_some_iff.1 h1
    exact ⟨r, h2, rfl⟩
  have hk' : look ((st.killSub k).upd k r').hp k = some r' := by simp only [St.upd, look_upd, if_true]
  have hok : ∀ j, j < st.nx → OwnOk st.hp η ((st.killSub k).upd k r').hp (η.upd k (η.val k) cs') j := fun j _ => by
    by_cases hjk : j = k
    · subst hjk
      exact ⟨fun r1 h1 => by rw [hk'] at h1; obtain rfl := Option.some.inj h1; exact ⟨r, hr, hkind.symm, upd_val _ _ _ _, by rw [upd_cel]; exact hlen⟩⟩
    · exact OwnOk.of (fun r1 h1 => by obtain ⟨r, h2, rfl⟩ := hoth j r1 hjk h1; exact ⟨r, h2, (kind_flt _ _ r).symm⟩) (upd_ne _ _ _ _ j hjk).1 (upd_ne _ _ _ _ j hjk).2
  have hsk : ∀ j, j < st.nx → ne k j = true → SubOk st.hp η ((st.killSub k).upd k r').hp (η.upd k (η.val k) cs') j := fun j _ hj => by
    have hjk := (ne_spec k j).1 hj
    exact SubOk.of (fun r1 h1 => by obtain ⟨r, h2, rfl⟩ := hoth j r1 hjk h1; exact ⟨r, h2, (kind_flt _ _ r).symm⟩) (upd_ne _ _ _ _ j hjk).2
  obtain ⟨hh, hkp⟩ := HRep.step (k := k) (hp' := ((st.killSub k).upd k r').hp) (nx' := st.nx) (η' := η.upd k (η.val k) cs') (w' := w') h.heap (fun _ => true) (ne k) r' (h.heap.lt k r hr) (Nat.le_refl _)
    (fun j r1 hj h1 => hoth j r1 hj h1) hk' (fun j hj => upd_ne _ _ _ _ j hj)
    (fun b hb hn => hw b hb (hn r hr)) (fun j hj _ => hok j hj) hsk hnd
    (fun b hb => (hfr b hb).imp (fun h1 => ⟨k, r, hr, h1, .inl rfl⟩) id) (fun _ => hrow _ _ _)
  exact h.heapStep (fun _ => true) (ne k) hB hh hkp (Nat.le_refl _) (fun j hj _ => hok j hj) hsk

/-- what becomes of the caller's row -/
def backRow (st : St) (s : Org) (r' : ARow) : Option (Nat × ARow) :=
  match s with
  | .row k => some (k, r')
  | .sub k i => match look st.hp k with
    | some (.rows e e1 true m) => match r' with
      | .ints e2 .i64 l => match Nat.beq e2 e1 with
        | true => some (k, .rows e e1 true (m.set i l))
        | false => none
      | _ => none
    | _ => none
  | .nil => none

theorem distinct_one (s : Org) : distinct [(0, s)] = true := by cases s <;> rfl

theorem ACallS.mutK {f : FuncId} {args args0 : List AVal} {r0 : ARow} {K : AVal → St → Prop} {post : Value → ARow → Prop} (s : Org) (hs : MSpec P f r0 args0 post)
    (hv : vws st.hp [(0, s)] 1 args args0) (hr : rowVw st.hp [(0, s)] 1 s r0)
    (hk : ∀ v r', post v r' → match backRow st s r' with | some (k, r1) => K (.c v) ((st.killSub k).upd k r1) | none => False) : ACallS P st f args K := by
  refine ⟨hs.1, fun w0 ob a w η h vs hvs => ?_⟩
  have hrv : rowsVw st.hp [(0, s)] 1 [(0, r0)] := ⟨rfl, hr, trivial⟩
  have hfree : ∀ b, ownB st.hp η b → ¬ ob b := fun b hb => h.free hb
  have hh0 := View.heap (R := [(0, s)]) (nx' := 1) h.heap hfree (distinct_one s) hrv
  have ha0 := vws_sound (R := [(0, s)]) (nx' := 1) h.heap hfree hrv args args0 hv hvs
  have hs0 : look [((0 : Nat), s)] 0 = some s := rfl
  obtain ⟨hb0, _⟩ := vw_blocks (R := [(0, s)]) (j := 0) h.heap hs0 hr
  refine (hs.2 w w0.B ob (ηV st.hp η [(0, s)]) vs (wB h) (fun b hb => h.badlt (.inl hb)) (fun b hb => ?_) hh0 ha0).mono ?_
  · obtain ⟨k, r, _, h2, h3⟩ := hb0 b hb
    exact hfree b ⟨k, r, h2, h3⟩
  · rintro e w' ⟨v, r', η', rfl, hone, hp, hbel, hfrm, hplain, hrow, hnd, hsrc, hkind, hval, hlen⟩
    have hk' := hk v r' hp
    cases s with
    | nil => exact hk'.elim
    | row k =>
      obtain ⟨r, h1, h2⟩ := rowVw_kind (hp := st.hp) (R := [(0, .row k)]) (nx' := 1) hr
      have hv0 : (ηV st.hp η [(0, Org.row k)]).val 0 = η.val k := rfl
      have hc0 : (ηV st.hp η [(0, Org.row k)]).cel 0 = η.cel k := rfl
      have hbs : bsOf (ηV st.hp η [(0, Org.row k)]) 0 r0 = bsOf η k r := by simp only [bsOf, hv0, hc0, h2]
      have hu : (η.upd k (η.val k) (η'.cel 0)).val k = η'.val 0 := by rw [upd_val, hval, hv0]
      have hbs' : bsOf (η.upd k (η.val k) (η'.cel 0)) k r' = bsOf η' 0 r' := by simp only [bsOf, hu, upd_cel]
      have hs' := SRep.mut (w' := w') h (cs' := η'.cel 0) h1 (by rw [hkind, h2]) (by rw [hlen, hc0]; exact Nat.le_refl _) (fun b hb hn => hfrm b hb (by rw [hbs]; exact hn)) hbel
        (by rw [hbs']; exact hnd) (fun b hb => by rw [hbs'] at hb; rw [← hbs]; exact hsrc b hb) (fun bad hp nx => plain_rep hplain hrow hu (upd_cel _ _ _ _))
      exact ⟨v, .c v, _, _, rfl, hk', rfl, hs', rfl, hone⟩
    | sub k i =>
      simp only [backRow] at hk'
      unfold rowVw at hr
      simp only at hr
      split at hr
      case h_2 => exact hr.elim
      case h_1 e e1 m hl =>
        obtain ⟨hi, rfl⟩ := hr
        rw [hl] at hk'
        simp only at hk'
        split at hk'
        case h_2 => exact hk'.elim
        case h_1 heq =>
          split at heq
          case h_2 => cases heq
          case h_1 e2 l =>
            split at heq
            case h_2 => cases heq
            case h_1 hbe =>
              obtain rfl := Nat.eq_of_beq_eq_true hbe
              simp only [Option.some.injEq, Prod.mk.injEq] at heq
              obtain ⟨rfl, rfl⟩ := heq
              have hrow0 := h.heap.row k _ hl
              have hnd0 := h.heap.nodup k _ hl
              obtain ⟨u, hui, ho⟩ := F2.at hrow0.2 (List.getElem?_eq_getElem hi)
              have hv0 : (ηV st.hp η [(0, Org.sub k i)]).val 0 = u := getD_of hui
              have hbs0 : bsOf (ηV st.hp η [(0, Org.sub k i)]) 0 (.ints e2 .i64 (m.getD i [])) = blk u := by simp only [bsOf, ARow.kind, hv0]; simp
              have hb1 : ∀ m', bsOf η k (.rows e e2 true m') = blk (η.val k) ++ (η.cel k).flatMap blk := fun m' => by simp [bsOf, ARow.kind]
              have hin : ∀ b, b ∈ blk u → b ∈ bsOf η k (.rows e e2 true m) := fun b hb => by
                rw [hb1]; exact List.mem_append.2 (.inr (List.mem_flatMap.2 ⟨u, List.mem_of_getElem? hui, hb⟩))
              have hu : ∀ j, (η.upd k (η.val k) (η.cel k)).val j = η.val j := fun j => by by_cases hj : j = k <;> simp [Env.upd, hj]
              have hc : ∀ j, (η.upd k (η.val k) (η.cel k)).cel j = η.cel j := fun j => by by_cases hj : j = k <;> simp [Env.upd, hj]
              have hb2 : ∀ r, bsOf (η.upd k (η.val k) (η.cel k)) k r = bsOf η k r := fun r => by simp only [bsOf, hu, hc]
              rw [hb1] at hnd0
              obtain ⟨n1, n2, n3⟩ := List.nodup_append.1 hnd0
              have hrl : OwnInts w' w0.B e2 .i64 l (η'.val 0) := hrow.1
              rw [hval, hv0] at hrl
              have hs' := SRep.mut (w' := w') h (k := k) (r := .rows e e2 true m) (r' := .rows e e2 true (m.set i l)) (cs' := η.cel k) hl rfl (Nat.le_refl _)
                (fun b hb hn => hfrm b hb (by rw [hbs0]; exact fun hm => hn (hin b hm))) hbel
                (by rw [hb2, hb1]; exact hnd0) (fun b hb => by rw [hb2, hb1] at hb; exact .inl (by rw [hb1]; exact hb)) (fun bad hp nx => ?_)
              · exact ⟨v, .c v, _, _, rfl, hk', rfl, hs', rfl, hone⟩
              · refine ⟨?_, ?_⟩
                · rw [hu, hc, List.length_set]
                  refine ownsRow_same hrow0.1 (fun b hb => ?_)
                  have hlt : b < w.heap.size := (hrow0.lt b (by rw [hb1]; exact List.mem_append.2 (.inl hb))).2
                  refine hfrm b hlt ?_
                  rw [hbs0]; intro hm
                  exact n3 b hb b (List.mem_flatMap.2 ⟨u, List.mem_of_getElem? hui, hm⟩) rfl
                · rw [hc]
                  refine F2.intro (by rw [List.length_set]; exact F2.length hrow0.2) (fun j l1 u1 hj1 hj2 => ?_)
                  by_cases hji : j = i
                  · subst hji
                    rw [List.getElem?_set_self hi] at hj1
                    rw [hui] at hj2
                    obtain rfl := Option.some.inj hj1
                    obtain rfl := Option.some.inj hj2
                    exact hrl
                  · rw [List.getElem?_set_ne (Ne.symm hji)] at hj1
                    obtain ⟨u2, hu2, ho2⟩ := F2.at hrow0.2 hj1
                    rw [hj2] at hu2
                    obtain rfl := Option.some.inj hu2
                    refine ownsRow_same ho2 (fun b hb => ?_)
                    have hlt : b < w.heap.size := (hrow0.lt b (by rw [hb1]; exact List.mem_append.2 (.inr (List.mem_flatMap.2 ⟨u1, List.mem_of_getElem? hj2, hb⟩)))).2
                    refine hfrm b hlt ?_
                    rw [hbs0]; intro hm
                    exact flat_apart n2 hj2 hui hji b hb hm

theorem ACallS.mut {f : FuncId} {args args0 : List AVal} {r0 r1 : ARow} {v : Value} {K : AVal → St → Prop} (s : Org) (hs : MSpec P f r0 args0 (exM v r1))
    (hk : match backRow st s r1 with | some (k, r2) => K (.c v) ((st.killSub k).upd k r2) | none => False)
    (hv : vws st.hp [(0, s)] 1 args args0) (hr : rowVw st.hp [(0, s)] 1 s r0) : ACallS P st f args K :=
  ACallS.mutK s hs hv hr (fun _ _ e => by obtain ⟨rfl, rfl⟩ := e; exact hk)

/-! ### a call that is walked into -/
def ghosts (d : Nat) : List (Nat × AVal) → List (Nat × AVal)
  | [] => []
  | (i, x) :: r => (d + i, x) :: ghosts d r

def unghost (d : Nat) : List (Nat × AVal) → List (Nat × AVal)
  | [] => []
  | (i, x) :: r => match Nat.ble d i with
    | true => (i - d, x) :: unghost d r
    | false => unghost d r

theorem look_ghosts (d : Nat) : ∀ (l : List (Nat × AVal)) (i : Nat), look (ghosts d l) i = if d ≤ i then look l (i - d) else none
  | [], i => by simp [ghosts, look]
  | (j, x) :: r, i => by
    simp only [ghosts, look_cons, look_ghosts d r i]
    by_cases h1 : d ≤ i
    · simp only [h1, if_true]
      by_cases h2 : d + j = i
      · rw [if_pos h2, if_pos (by omega)]
      · rw [if_neg h2, if_neg (by omega)]
    · simp only [h1, if_false]
      rw [if_neg (by omega)]

theorem look_unghost (d : Nat) : ∀ (l : List (Nat × AVal)) (i : Nat), look (unghost d l) i = look l (d + i)
  | [], i => by simp [unghost, look]
  | (j, x) :: r, i => by
    simp only [unghost, look_cons]
    cases hb : Nat.ble d j with
    | true =>
      have := Nat.le_of_ble_eq_true hb
      simp only [look_cons, look_unghost d r i]
      by_cases h2 : j = d + i
      · rw [if_pos (by omega), if_pos h2]
      · rw [if_neg (by omega), if_neg h2]
    | false =>
      have : ¬ d ≤ j := fun h => by rw [Nat.ble_eq_true_of_le h] at hb; cases hb
      simp only [look_unghost d r i]
      rw [if_neg (by omega)]

def iend (Γ : Tys) (rs : List ResultVar) (sz sz0 : Nat) (K : AVal → St → Prop) : Exit → St → Prop
  | .ret, st => Nat.beq st.sz sz = true ∧ ares Γ st rs fun l => frG (unghost sz st.sl) fun sl => K (match l with | [x] => x | l => .tu l) ⟨sz0, sl, st.hp, st.nx⟩
  | .normal, st => Nat.beq st.sz sz = true ∧ ares Γ st rs fun l => frG (unghost sz st.sl) fun sl => K (match l with | [x] => x | l => .tu l) ⟨sz0, sl, st.hp, st.nx⟩
  | _, _ => False

def iend' (Γ : Tys) (rs : List ResultVar) (sz sz0 : Nat) (K : AVal → St → Prop) : Exit → St → Prop
  | .ret, st => Nat.beq st.sz sz = true ∧ ares Γ st rs fun l => K (match l with | [x] => x | l => .tu l) ⟨sz0, unghost sz st.sl, st.hp, st.nx⟩
  | .normal, st => Nat.beq st.sz sz = true ∧ ares Γ st rs fun l => K (match l with | [x] => x | l => .tu l) ⟨sz0, unghost sz st.sl, st.hp, st.nx⟩
  | _, _ => False

theorem look_app (l r : List (Nat × AVal)) (i : Nat) : look (l ++ r) i = match look l i with | some x => some x | none => look r i := by rw [look_append]; cases look l i <;> rfl

theorem ACallS.inline (hΓ : TysOk P Γ) (hm : P.follows .mixedOrders = true) {f : FuncId} {fn : Func} {c : Code} {args : List AVal} {K : AVal → St → Prop} (hf : P.funcs[f]? = some fn) (hb : fn.body = some c)
    (hname : (fn.name == "runtime.NumGoroutine") = false) (hn : Nat.ble args.length fn.ntmps = true)
    (h : frG (initSl 0 args ++ ghosts fn.ntmps st.sl) fun sl => acode P Γ c ⟨fn.ntmps, sl, st.hp, st.nx⟩ (iend Γ fn.results.toList fn.ntmps st.sz K)) : ACallS P st f args K := by
  rw [frG_eq] at h
  refine ⟨⟨fn, hf, hname, by rw [hb]; rfl⟩, fun w0 ob a w η hsr vs hvs => ?_⟩
  refine calls_of_wp hf hb ?_
  have hle := Nat.le_of_ble_eq_true hn
  have hlen := VReps.length hvs
  let γ : Nat → Value := fun i => a.tmps.getD (i - fn.ntmps) (w0.γ (i - fn.ntmps))
  let W0 : Base := ⟨w0.w, w0.B, w0.may, γ⟩
  have hsz : (vs.toArray ++ Array.replicate (fn.ntmps - vs.toArray.size) undef).size = fn.ntmps := by simp; omega
  have hs : SRep W0 ob ⟨fn.ntmps, initSl 0 args ++ ghosts fn.ntmps st.sl, st.hp, st.nx⟩ { tmps := vs.toArray ++ Array.replicate (fn.ntmps - vs.toArray.size) undef, defers := [] } w η := by
    refine ⟨rfl, hsz, hsr.below, ⟨hsr.base.le, hsr.base.obl, hsr.base.may⟩, hsr.frame, hsr.src, hsr.heap, fun i x hi => ?_⟩
    simp only at hi
    rw [look_app] at hi
    cases hl : look (initSl 0 args) i with
    | some y =>
      rw [hl] at hi
      simp only [Option.some.injEq] at hi
      subst hi
      obtain ⟨v, _, h2, h3⟩ := init_look' hvs i y hl
      simp only [Nat.sub_zero] at h2
      have hlt : i < vs.length := (List.getElem?_eq_some_iff.1 h2).1
      have : (vs.toArray ++ Array.replicate (fn.ntmps - vs.toArray.size) undef).getD i (W0.γ i) = v := by
        rw [Array.getD_eq_getD_getElem?, Array.getElem?_append_left (by simpa using hlt)]
        simp [h2]
      rw [this]
      exact h3
    | none =>
      rw [hl] at hi
      simp only [look_ghosts] at hi
      split at hi
      case isFalse => cases hi
      case isTrue hge =>
        have : (vs.toArray ++ Array.replicate (fn.ntmps - vs.toArray.size) undef).getD i (W0.γ i) = a.tmps.getD (i - fn.ntmps) (w0.γ (i - fn.ntmps)) := by
          rw [Array.getD_eq_getD_getElem?, Array.getElem?_eq_none (by rw [hsz]; exact hge)]; rfl
        rw [this]
        exact hsr.slot _ _ hi
  refine wp_mono (acode_sound (w0 := W0) hΓ hm c _ _ _ w h ⟨η, hs⟩) (fun e a' w' hl => ?_)
  obtain ⟨st', hk, η', hs'⟩ := hl
  have hk : iend' Γ fn.results.toList fn.ntmps st.sz K e st' := by
    cases e <;> simp only [iend, frG_eq] at hk <;> exact hk
  have fin : Nat.beq st'.sz fn.ntmps = true ∧ ares Γ st' fn.results.toList (fun l => K (match l with | [x] => x | l => .tu l) ⟨st.sz, unghost fn.ntmps st'.sl, st'.hp, st'.nx⟩) → ∃ v, (results fn a'.tmps).run P w' = .ok v w' ∧
      ∃ v' x st' η', Ending.returned v = .returned v' ∧ K x st' ∧ st'.sz = st.sz ∧ SRep w0 ob st' a w' η' ∧ VRep w' (fun b => ob b ∨ ownB st'.hp η' b) st'.hp st'.nx η' x v' := fun ⟨he, hk⟩ => by
    have hsz' := Nat.eq_of_beq_eq_true he
    obtain ⟨xs, us, h1, h2, h3⟩ := ares_sound hΓ hs' hk
    have hres := results_run h3
    have back : SRep w0 ob ⟨st.sz, unghost fn.ntmps st'.sl, st'.hp, st'.nx⟩ a w' η' := by
      refine ⟨hsr.defers, hsr.size, hs'.below, hsr.base, hs'.frame, hs'.src, hs'.heap, fun i x hi => ?_⟩
      simp only [look_unghost] at hi
      have := hs'.slot _ x hi
      have hg : a'.tmps.getD (fn.ntmps + i) (W0.γ (fn.ntmps + i)) = a.tmps.getD i (w0.γ i) := by
        rw [Array.getD_eq_getD_getElem?, Array.getElem?_eq_none (by rw [hs'.size, hsz']; omega)]
        show γ (fn.ntmps + i) = _
        simp only [γ, Nat.add_sub_cancel_left]
      rw [hg] at this
      exact this
    have two : ∀ {xs : List AVal} {us : List Value}, VRs w' ob st' η' xs us → us.length ≠ 1 → K (.tu xs) ⟨st.sz, unghost fn.ntmps st'.sl, st'.hp, st'.nx⟩ → (results fn a'.tmps).run P w' = .ok (if hh : us.toArray.size = 1 then us.toArray[0] else .tuple us.toArray) w' →
        ∃ v, (results fn a'.tmps).run P w' = .ok v w' ∧
      ∃ v' x st' η', Ending.returned v = .returned v' ∧ K x st' ∧ st'.sz = st.sz ∧ SRep w0 ob st' a w' η' ∧ VRep w' (fun b => ob b ∨ ownB st'.hp η' b) st'.hp st'.nx η' x v' := by
      intro xs us h2 hne hK hres
      exact ⟨_, by rw [hres, dif_neg (by simpa using hne)], _, .tu xs, _, η', rfl, hK, rfl, back, us, rfl, h2⟩
    clear h3
    match xs, us, h2, h1, hres with
    | [x], [u], h2, h1, hres => exact ⟨u, by rw [hres]; rfl, u, x, _, η', rfl, h1, rfl, back, h2.1⟩
    | [], [], h2, h1, hres => exact two h2 (by simp) h1 hres
    | x :: y :: xs, u :: v :: us, h2, h1, hres => exact two h2 (by simp) h1 hres
  cases e with
  | ret => exact ⟨hs'.defers, fin hk⟩
  | normal => exact ⟨hs'.defers, fin hk⟩
  | _ => exact hk.elim

/-- what is there, told otherwise ahead of a call -/
theorem ACallS.view {f : FuncId} {args args' : List AVal} {K : AVal → St → Prop} {R : List (Nat × Org)} {st' : St} (hs : View R st st') (hv : vws st.hp R st'.nx args args') (h : ACallS P st' f args' K) : ACallS P st f args K := by
  refine ⟨h.fok, fun w0 ob a w η hr vs hvs => (h.run w0 ob a w _ (hs.rep hr) vs (vws_sound hr.heap (fun b hb => hr.free hb) hs.hp args args' hv hvs)).mono ?_⟩
  rintro e w' ⟨v, x, st2, η', rfl, hk, hsz, hs', hx⟩
  exact ⟨v, x, st2, η', rfl, hk, by rw [hsz, hs.sz], hs', hx⟩

/-- what is handed back, told otherwise -/
theorem FSpec.view {f : FuncId} {args : List AVal} {post post' : AVal → List (Nat × ARow) → Prop} (h : FSpec P f args post)
    (hv : ∀ x hr, post x hr → ∃ R x' hr', distinct R = true ∧ rowsVw hr R hr'.length hr' ∧ vw hr R hr'.length x x' ∧ post' x' hr') : FSpec P f args post' := by
  refine ⟨h.1, fun w bad vs hbl hvs => (h.2 w bad vs hbl hvs).mono ?_⟩
  rintro e w' ⟨v, x, hr, η, rfl, hp, hb, hh, hx⟩
  obtain ⟨R, x', hr', h1, h2, h3, h4⟩ := hv x hr hp
  have hfree : ∀ b, ownB hr η b → ¬ bad b := fun b ⟨k, r, hk, hm⟩ hbad => by
    have := ((hh.row k r hk).lt b hm).1
    have := hbl b hbad
    omega
  exact ⟨v, x', hr', ηV hr η R, rfl, h4, hb, View.heap hh hfree h1 h2, vw_sound hh hfree h2 x x' h3 hx⟩
end
end Go.Aw
/- Marks: what the laws write into what they were handed. -/
namespace Go.Aw
def marks (k : Int) (n : Nat) : List Int := (List.range n).map fun i : Nat => k + (i : Int)
def marksR : Int → List (List Int) → List (List Int)
  | _, [] => []
  | k, r :: m => marks k r.length :: marksR (k + r.length) m
def tot : List (List Int) → Nat
  | [] => 0
  | r :: m => r.length + tot m
theorem marksR_length : ∀ (k : Int) (m : List (List Int)), (marksR k m).length = m.length
  | _, [] => rfl
  | k, _ :: m => by simp [marksR, marksR_length _ m]
theorem tot_append : ∀ (m m' : List (List Int)), tot (m ++ m') = tot m + tot m'
  | [], _ => by simp [tot]
  | r :: m, m' => by simp [tot, tot_append m m', Nat.add_assoc]
theorem tot_take_le : ∀ (m : List (List Int)) (i : Nat), tot (m.take i) ≤ tot m
  | [], _ => by simp [tot]
  | _ :: _, 0 => by simp [tot]
  | r :: m, i + 1 => by have := tot_take_le m i; simp [tot]; exact this
theorem tot_take_succ : ∀ (m : List (List Int)) (i : Nat), i < m.length → tot (m.take (i + 1)) = tot (m.take i) + (m.getD i []).length
  | [], _, h => by simp at h
  | r :: m, 0, _ => by simp [tot]
  | r :: m, i + 1, h => by have := tot_take_succ m i (by simpa using h); simp [tot] at this ⊢; omega
theorem marksR_append : ∀ (k : Int) (m m' : List (List Int)), marksR k (m ++ m') = marksR k m ++ marksR (k + tot m) m'
  | _, [], _ => by simp [marksR, tot]
  | k, r :: m, m' => by simp [marksR, marksR_append _ m m', tot, Int.add_assoc]
theorem marksR_take_succ (k : Int) (m : List (List Int)) (i : Nat) (h : i < m.length) : marksR k (m.take (i + 1)) = marksR k (m.take i) ++ [marks (k + tot (m.take i)) (m.getD i []).length] := by
  rw [List.take_succ_eq_append_getElem h, marksR_append]
  simp [marksR, List.getD, h]
theorem marksR_get : ∀ (k : Int) (m : List (List Int)) (i : Nat), i < m.length → (marksR k m).getD i [] = marks (k + tot (m.take i)) (m.getD i []).length
  | _, [], _, h => by simp at h
  | k, r :: m, 0, _ => by simp [marksR, tot]
  | k, r :: m, i + 1, h => by
    have := marksR_get (k + r.length) m i (by simpa using h)
    simp only [marksR, List.getD_cons_succ, List.take_succ_cons, tot]
    rw [this, Int.add_assoc]; simp
theorem marks_length (k : Int) (n : Nat) : (marks k n).length = n := by simp [marks]
theorem marks_get {k : Int} {n i : Nat} (h : i < n) : (marks k n).getD i 0 = k + i := by simp [marks, List.getD, h]
theorem tot_mem : ∀ {m : List (List Int)} {r : List Int}, r ∈ m → r.length ≤ tot m
  | [], _, h => by simp at h
  | q :: m, r, h => by
    rcases List.mem_cons.1 h with rfl | h
    · simp [tot]
    · have := tot_mem h; simp [tot]; omega
def InR (n : Int) : Prop := -9223372036854775808 ≤ n ∧ n ≤ 9223372036854775807
def OkI (l : List Int) : Prop := l.length ≤ 9223372036854775807 ∧ ∀ x, x ∈ l → InR x
def OkM (m : List (List Int)) : Prop := m.length ≤ 9223372036854775807 ∧ ∀ r, r ∈ m → OkI r
theorem OkM.len {m : List (List Int)} (h : OkM m) : ∀ r, r ∈ m → r.length ≤ 9223372036854775807 := fun r hr => (h.2 r hr).1
def SzI (l : List Int) : Prop := l.length ≤ 1048576
def SzM (m : List (List Int)) : Prop := m.length + tot m ≤ 1048576
theorem SzM.all {m : List (List Int)} (h : SzM m) : m.length ≤ 1048576 ∧ (∀ r, r ∈ m → r.length ≤ 1048576) ∧ tot m ≤ 1048576 := by
  unfold SzM at h
  exact ⟨by omega, fun r hr => by have := tot_mem hr; omega, by omega⟩
end Go.Aw
namespace Go.Proofs.YtkjdplglenjijaaGreat
open Go.Aw
theorem szGo_tot : ∀ {m : List (List Int)} {left : Int}, 0 ≤ szGo m left → szGo m left = left - tot m
  | [], left, _ => by simp [szGo, tot]
  | r :: m, left, h => by
    simp only [szGo] at h ⊢
    split at h
    · omega
    · rename_i hn
      rw [if_neg hn, szGo_tot h]
      simp [tot]
      omega
theorem szSS_tot {m : List (List Int)} {left : Int} (h : 0 ≤ szSS m left) : 0 ≤ szSS m left ∧ szSS m left = left - m.length - tot m := by
  refine ⟨h, ?_⟩
  unfold szSS at h ⊢
  split at h
  · omega
  · rename_i hn
    rw [if_neg hn, szGo_tot h]

theorem marks_step (l : List Int) (k : Int) (i : Nat) (h : i < l.length) : (marks k i ++ l.drop i).set i (k + i) = marks k (i + 1) ++ l.drop (i + 1) := by
  rw [List.set_append_right _ _ (by simp [marks]), marks_length, Nat.sub_self, List.drop_eq_getElem_cons h, List.set_cons_zero]
  simp [marks, List.range_succ]




end Go.Proofs.YtkjdplglenjijaaGreat
/- Small facts and small functions that many texts use. -/
namespace Go.Aw
abbrev W (n : Int) : Int := IntKind.i64.wrap n
def fo {α : Type} (f : α → Nat → α) (a : α) : Nat → α
  | 0 => a
  | n + 1 => f (fo f a n) n
theorem fo_congr {α : Type} {f g : α → Nat → α} {a : α} : ∀ {n : Nat}, (∀ b k, k < n → f b k = g b k) → fo f a n = fo g a n
  | 0, _ => rfl
  | n + 1, h => by rw [fo, fo, fo_congr (fun b k hk => h b k (by omega)), h _ n (by omega)]
theorem nat_wrap {k : Nat} (h : k ≤ 9223372036854775806) : IntKind.i64.wrap ((k : Int) + 1) = ((k + 1 : Nat) : Int) := by rw [w64 (by omega) (by omega)]; omega
theorem map_range_succ {α : Type} (f : Nat → α) (k : Nat) : (List.range k).map f ++ [f k] = (List.range (k + 1)).map f := by rw [List.range_succ, List.map_append]; rfl
theorem shl_one {n : Nat} (h : n ≤ 12) : shl .i64 1 n = ((2 ^ n : Nat) : Int) := by
  have : n = 0 ∨ n = 1 ∨ n = 2 ∨ n = 3 ∨ n = 4 ∨ n = 5 ∨ n = 6 ∨ n = 7 ∨ n = 8 ∨ n = 9 ∨ n = 10 ∨ n = 11 ∨ n = 12 := by omega
  rcases this with h | h | h | h | h | h | h | h | h | h | h | h | h <;> subst h <;> rfl
theorem two_pow_le {n : Nat} (h : n ≤ 12) : 2 ^ n ≤ 4096 := by
  have := Nat.pow_le_pow_right (n := 2) (by omega) h
  simpa using this
end Go.Aw
namespace Go.Aw
section
variable {P : Program}
/-- (slice, bool): nil where it is false -/
def nilOr (ok : Bool) (r : ARow) : AVal → List (Nat × ARow) → Prop := fun x h =>
  (ok = false ∧ x = .tu [.c (.slice none 0 0), .c (.bool false)] ∧ h = []) ∨ (ok = true ∧ x = .tu [.own 0, .c (.bool true)] ∧ h = [(0, r)])

theorem view_rows {f : FuncId} {args : List AVal} {ok : Bool} {e e1 : Nat} {m : List (List Int)} (h : FSpec P f args (nilOr ok (.rows e e1 true m))) :
    FSpec P f args (ex (.tu [.own 0, .c (.bool ok)]) [(0, .rows e e1 true (if ok then m else []))]) := by
  refine FSpec.view h ?_
  rintro x hr (⟨rfl, rfl, rfl⟩ | ⟨rfl, rfl, rfl⟩)
  · exact ⟨[(0, .nil)], .tu [.own 0, .c (.bool false)], [(0, .rows e e1 true [])], rfl, ⟨rfl, trivial, trivial⟩, ⟨⟨rfl, rfl, rfl⟩, rfl, trivial⟩, rfl, rfl⟩
  · exact ⟨[(0, .row 0)], .tu [.own 0, .c (.bool true)], [(0, .rows e e1 true m)], rfl, ⟨rfl, rfl, trivial⟩, ⟨⟨rfl, rfl⟩, rfl, trivial⟩, rfl, rfl⟩

theorem view_ints {f : FuncId} {args : List AVal} {ok : Bool} {e : Nat} {k : IntKind} {l : List Int} (h : FSpec P f args (nilOr ok (.ints e k l))) :
    FSpec P f args (ex (.tu [.own 0, .c (.bool ok)]) [(0, .ints e k (if ok then l else []))]) := by
  refine FSpec.view h ?_
  rintro x hr (⟨rfl, rfl, rfl⟩ | ⟨rfl, rfl, rfl⟩)
  · exact ⟨[(0, .nil)], .tu [.own 0, .c (.bool false)], [(0, .ints e k [])], rfl, ⟨rfl, trivial, trivial⟩, ⟨⟨rfl, rfl, rfl⟩, rfl, trivial⟩, rfl, rfl⟩
  · exact ⟨[(0, .row 0)], .tu [.own 0, .c (.bool true)], [(0, .ints e k l)], rfl, ⟨rfl, rfl, trivial⟩, ⟨⟨rfl, rfl⟩, rfl, trivial⟩, rfl, rfl⟩
end
theorem tot_le_mul {m : List (List Int)} {n : Nat} (h : ∀ r, r ∈ m → r.length ≤ n) : tot m ≤ m.length * n := by
  induction m with
  | nil => simp [tot]
  | cons r m ih =>
    have h1 := h r (by simp)
    have h2 := ih (fun q hq => h q (by simp [hq]))
    simp only [tot, List.length_cons, Nat.succ_mul]
    omega
end Go.Aw
namespace Go.Aw
theorem map_getD {α β : Type} {f : α → β} {l : List α} {i : Nat} {d : α} {e : β} (h : i < l.length) : (l.map f).getD i e = f (l.getD i d) := by
  simp [List.getD, h]
theorem range_getD {β : Type} {f : Nat → β} {n i : Nat} {e : β} (h : i < n) : ((List.range n).map f).getD i e = f i := by
  simp [List.getD, h]
theorem rall_succ {p : Nat → Bool} {k : Nat} (h1 : (List.range k).all p = true) (h2 : p k = true) : (List.range (k + 1)).all p = true := by
  rw [List.range_succ, List.all_append, h1]; simp [h2]
theorem rall_false {p : Nat → Bool} {k n : Nat} (h : k < n) (h2 : p k = false) : (List.range n).all p = false := by
  rw [List.all_eq_false]
  exact ⟨k, by simpa using h, by simp [h2]⟩
end Go.Aw
namespace Go.Proofs.YtkjdplglenjijaaGreat
open Go.Aw
set_option maxRecDepth 100000

theorem getD_lt {α : Type} {l : List α} {d : α} {i : Nat} (h : i < l.length) : l.getD i d = l[i] := by rw [List.getD_eq_getElem?_getD, List.getElem?_eq_getElem h]; rfl

def inR (x a b : Int) : Bool := decide (a ≤ x ∧ x ≤ b)
def rowIn (r : List Int) (a b : Int) : Bool := r.all (fun x => inR x a b)
theorem all_take_succ {α : Type} {m : List α} {d : α} {p : α → Bool} {k : Nat} (h : k < m.length) (h1 : (m.take k).all p = true) (h2 : p (m.getD k d) = true) : (m.take (k + 1)).all p = true := by
  rw [List.take_succ_eq_append_getElem h, List.all_append, h1]
  rw [List.getD_eq_getElem?_getD, List.getElem?_eq_getElem h] at h2
  simpa using h2

theorem all_false {α : Type} {m : List α} {d : α} {p : α → Bool} {k : Nat} (h : k < m.length) (h2 : p (m.getD k d) = false) : m.all p = false := by
  rw [List.all_eq_false]
  exact ⟨m.getD k d, getD_mem h, by simpa using h2⟩

theorem all_end {α : Type} {m : List α} {p : α → Bool} {k : Nat} (h : ¬ k < m.length) (h1 : (m.take k).all p = true) : m.all p = true := by
  rwa [List.take_of_length_le (by omega)] at h1

theorem l1In_spec (x a b : Int) : FSpec Tryz.prog 54 [.c (.int .i64 x), .c (.int .i64 a), .c (.int .i64 b)] (ex (.c (.bool (inR x a b))) []) := by
  refine fspec tyOk mx Tryz.func54 rfl (by kernel_rfl) rfl ?_
  refine ⟨fun h => ?_, fun h => ?_⟩ <;> (conv => whnf) <;> refine ⟨?_, rfl⟩ <;> simp only [inR, decide_eq_true_eq, decide_eq_false_iff_not] at h ⊢
  · simp [h]
  · simp [show ¬ a ≤ x by omega]

theorem within_spec (x a b : Int) : FSpec Tryz.prog 50 [.c (.int .i64 x), .c (.int .i64 a), .c (.int .i64 b)] (ex (.c (.bool (inR x a b))) []) := by
  refine fspec tyOk mx Tryz.func50 rfl (by kernel_rfl) rfl ?_
  refine ⟨fun h => ?_, fun h => ?_⟩ <;> (conv => whnf) <;> refine ⟨?_, rfl⟩ <;> simp only [inR, decide_eq_true_eq, decide_eq_false_iff_not] at h ⊢
  · simp [h]
  · simp [show ¬ a ≤ x by omega]

theorem allWithin_spec (r : List Int) (a b : Int) (hl : r.length ≤ 9223372036854775807) :
    FSpec Tryz.prog 51 [.t (.ints .i64 r), .c (.int .i64 a), .c (.int .i64 b)] (ex (.c (.bool (rowIn r a b))) []) := by
  refine fspec tyOk mx Tryz.func51 rfl (by kernel_rfl) rfl ?_
  conv => whnf
  refine aloopI tyOk mx (fun k : Nat => (⟨21, [(0, .t (.ints .i64 r)), (1, .c (.int .i64 a)), (2, .c (.int .i64 b)), (9, .t (.ints .i64 r)), (10, .c (.int .i64 r.length)), (11, .c (.int .i64 (k : Int)))], [], 0⟩ : St)) (fun k => k ≤ r.length ∧ (r.take k).all (fun x => inR x a b) = true) (fun k => r.length - k)
    0 ⟨by omega, rfl⟩ none (by refine ⟨rfl, rfl, ?_, ?_⟩ <;> ((repeat' (first | exact trivial | exact rfl | refine And.intro ?_ ?_)) <;> (try ((conv => whnf); first | refine vint ?_ | refine vboo ?_ | refine rint ?_ | refine rrow ?_ | skip)) <;> (try first | omega | (simp; done) | ((repeat rw [flts_closed _ (by assumption)]); exact vws_closed _ (by assumption))))) (fun k hI => ?_)
  obtain ⟨hk, hp⟩ := hI
  refine ⟨fun h => ?_, fun h => ?_⟩
  · have hk1 : k < r.length := by simpa using h
    conv => whnf
    refine ⟨k, rfl, hk1, ?_⟩
    conv => whnf
    refine ACall.use (within_spec _ _ _) ?_
    refine ⟨fun h => ?_, fun h => ?_⟩
    · conv => whnf
      refine ⟨?_, rfl⟩
      rw [rowIn, all_false (d := 0) hk1 (by simpa using h)]
    · conv => whnf
      rw [w64 (by omega) (by omega)]
      exact ⟨k + 1, none, (by refine ⟨rfl, rfl, ?_, ?_⟩ <;> ((repeat' (first | exact trivial | exact rfl | refine And.intro ?_ ?_)) <;> (try ((conv => whnf); first | refine vint ?_ | refine vboo ?_ | refine rint ?_ | refine rrow ?_ | skip)) <;> (try first | omega | (simp; done) | ((repeat rw [flts_closed _ (by assumption)]); exact vws_closed _ (by assumption))))), ⟨by omega, all_take_succ (d := 0) hk1 hp (by simpa using h)⟩, by omega⟩
  · have hk1 : ¬ k < r.length := by simpa using h
    conv => whnf
    refine ⟨?_, rfl⟩
    rw [rowIn, all_end hk1 hp]

end Go.Proofs.YtkjdplglenjijaaGreat
/- Lists of bits, of the reference. -/
namespace Go.Proofs.YtkjdplglenjijaaGreat
open Go.Aw
set_option maxRecDepth 100000
end Go.Proofs.YtkjdplglenjijaaGreat
/- Numbers of questions; sums of lists. -/
namespace Go.Aw
def sumF (l : List Int) (n : Nat) : Int := fo (fun s i => W (s + l.getD i 0)) 0 n
theorem sumF_succ (l : List Int) (n : Nat) : sumF l (n + 1) = W (sumF l n + l.getD n 0) := rfl
theorem sumF_bd {l : List Int} (h : ∀ x, x ∈ l → 0 ≤ x ∧ x ≤ 99) (hl : l.length ≤ 1000) : ∀ n, n ≤ l.length → 0 ≤ sumF l n ∧ sumF l n ≤ 99 * n
  | 0, _ => by simp [sumF, fo]
  | n + 1, hn => by
    have h1 := sumF_bd h hl n (by omega)
    have h2 := h (l.getD n 0) (by rw [List.getD_eq_getElem?_getD, List.getElem?_eq_getElem (by omega)]; exact List.getElem_mem _)
    have e : W (sumF l n + l.getD n 0) = sumF l n + l.getD n 0 := w64 (by omega) (by omega)
    rw [sumF_succ, e]
    omega
end Go.Aw
namespace Go.Proofs.YtkjdplglenjijaaGreat
open Go.Aw
set_option maxRecDepth 100000
set_option maxHeartbeats 4000000

theorem inR_iff {x a b : Int} : inR x a b = true ↔ a ≤ x ∧ x ≤ b := by simp [inR]
theorem rowIn_iff {l : List Int} {a b : Int} : rowIn l a b = true ↔ ∀ x, x ∈ l → a ≤ x ∧ x ≤ b := by simp [rowIn, inR]
def szOk (x y : Int) : Bool := inR x 1 3 && inR y 1 3
theorem szOk_nat {x y : Int} (h : szOk x y = true) : ∃ a b : Nat, x = a ∧ y = b ∧ 1 ≤ a ∧ a ≤ 3 ∧ 1 ≤ b ∧ b ≤ 3 ∧ x * y = ((a * b : Nat) : Int) ∧ a * b ≤ 9 := by
  simp only [szOk, Bool.and_eq_true, inR_iff] at h
  obtain ⟨⟨h1, h2⟩, h3, h4⟩ := h
  obtain ⟨a, rfl⟩ : ∃ n : Nat, x = n := ⟨x.toNat, by omega⟩
  obtain ⟨b, rfl⟩ : ∃ n : Nat, y = n := ⟨y.toNat, by omega⟩
  have : a * b ≤ 3 * 3 := Nat.mul_le_mul (by omega) (by omega)
  exact ⟨a, b, rfl, rfl, by omega, by omega, by omega, by omega, by simp, this⟩
theorem szOk_mul {x y : Int} (h : szOk x y = true) : IntKind.i64.wrap (x * y) = x * y := by
  obtain ⟨a, b, rfl, rfl, _, _, _, _, h5, h6⟩ := szOk_nat h
  rw [h5, w64 (by omega) (by omega)]

theorem l2Sizes_spec (x y : Int) : FSpec Tryz.prog 53 [.c (.int .i64 x), .c (.int .i64 y)] (ex (.c (.bool (szOk x y))) []) := by
  refine fspec tyOk mx Tryz.func53 rfl (by kernel_rfl) rfl ?_
  conv => whnf
  refine ACall.use (l1In_spec _ _ _) ?_
  conv => whnf
  refine ⟨fun h => ?_, fun h => ?_⟩
  · conv => whnf
    refine ACall.use (l1In_spec _ _ _) ?_
    conv => whnf
    exact ⟨by rw [szOk, h, Bool.true_and], rfl⟩
  · conv => whnf
    exact ⟨by rw [szOk, h, Bool.false_and], rfl⟩
theorem areQuestions_spec (x y : Int) : FSpec Tryz.prog 49 [.c (.int .i64 x), .c (.int .i64 y)] (ex (.c (.bool (szOk x y))) []) := by
  refine fspec tyOk mx Tryz.func49 rfl (by kernel_rfl) rfl ?_
  conv => whnf
  refine ACall.use (within_spec _ _ _) ?_
  conv => whnf
  refine ⟨fun h => ?_, fun h => ?_⟩
  · conv => whnf
    refine ACall.use (within_spec _ _ _) ?_
    conv => whnf
    exact ⟨by rw [szOk, h, Bool.true_and], rfl⟩
  · conv => whnf
    exact ⟨by rw [szOk, h, Bool.false_and], rfl⟩

theorem total_spec (l : List Int) (hl : l.length ≤ 1048576) : FSpec Tryz.prog 52 [.t (.ints .i64 l)] (ex (.c (.int .i64 (sumF l l.length))) []) := by
  refine fspec tyOk mx Tryz.func52 rfl (by kernel_rfl) rfl ?_
  conv => whnf
  refine aloopI tyOk mx (fun k : Nat => (⟨17, [(3, .c (.int .i64 (sumF l k))), (6, .t (.ints .i64 l)), (7, .c (.int .i64 l.length)), (8, .c (.int .i64 (k)))], [], 0⟩ : St)) (fun k => k ≤ l.length) (fun k => l.length - k) 0 (Nat.zero_le _) none (by refine ⟨rfl, rfl, ?_, ?_⟩ <;> ((repeat' (first | exact trivial | exact rfl | refine And.intro ?_ ?_)) <;> (try ((conv => whnf); first | refine vint ?_ | refine vboo ?_ | refine rint ?_ | refine rrow ?_ | skip)) <;> (try first | omega | (simp; done) | ((repeat rw [flts_closed _ (by assumption)]); exact vws_closed _ (by assumption))))) (fun k hk => ?_)
  refine ⟨fun h => ?_, fun h => ?_⟩
  · have h := ltT h
    conv => whnf
    refine ⟨k, rfl, h, ?_⟩
    conv => whnf
    rw [nat_wrap (by omega)]
    exact ⟨k + 1, none, (by refine ⟨rfl, rfl, ?_, ?_⟩ <;> ((repeat' (first | exact trivial | exact rfl | refine And.intro ?_ ?_)) <;> (try ((conv => whnf); first | refine vint ?_ | refine vboo ?_ | refine rint ?_ | refine rrow ?_ | skip)) <;> (try first | omega | (simp; done) | ((repeat rw [flts_closed _ (by assumption)]); exact vws_closed _ (by assumption))))), by omega, by omega⟩
  · have h := ltF h
    obtain rfl : k = l.length := by omega
    conv => whnf
    exact ⟨rfl, rfl⟩

end Go.Proofs.YtkjdplglenjijaaGreat
/- All plays: reference and program. -/
namespace Go.Aw
def bIx (sc : Nat → Int) : Nat → Nat
  | 0 => 0
  | k + 1 => if sc (k + 1) > sc (bIx sc k) then k + 1 else bIx sc k
theorem bIx_le (sc : Nat → Int) : ∀ k, bIx sc k ≤ k
  | 0 => Nat.le_refl _
  | k + 1 => by have := bIx_le sc k; unfold bIx; split <;> omega
theorem natAdd {a k : Nat} (h : a + k ≤ 1000000) : IntKind.i64.wrap ((a : Int) + (k : Int)) = ((a + k : Nat) : Int) := by rw [w64 (by omega) (by omega)]; omega
theorem natMulAdd {i n k : Nat} (h : i * n + k ≤ 1000000) : IntKind.i64.wrap (IntKind.i64.wrap ((i : Int) * (n : Int)) + (k : Int)) = ((i * n + k : Nat) : Int) := by
  have e : (i : Int) * (n : Int) = ((i * n : Nat) : Int) := by simp
  rw [e, w64 (n := ((i * n : Nat) : Int)) (by omega) (by omega), w64 (by omega) (by omega)]; omega
theorem ix_lt {i k nx ny : Nat} (hi : i < nx) (hk : k < ny) : i * ny + k < nx * ny := by
  have : (i + 1) * ny ≤ nx * ny := Nat.mul_le_mul_right ny hi
  rw [Nat.succ_mul] at this
  omega
def bitAt (n code i : Nat) : Int := bits .and .i64 (shr .i64 code ((n : Int) - 1 - i)) 1
def bitRow (n code : Nat) : List Int := (List.range n).map (bitAt n code)
def playsL (n : Nat) : List (List Int) := (List.range (2 ^ n)).map (bitRow n)
theorem bitAt_01 {n c i : Nat} (hn : n < 7) (hc : c < 64) (hi : i < 6) : 0 ≤ bitAt n c i ∧ bitAt n c i ≤ 1 := by
  have : ∀ n : Nat, n < 7 → ∀ c : Nat, c < 64 → ∀ i : Nat, i < 6 → 0 ≤ bitAt n c i ∧ bitAt n c i ≤ 1 := by decide +kernel
  exact this n hn c hc i hi
theorem playsL_len (n : Nat) : (playsL n).length = 2 ^ n := by simp [playsL]
theorem two_pow6 {n : Nat} (h : n ≤ 6) : 2 ^ n ≤ 64 := by
  have := Nat.pow_le_pow_right (n := 2) (by omega) h
  simpa using this
theorem playsL_row {n x : Nat} (hn : n ≤ 6) (h : x < (playsL n).length) : ((playsL n).getD x []).length = n ∧ ∀ v, v ∈ (playsL n).getD x [] → 0 ≤ v ∧ v ≤ 1 := by
  rw [playsL_len] at h
  have h64 := two_pow6 hn
  rw [playsL, range_getD h]
  refine ⟨by simp [bitRow], fun v hv => ?_⟩
  obtain ⟨i, hi, rfl⟩ := List.mem_map.1 hv
  have hi := List.mem_range.1 hi
  exact bitAt_01 (by omega) (by omega) (by omega)
end Go.Aw
namespace Go.Proofs.YtkjdplglenjijaaGreat
open Go.Aw
set_option maxRecDepth 100000
set_option maxHeartbeats 4000000

theorem l2Plays_spec (nx ny : Nat) (hx : nx + ny ≤ 6) : FSpec Tryz.prog 84 [.c (.int .i64 (nx)), .c (.int .i64 (ny))] (ex (.own 0) [(0, .rows 38 3 true (playsL (nx + ny)))]) := by
  have h2 := two_pow6 hx
  refine fspec tyOk mx Tryz.func84 rfl (by kernel_rfl) rfl ?_
  conv => whnf
  refine aloopI tyOk mx (fun c : Nat => (⟨43, [(0, .c (.int .i64 (nx))), (1, .c (.int .i64 (ny))), (5, .own 0), (6, .c (.int .i64 (c)))], [(0, .rows 38 3 true ((List.range c).map (bitRow (nx + ny))))], 1⟩ : St)) (fun c => c ≤ 2 ^ (nx + ny)) (fun c => 2 ^ (nx + ny) - c) 0 (Nat.zero_le _) none (by refine ⟨rfl, rfl, ?_, ?_⟩ <;> ((repeat' (first | exact trivial | exact rfl | refine And.intro ?_ ?_)) <;> (try ((conv => whnf); first | refine vint ?_ | refine vboo ?_ | refine rint ?_ | refine rrow ?_ | skip)) <;> (try first | omega | (simp; done) | ((repeat rw [flts_closed _ (by assumption)]); exact vws_closed _ (by assumption))))) (fun c hc => ?_)
  conv => whnf
  rw [natAdd (by omega)]
  refine ⟨by omega, fun h => ?_, fun h => ?_⟩
  · rw [shl_one (by omega)] at h
    have hc1 : c < 2 ^ (nx + ny) := Int.ofNat_lt.1 (of_decide_eq_true h)
    conv => whnf
    refine aloopI tyOk mx (fun i : Nat => (⟨43, [(0, .c (.int .i64 (nx))), (1, .c (.int .i64 (ny))), (5, .own 0), (6, .c (.int .i64 (c))), (7, .own 1), (8, .c (.int .i64 (i)))], [(0, .rows 38 3 true ((List.range c).map (bitRow (nx + ny)))), (1, .ints 3 .i64 ((List.range i).map (bitAt (nx + ny) c)))], 2⟩ : St)) (fun i => i ≤ nx + ny) (fun i => nx + ny - i) 0 (by omega) none (by refine ⟨rfl, rfl, ?_, ?_⟩ <;> ((repeat' (first | exact trivial | exact rfl | refine And.intro ?_ ?_)) <;> (try ((conv => whnf); first | refine vint ?_ | refine vboo ?_ | refine rint ?_ | refine rrow ?_ | skip)) <;> (try first | omega | (simp; done) | ((repeat rw [flts_closed _ (by assumption)]); exact vws_closed _ (by assumption))))) (fun i hi => ?_)
    refine ⟨fun h => ?_, fun h => ?_⟩
    · rw [natAdd (by omega)] at h
      have hi1 : i < nx + ny := ltT h
      have e1 : IntKind.i64.wrap (IntKind.i64.wrap (IntKind.i64.wrap ((nx : Int) + ny) - 1) - i) = ((nx + ny : Nat) : Int) - 1 - i := by rw [natAdd (by omega), w64 (n := ((nx + ny : Nat) : Int) - 1) (by omega) (by omega), w64 (by omega) (by omega)]
      conv => whnf
      rw [e1]
      refine ⟨by omega, ?_⟩
      conv => whnf
      refine ⟨by simp [room]; omega, ?_⟩
      conv => whnf
      rw [nat_wrap (by omega)]
      refine ⟨i + 1, none, ?_, hi1, by omega⟩
      (refine ⟨rfl, rfl, ?_, ?_⟩ <;> ((repeat' (first | exact trivial | exact rfl | refine And.intro ?_ ?_)) <;> (try ((conv => whnf); first | refine vint ?_ | refine vboo ?_ | refine rint ?_ | refine rrow ?_ | skip)) <;> (try first | omega | (simp; done) | ((repeat rw [flts_closed _ (by assumption)]); exact vws_closed _ (by assumption)))))
      rw [← map_range_succ]; rfl
    · rw [natAdd (by omega)] at h
      have hi1 : ¬ i < nx + ny := ltF h
      obtain rfl : i = nx + ny := by omega
      conv => whnf
      refine ⟨by simp [room]; omega, ?_⟩
      conv => whnf
      rw [nat_wrap (by omega)]
      refine ⟨c + 1, none, ?_, hc1, by omega⟩
      (refine ⟨rfl, rfl, ?_, ?_⟩ <;> ((repeat' (first | exact trivial | exact rfl | refine And.intro ?_ ?_)) <;> (try ((conv => whnf); first | refine vint ?_ | refine vboo ?_ | refine rint ?_ | refine rrow ?_ | skip)) <;> (try first | omega | (simp; done) | ((repeat rw [flts_closed _ (by assumption)]); exact vws_closed _ (by assumption)))))
      rw [← map_range_succ]; rfl
  · rw [shl_one (by omega)] at h
    have hc1 : 2 ^ (nx + ny) ≤ c := Nat.not_lt.1 fun hh => of_decide_eq_false h (Int.ofNat_lt.2 hh)
    obtain rfl : c = 2 ^ (nx + ny) := by omega
    conv => whnf
    exact ⟨rfl, rfl⟩

theorem plays_spec (nx ny : Nat) (hx : nx + ny ≤ 6) : FSpec Tryz.prog 67 [.c (.int .i64 (nx)), .c (.int .i64 (ny))] (ex (.own 0) [(0, .rows 38 3 true (playsL (nx + ny)))]) := by
  have h2 := two_pow6 hx
  refine fspec tyOk mx Tryz.func67 rfl (by kernel_rfl) rfl ?_
  conv => whnf
  rw [natAdd (by omega)]
  refine ⟨by omega, ?_⟩
  rw [shl_one (by omega)]
  conv => whnf
  refine aloopI tyOk mx (fun c : Nat => (⟨43, [(0, .c (.int .i64 (nx))), (1, .c (.int .i64 (ny))), (5, .own 0), (13, .c (.int .i64 ((2 ^ (nx + ny) : Nat)))), (14, .c (.int .i64 (c)))], [(0, .rows 38 3 true ((List.range c).map (bitRow (nx + ny))))], 1⟩ : St)) (fun c => c ≤ 2 ^ (nx + ny)) (fun c => 2 ^ (nx + ny) - c) 0 (Nat.zero_le _) none (by refine ⟨rfl, rfl, ?_, ?_⟩ <;> ((repeat' (first | exact trivial | exact rfl | refine And.intro ?_ ?_)) <;> (try ((conv => whnf); first | refine vint ?_ | refine vboo ?_ | refine rint ?_ | refine rrow ?_ | skip)) <;> (try first | omega | (simp; done) | ((repeat rw [flts_closed _ (by assumption)]); exact vws_closed _ (by assumption))))) (fun c hc => ?_)
  refine ⟨fun h => ?_, fun h => ?_⟩
  · have hc1 : c < 2 ^ (nx + ny) := Int.ofNat_lt.1 (of_decide_eq_true h)
    conv => whnf
    rw [natAdd (by omega)]
    refine aloopI tyOk mx (fun i : Nat => (⟨43, [(0, .c (.int .i64 (nx))), (1, .c (.int .i64 (ny))), (5, .own 0), (6, .c (.int .i64 (c))), (7, .own 1), (13, .c (.int .i64 ((2 ^ (nx + ny) : Nat)))), (14, .c (.int .i64 (c))), (20, .c (.int .i64 ((nx + ny : Nat)))), (21, .c (.int .i64 (i)))], [(0, .rows 38 3 true ((List.range c).map (bitRow (nx + ny)))), (1, .ints 3 .i64 ((List.range i).map (bitAt (nx + ny) c)))], 2⟩ : St)) (fun i => i ≤ nx + ny) (fun i => nx + ny - i) 0 (by omega) none (by refine ⟨rfl, rfl, ?_, ?_⟩ <;> ((repeat' (first | exact trivial | exact rfl | refine And.intro ?_ ?_)) <;> (try ((conv => whnf); first | refine vint ?_ | refine vboo ?_ | refine rint ?_ | refine rrow ?_ | skip)) <;> (try first | omega | (simp; done) | ((repeat rw [flts_closed _ (by assumption)]); exact vws_closed _ (by assumption))))) (fun i hi => ?_)
    refine ⟨fun h => ?_, fun h => ?_⟩
    · have hi1 : i < nx + ny := ltT h
      have e1 : IntKind.i64.wrap (IntKind.i64.wrap (IntKind.i64.wrap ((nx : Int) + ny) - 1) - i) = ((nx + ny : Nat) : Int) - 1 - i := by rw [natAdd (by omega), w64 (n := ((nx + ny : Nat) : Int) - 1) (by omega) (by omega), w64 (by omega) (by omega)]
      conv => whnf
      rw [e1]
      refine ⟨by omega, ?_⟩
      conv => whnf
      refine ⟨by simp [room]; omega, ?_⟩
      conv => whnf
      rw [nat_wrap (by omega)]
      refine ⟨i + 1, none, ?_, hi1, by omega⟩
      (refine ⟨rfl, rfl, ?_, ?_⟩ <;> ((repeat' (first | exact trivial | exact rfl | refine And.intro ?_ ?_)) <;> (try ((conv => whnf); first | refine vint ?_ | refine vboo ?_ | refine rint ?_ | refine rrow ?_ | skip)) <;> (try first | omega | (simp; done) | ((repeat rw [flts_closed _ (by assumption)]); exact vws_closed _ (by assumption)))))
      rw [← map_range_succ]; rfl
    · have hi1 : ¬ i < nx + ny := ltF h
      obtain rfl : i = nx + ny := by omega
      conv => whnf
      refine ⟨by simp [room]; omega, ?_⟩
      conv => whnf
      rw [nat_wrap (by omega)]
      refine ⟨c + 1, none, ?_, hc1, by omega⟩
      (refine ⟨rfl, rfl, ?_, ?_⟩ <;> ((repeat' (first | exact trivial | exact rfl | refine And.intro ?_ ?_)) <;> (try ((conv => whnf); first | refine vint ?_ | refine vboo ?_ | refine rint ?_ | refine rrow ?_ | skip)) <;> (try first | omega | (simp; done) | ((repeat rw [flts_closed _ (by assumption)]); exact vws_closed _ (by assumption)))))
      rw [← map_range_succ]; rfl
  · have hc1 : 2 ^ (nx + ny) ≤ c := Nat.not_lt.1 fun hh => of_decide_eq_false h (Int.ofNat_lt.2 hh)
    obtain rfl : c = 2 ^ (nx + ny) := by omega
    conv => whnf
    exact ⟨rfl, rfl⟩
end Go.Proofs.YtkjdplglenjijaaGreat
/- Which boxes are valid: reference and program. -/
namespace Go.Proofs.YtkjdplglenjijaaGreat
open Go.Aw
set_option maxRecDepth 100000
set_option maxHeartbeats 4000000

def rowOk (z : Int) (r : List Int) : Bool := decide (r.length = 4) && rowIn r 0 z && decide (sumF r r.length = z)
def goodB (x y z : Int) (m : List (List Int)) : Bool := szOk x y && inR z 1 1000 && decide ((m.length : Int) = x * y) && m.all (rowOk z)

theorem goodB_spec {x y z : Int} {m : List (List Int)} (h : goodB x y z m = true) : ∃ a b : Nat, x = a ∧ y = b ∧ 1 ≤ a ∧ a ≤ 3 ∧ 1 ≤ b ∧ b ≤ 3 ∧ 1 ≤ z ∧ z ≤ 1000 ∧ m.length = a * b ∧ a * b ≤ 9 ∧
    (∀ r, r ∈ m → r.length = 4 ∧ (∀ v, v ∈ r → 0 ≤ v ∧ v ≤ z) ∧ sumF r r.length = z) := by
  simp only [goodB, Bool.and_eq_true, decide_eq_true_eq, List.all_eq_true, rowOk, rowIn_iff, inR_iff] at h
  obtain ⟨⟨⟨h1, h2⟩, h3⟩, h4⟩ := h
  obtain ⟨a, b, rfl, rfl, g1, g2, g3, g4, g5, g6⟩ := szOk_nat h1
  rw [g5] at h3
  exact ⟨a, b, rfl, rfl, g1, g2, g3, g4, h2.1, h2.2, by omega, g6, fun r hr => by obtain ⟨⟨q1, q2⟩, q3⟩ := h4 r hr; exact ⟨q1, q2, q3⟩⟩

theorem l2Four_spec (r : List Int) (z : Int) (_hl : r.length ≤ 1048576) : FSpec Tryz.prog 55 [.t (.ints .i64 r), .c (.int .i64 (z))] (ex (.c (.bool (rowOk z r))) []) := by
  refine fspec tyOk mx Tryz.func55 rfl (by kernel_rfl) rfl ?_
  conv => whnf
  refine aloopI tyOk mx (fun k : Nat => (⟨38, [(0, .t (.ints .i64 r)), (1, .c (.int .i64 (z))), (5, .c (.int .i64 (sumF r k))), (6, .c (.int .i64 (k)))], [], 0⟩ : St)) (fun k => k ≤ r.length ∧ k ≤ 5 ∧ (r.take k).all (fun v => inR v 0 z) = true) (fun k => 5 - k) 0 ⟨Nat.zero_le _, by omega, rfl⟩ none (by refine ⟨rfl, rfl, ?_, ?_⟩ <;> ((repeat' (first | exact trivial | exact rfl | refine And.intro ?_ ?_)) <;> (try ((conv => whnf); first | refine vint ?_ | refine vboo ?_ | refine rint ?_ | refine rrow ?_ | skip)) <;> (try first | omega | (simp; done) | ((repeat rw [flts_closed _ (by assumption)]); exact vws_closed _ (by assumption))))) (fun k hI => ?_)
  obtain ⟨hk, hk5, hp⟩ := hI
  have hend : (k = r.length ∨ k = 5) → (rowOk z r = (decide ((r.length : Int) = 4) && decide (sumF r k = z))) := fun hor => by
    by_cases h4 : r.length = 4
    · obtain rfl : k = r.length := by omega
      have := all_end (k := r.length) (by omega) hp
      rw [rowOk, rowIn, this, decide_eq_true h4, decide_eq_true (show (r.length : Int) = 4 by omega)]; rfl
    · rw [rowOk, decide_eq_false h4, decide_eq_false (show ¬ (r.length : Int) = 4 by omega)]; rfl
  have fin : ∀ b : Bool, (k = r.length ∨ k = 5) → rowOk z r = b → (AVal.c (.bool b) = AVal.c (.bool (rowOk z r))) := fun b _ hb => by rw [hb]
  refine ⟨fun h => ?_, fun h => ?_⟩
  · have h := ltT h
    conv => whnf
    refine ⟨fun h2 => ?_, fun h2 => ?_⟩
    · have h2 : k < 5 := by have := of_decide_eq_true h2; omega
      conv => whnf
      refine ⟨k, rfl, h, ?_⟩
      conv => whnf
      refine ACall.use (l1In_spec _ _ _) ?_
      conv => whnf
      refine ⟨fun h3 => ?_, fun h3 => ?_⟩
      · have h3 : inR (r.getD k 0) 0 z = false := by simpa using h3
        conv => whnf
        refine ⟨?_, rfl⟩
        rw [rowOk, rowIn, all_false (d := 0) h h3]; simp
      · have h3 : inR (r.getD k 0) 0 z = true := by simpa using h3
        conv => whnf
        refine ⟨k, rfl, h, ?_⟩
        conv => whnf
        rw [nat_wrap (by omega)]
        exact ⟨k + 1, none, (by refine ⟨rfl, rfl, ?_, ?_⟩ <;> ((repeat' (first | exact trivial | exact rfl | refine And.intro ?_ ?_)) <;> (try ((conv => whnf); first | refine vint ?_ | refine vboo ?_ | refine rint ?_ | refine rrow ?_ | skip)) <;> (try first | omega | (simp; done) | ((repeat rw [flts_closed _ (by assumption)]); exact vws_closed _ (by assumption))))), ⟨by omega, by omega, all_take_succ (d := 0) h hp h3⟩, by omega⟩
    · have h2 : ¬ k < 5 := by have := of_decide_eq_false h2; omega
      conv => whnf
      refine ⟨fun h4 => ?_, fun h4 => ?_⟩
      · have h4 : (r.length : Int) = 4 := by simpa using h4
        omega
      · have h4 : ¬ (r.length : Int) = 4 := by simpa using h4
        conv => whnf
        refine ⟨?_, rfl⟩
        rw [hend (by omega), decide_eq_false h4]; rfl
  · have h := ltF h
    (repeat (conv => whnf); (first | refine ⟨fun h => absurd h (by decide), fun _ => ?_⟩ | refine ⟨fun _ => ?_, fun h => absurd h (by decide)⟩)); conv => whnf
    refine ⟨fun h4 => ?_, fun h4 => ?_⟩
    · have h4 : (r.length : Int) = 4 := by simpa using h4
      conv => whnf
      refine ⟨?_, rfl⟩
      rw [hend (by omega), decide_eq_true h4]; rfl
    · have h4 : ¬ (r.length : Int) = 4 := by simpa using h4
      conv => whnf
      refine ⟨?_, rfl⟩
      rw [hend (by omega), decide_eq_false h4]; rfl

theorem l2Box_spec (x y z : Int) (m : List (List Int)) (km : SzM m) :
    FSpec Tryz.prog 24 [.ag [.c (.int .i64 (x)), .c (.int .i64 (y)), .c (.int .i64 (z)), .t (.rows m)]] (ex (.c (.bool (goodB x y z m))) []) := by
  obtain ⟨i, j, tz⟩ := km.all
  refine fspec tyOk mx Tryz.func24 rfl (by kernel_rfl) rfl ?_
  conv => whnf
  refine ACall.use (l2Sizes_spec _ _) ?_
  conv => whnf
  refine ⟨fun h1 => ?_, fun h1 => ?_⟩
  · have h1 : szOk x y = true := by simpa using h1
    conv => whnf
    refine ACall.use (l1In_spec _ _ _) ?_
    conv => whnf
    refine ⟨fun h2 => ?_, fun h2 => ?_⟩
    · have h2 : inR z 1 1000 = true := by simpa using h2
      conv => whnf
      rw [szOk_mul h1]
      refine ⟨fun h3 => ?_, fun h3 => ?_⟩
      · have h3 : ¬ (m.length : Int) = x * y := by simpa using h3
        conv => whnf
        exact ⟨by rw [goodB, decide_eq_false h3]; simp, rfl⟩
      · have h3 : (m.length : Int) = x * y := by simpa using h3
        conv => whnf
        refine aloopI tyOk mx (fun k : Nat => (⟨43, [(1, .ptr 0 0), (3, .c (.int .i64 (k)))], [(0, .cells 26 [.c (.int .i64 (x)), .c (.int .i64 (y)), .c (.int .i64 (z)), .t (.rows m)])], 1⟩ : St)) (fun k => k ≤ m.length ∧ (m.take k).all (rowOk z) = true) (fun k => m.length - k) 0 ⟨Nat.zero_le _, rfl⟩ none (by refine ⟨rfl, rfl, ?_, ?_⟩ <;> ((repeat' (first | exact trivial | exact rfl | refine And.intro ?_ ?_)) <;> (try ((conv => whnf); first | refine vint ?_ | refine vboo ?_ | refine rint ?_ | refine rrow ?_ | skip)) <;> (try first | omega | (simp; done) | ((repeat rw [flts_closed _ (by assumption)]); exact vws_closed _ (by assumption))))) (fun k hI => ?_)
        obtain ⟨hk, hp⟩ := hI
        refine ⟨fun h => ?_, fun h => ?_⟩
        · have h := ltT h
          refine ADraw.std tyOk mx ⟨by kernel_rfl, k, rfl, h, ?_⟩
          conv => whnf
          refine QCall.use (l2Four_spec (m.getD k []) z (by have := j _ (getD_mem (d := []) h); omega)) ?_
          conv => whnf
          refine ⟨fun h4 => ?_, fun h4 => ?_⟩
          · conv => whnf
            exact ⟨by rw [goodB, all_false (d := []) h (by simpa using h4), Bool.and_false], rfl⟩
          · conv => whnf
            rw [nat_wrap (by omega)]
            exact ⟨k + 1, none, (by refine ⟨rfl, rfl, ?_, ?_⟩ <;> ((repeat' (first | exact trivial | exact rfl | refine And.intro ?_ ?_)) <;> (try ((conv => whnf); first | refine vint ?_ | refine vboo ?_ | refine rint ?_ | refine rrow ?_ | skip)) <;> (try first | omega | (simp; done) | ((repeat rw [flts_closed _ (by assumption)]); exact vws_closed _ (by assumption))))), ⟨by omega, all_take_succ (d := []) h hp (by simpa using h4)⟩, by omega⟩
        · have h := ltF h
          have hm2 := all_end h hp
          conv => whnf
          refine ⟨?_, rfl⟩
          rw [goodB, h1, h2, decide_eq_true h3, hm2]; rfl
    · have h2 : inR z 1 1000 = false := by simpa using h2
      (repeat (conv => whnf); (first | refine ⟨fun h => absurd h (by decide), fun _ => ?_⟩ | refine ⟨fun _ => ?_, fun h => absurd h (by decide)⟩)); conv => whnf
      exact ⟨by rw [goodB, h2]; simp, rfl⟩
  · have h1 : szOk x y = false := by simpa using h1
    (repeat (conv => whnf); (first | refine ⟨fun h => absurd h (by decide), fun _ => ?_⟩ | refine ⟨fun _ => ?_, fun h => absurd h (by decide)⟩)); conv => whnf
    exact ⟨by rw [goodB, h1]; simp, rfl⟩

theorem IsBox_spec (x y z : Int) (m : List (List Int)) (km : SzM m) :
    FSpec Tryz.prog 22 [.ag [.c (.int .i64 (x)), .c (.int .i64 (y)), .c (.int .i64 (z)), .t (.rows m)]] (ex (.c (.bool (goodB x y z m))) []) := by
  obtain ⟨i, j, tz⟩ := km.all
  refine fspec tyOk mx Tryz.func22 rfl (by kernel_rfl) rfl ?_
  conv => whnf
  refine ACall.use (areQuestions_spec _ _) ?_
  conv => whnf
  refine ⟨fun h1 => ?_, fun h1 => ?_⟩
  · have h1 : szOk x y = true := by simpa using h1
    conv => whnf
    refine ACall.use (within_spec _ _ _) ?_
    conv => whnf
    refine ⟨fun h2 => ?_, fun h2 => ?_⟩
    · have h2 : inR z 1 1000 = true := by simpa using h2
      conv => whnf
      rw [szOk_mul h1]
      refine ⟨fun h3 => ?_, fun h3 => ?_⟩
      · have h3 : ¬ (m.length : Int) = x * y := by simpa using h3
        conv => whnf
        exact ⟨by rw [goodB, decide_eq_false h3]; simp, rfl⟩
      · have h3 : (m.length : Int) = x * y := by simpa using h3
        conv => whnf
        refine aloopI tyOk mx (fun k : Nat => (⟨53, [(1, .ptr 0 0), (29, .t (.rows m)), (30, .c (.int .i64 (m.length))), (31, .c (.int .i64 (k)))], [(0, .cells 26 [.c (.int .i64 (x)), .c (.int .i64 (y)), .c (.int .i64 (z)), .t (.rows m)])], 1⟩ : St)) (fun k => k ≤ m.length ∧ (m.take k).all (rowOk z) = true) (fun k => m.length - k) 0 ⟨Nat.zero_le _, rfl⟩ none (by refine ⟨rfl, rfl, ?_, ?_⟩ <;> ((repeat' (first | exact trivial | exact rfl | refine And.intro ?_ ?_)) <;> (try ((conv => whnf); first | refine vint ?_ | refine vboo ?_ | refine rint ?_ | refine rrow ?_ | skip)) <;> (try first | omega | (simp; done) | ((repeat rw [flts_closed _ (by assumption)]); exact vws_closed _ (by assumption))))) (fun k hI => ?_)
        obtain ⟨hk, hp⟩ := hI
        refine ⟨fun h => ?_, fun h => ?_⟩
        · have h := ltT h
          have hj := j _ (getD_mem (d := []) h)
          conv => whnf
          refine ⟨k, rfl, h, ?_⟩
          conv => whnf
          refine ADraw.std tyOk mx ⟨by kernel_rfl, ?_⟩
          conv => whnf
          refine ⟨fun h4 => ?_, fun h4 => ?_⟩
          · have h4 : (m.getD k []).length = 4 := by rw [bne_eq_false_iff_eq] at h4; omega
            conv => whnf
            refine QCall.use (allWithin_spec (m.getD k []) _ _ (by omega)) ?_
            conv => whnf
            refine ⟨fun h5 => ?_, fun h5 => ?_⟩
            · have h5 : rowIn (m.getD k []) 0 z = true := by simpa using h5
              conv => whnf
              refine QCall.use (total_spec (m.getD k []) hj) ?_
              conv => whnf
              refine ⟨fun h6 => ?_, fun h6 => ?_⟩
              · have h6 : ¬ sumF (m.getD k []) (m.getD k []).length = z := by simpa using h6
                conv => whnf
                exact ⟨by rw [goodB, all_false (d := []) h (by rw [rowOk, decide_eq_false h6, Bool.and_false]), Bool.and_false], rfl⟩
              · have h6 : sumF (m.getD k []) (m.getD k []).length = z := by simpa using h6
                conv => whnf
                rw [nat_wrap (by omega)]
                exact ⟨k + 1, none, (by refine ⟨rfl, rfl, ?_, ?_⟩ <;> ((repeat' (first | exact trivial | exact rfl | refine And.intro ?_ ?_)) <;> (try ((conv => whnf); first | refine vint ?_ | refine vboo ?_ | refine rint ?_ | refine rrow ?_ | skip)) <;> (try first | omega | (simp; done) | ((repeat rw [flts_closed _ (by assumption)]); exact vws_closed _ (by assumption))))), ⟨by omega, all_take_succ (d := []) h hp (by rw [rowOk, h5, decide_eq_true h4, decide_eq_true h6]; rfl)⟩, by omega⟩
            · have h5 : rowIn (m.getD k []) 0 z = false := by simpa using h5
              (repeat (conv => whnf); (first | refine ⟨fun h => absurd h (by decide), fun _ => ?_⟩ | refine ⟨fun _ => ?_, fun h => absurd h (by decide)⟩)); conv => whnf
              exact ⟨by rw [goodB, all_false (d := []) h (by rw [rowOk, h5]; simp), Bool.and_false], rfl⟩
          · have h4 : ¬ (m.getD k []).length = 4 := by rw [bne_iff_ne] at h4; omega
            (repeat (conv => whnf); (first | refine ⟨fun h => absurd h (by decide), fun _ => ?_⟩ | refine ⟨fun _ => ?_, fun h => absurd h (by decide)⟩)); conv => whnf
            exact ⟨by rw [goodB, all_false (d := []) h (by rw [rowOk, decide_eq_false h4]; simp), Bool.and_false], rfl⟩
        · have h := ltF h
          have hm2 := all_end h hp
          conv => whnf
          refine ⟨?_, rfl⟩
          rw [goodB, h1, h2, decide_eq_true h3, hm2]; rfl
    · have h2 : inR z 1 1000 = false := by simpa using h2
      (repeat (conv => whnf); (first | refine ⟨fun h => absurd h (by decide), fun _ => ?_⟩ | refine ⟨fun _ => ?_, fun h => absurd h (by decide)⟩)); conv => whnf
      exact ⟨by rw [goodB, h2]; simp, rfl⟩
  · have h1 : szOk x y = false := by simpa using h1
    (repeat (conv => whnf); (first | refine ⟨fun h => absurd h (by decide), fun _ => ?_⟩ | refine ⟨fun _ => ?_, fun h => absurd h (by decide)⟩)); conv => whnf
    exact ⟨by rw [goodB, h1]; simp, rfl⟩
end Go.Proofs.YtkjdplglenjijaaGreat
/- Worths of functionals, agreements: reference and program. -/
namespace Go.Aw
def wRow (f m : List (List Int)) (i : Nat) (a : Int) (n : Nat) : Int := fo (fun a k => W (a + W ((f.getD i []).getD k 0 * (m.getD i []).getD k 0))) a n
def wTo (f m : List (List Int)) (n : Nat) : Int := fo (fun a i => wRow f m i a 4) 0 n
def worthF (f m : List (List Int)) : Int := wTo f m m.length
def agr (r : List Int) : Int := W (W (W (r.getD 0 0 - r.getD 1 0) - r.getD 2 0) + r.getD 3 0)
end Go.Aw
namespace Go.Proofs.YtkjdplglenjijaaGreat
open Go.Aw
set_option maxRecDepth 100000
set_option maxHeartbeats 4000000
theorem worth_spec (f m : List (List Int)) (hl : f.length = m.length) (hb : m.length ≤ 1000) (hf : ∀ r, r ∈ f → r.length = 4) (hm : ∀ r, r ∈ m → r.length = 4) :
    FSpec Tryz.prog 39 [.t (.rows f), .t (.rows m)] (ex (.c (.int .i64 (worthF f m))) []) := by
  refine fspec tyOk mx Tryz.func39 rfl (by kernel_rfl) rfl ?_
  conv => whnf
  refine aloopI tyOk mx (fun i : Nat => (⟨38, [(1, .t (.rows m)), (5, .c (.int .i64 (wTo f m i))), (10, .t (.rows f)), (11, .c (.int .i64 (f.length))), (12, .c (.int .i64 (i)))], [], 0⟩ : St)) (fun i => i ≤ m.length) (fun i => m.length - i) 0 (Nat.zero_le _) none (by refine ⟨rfl, rfl, ?_, ?_⟩ <;> ((repeat' (first | exact trivial | exact rfl | refine And.intro ?_ ?_)) <;> (try ((conv => whnf); first | refine vint ?_ | refine vboo ?_ | refine rint ?_ | refine rrow ?_ | skip)) <;> (try first | omega | (simp; done) | ((repeat rw [flts_closed _ (by assumption)]); exact vws_closed _ (by assumption))))) (fun i hi => ?_)
  refine ⟨fun h => ?_, fun h => ?_⟩
  · have h : i < m.length := by have := ltT h; omega
    have h4 := hf _ (getD_mem (d := []) (show i < f.length by omega))
    have h5 := hm _ (getD_mem (d := []) h)
    conv => whnf
    refine ⟨i, rfl, by omega, ?_⟩
    conv => whnf
    refine aloopI tyOk mx (fun k : Nat => (⟨38, [(1, .t (.rows m)), (5, .c (.int .i64 (wRow f m i (wTo f m i) k))), (6, .c (.int .i64 (i))), (10, .t (.rows f)), (11, .c (.int .i64 (f.length))), (12, .c (.int .i64 (i))), (17, .t (.ints .i64 (f.getD i []))), (18, .c (.int .i64 ((f.getD i []).length))), (19, .c (.int .i64 (k)))], [], 0⟩ : St)) (fun k => k ≤ 4) (fun k => 4 - k) 0 (Nat.zero_le _) none (by refine ⟨rfl, rfl, ?_, ?_⟩ <;> ((repeat' (first | exact trivial | exact rfl | refine And.intro ?_ ?_)) <;> (try ((conv => whnf); first | refine vint ?_ | refine vboo ?_ | refine rint ?_ | refine rrow ?_ | skip)) <;> (try first | omega | (simp; done) | ((repeat rw [flts_closed _ (by assumption)]); exact vws_closed _ (by assumption))))) (fun k hk => ?_)
    refine ⟨fun h2 => ?_, fun h2 => ?_⟩
    · have h2 : k < 4 := by have := ltT h2; omega
      conv => whnf
      refine ⟨k, rfl, by omega, ?_⟩
      conv => whnf
      refine ⟨i, rfl, h, ?_⟩
      conv => whnf
      refine ⟨k, rfl, by omega, ?_⟩
      conv => whnf
      rw [nat_wrap (by omega)]
      exact ⟨k + 1, none, (by refine ⟨rfl, rfl, ?_, ?_⟩ <;> ((repeat' (first | exact trivial | exact rfl | refine And.intro ?_ ?_)) <;> (try ((conv => whnf); first | refine vint ?_ | refine vboo ?_ | refine rint ?_ | refine rrow ?_ | skip)) <;> (try first | omega | (simp; done) | ((repeat rw [flts_closed _ (by assumption)]); exact vws_closed _ (by assumption))))), by omega, by omega⟩
    · have h2 : ¬ k < 4 := by have := ltF h2; omega
      obtain rfl : k = 4 := by omega
      conv => whnf
      rw [nat_wrap (by omega)]
      exact ⟨i + 1, none, (by refine ⟨rfl, rfl, ?_, ?_⟩ <;> ((repeat' (first | exact trivial | exact rfl | refine And.intro ?_ ?_)) <;> (try ((conv => whnf); first | refine vint ?_ | refine vboo ?_ | refine rint ?_ | refine rrow ?_ | skip)) <;> (try first | omega | (simp; done) | ((repeat rw [flts_closed _ (by assumption)]); exact vws_closed _ (by assumption))))), by omega, by omega⟩
  · have h : ¬ i < m.length := by have := ltF h; omega
    obtain rfl : i = m.length := by omega
    conv => whnf
    exact ⟨rfl, rfl⟩
theorem l2Worth_spec (f m : List (List Int)) (x y z : Int) (hl : f.length = m.length) (hb : m.length ≤ 1000) (hf : ∀ r, r ∈ f → r.length = 4) (hm : ∀ r, r ∈ m → r.length = 4) :
    FSpec Tryz.prog 42 [.t (.rows f), .ag [.c (.int .i64 (x)), .c (.int .i64 (y)), .c (.int .i64 (z)), .t (.rows m)]] (ex (.c (.int .i64 (worthF f m))) []) := by
  refine fspec tyOk mx Tryz.func42 rfl (by kernel_rfl) rfl ?_
  conv => whnf
  refine aloopI tyOk mx (fun i : Nat => (⟨38, [(0, .t (.rows f)), (3, .ptr 0 0), (5, .c (.int .i64 (wTo f m i))), (6, .c (.int .i64 (i)))], [(0, .cells 26 [.c (.int .i64 (x)), .c (.int .i64 (y)), .c (.int .i64 (z)), .t (.rows m)])], 1⟩ : St)) (fun i => i ≤ m.length) (fun i => m.length - i) 0 (Nat.zero_le _) none (by refine ⟨rfl, rfl, ?_, ?_⟩ <;> ((repeat' (first | exact trivial | exact rfl | refine And.intro ?_ ?_)) <;> (try ((conv => whnf); first | refine vint ?_ | refine vboo ?_ | refine rint ?_ | refine rrow ?_ | skip)) <;> (try first | omega | (simp; done) | ((repeat rw [flts_closed _ (by assumption)]); exact vws_closed _ (by assumption))))) (fun i hi => ?_)
  refine ⟨fun h => ?_, fun h => ?_⟩
  · have h := ltT h
    have h4 := hf _ (getD_mem (d := []) (show i < f.length by omega))
    have h5 := hm _ (getD_mem (d := []) h)
    conv => whnf
    refine aloopI tyOk mx (fun k : Nat => (⟨38, [(0, .t (.rows f)), (3, .ptr 0 0), (5, .c (.int .i64 (wRow f m i (wTo f m i) k))), (6, .c (.int .i64 (i))), (7, .c (.int .i64 (k)))], [(0, .cells 26 [.c (.int .i64 (x)), .c (.int .i64 (y)), .c (.int .i64 (z)), .t (.rows m)])], 1⟩ : St)) (fun k => k ≤ 4) (fun k => 4 - k) 0 (Nat.zero_le _) none (by refine ⟨rfl, rfl, ?_, ?_⟩ <;> ((repeat' (first | exact trivial | exact rfl | refine And.intro ?_ ?_)) <;> (try ((conv => whnf); first | refine vint ?_ | refine vboo ?_ | refine rint ?_ | refine rrow ?_ | skip)) <;> (try first | omega | (simp; done) | ((repeat rw [flts_closed _ (by assumption)]); exact vws_closed _ (by assumption))))) (fun k hk => ?_)
    refine ⟨fun h2 => ?_, fun h2 => ?_⟩
    · have h2 : k < 4 := by have := of_decide_eq_true h2; omega
      refine ADraw.std tyOk mx ⟨by kernel_rfl, i, rfl, by omega, k, rfl, by omega, i, rfl, h, k, rfl, by omega, ?_⟩
      conv => whnf
      rw [nat_wrap (by omega)]
      exact ⟨k + 1, none, (by refine ⟨rfl, rfl, ?_, ?_⟩ <;> ((repeat' (first | exact trivial | exact rfl | refine And.intro ?_ ?_)) <;> (try ((conv => whnf); first | refine vint ?_ | refine vboo ?_ | refine rint ?_ | refine rrow ?_ | skip)) <;> (try first | omega | (simp; done) | ((repeat rw [flts_closed _ (by assumption)]); exact vws_closed _ (by assumption))))), by omega, by omega⟩
    · have h2 : ¬ k < 4 := by have := of_decide_eq_false h2; omega
      obtain rfl : k = 4 := by omega
      conv => whnf
      rw [nat_wrap (by omega)]
      exact ⟨i + 1, none, (by refine ⟨rfl, rfl, ?_, ?_⟩ <;> ((repeat' (first | exact trivial | exact rfl | refine And.intro ?_ ?_)) <;> (try ((conv => whnf); first | refine vint ?_ | refine vboo ?_ | refine rint ?_ | refine rrow ?_ | skip)) <;> (try first | omega | (simp; done) | ((repeat rw [flts_closed _ (by assumption)]); exact vws_closed _ (by assumption))))), by omega, by omega⟩
  · have h := ltF h
    obtain rfl : i = m.length := by omega
    conv => whnf
    exact ⟨rfl, rfl⟩
theorem l2Agree_spec (r : List Int) (hr : r.length = 4) : FSpec Tryz.prog 109 [.t (.ints .i64 r)] (ex (.c (.int .i64 (agr r))) []) := by
  refine fspec tyOk mx Tryz.func109 rfl (by kernel_rfl) rfl ?_
  conv => whnf
  refine ADraw.std tyOk mx ⟨by kernel_rfl, 0, rfl, by omega, 1, rfl, by omega, 2, rfl, by omega, 3, rfl, by omega, ?_⟩
  conv => whnf
  exact ⟨rfl, rfl⟩
theorem agreement_spec (r : List Int) (hr : r.length = 4) : FSpec Tryz.prog 108 [.t (.ints .i64 r)] (ex (.c (.int .i64 (agr r))) []) := by
  refine fspec tyOk mx Tryz.func108 rfl (by kernel_rfl) rfl ?_
  conv => whnf
  refine ADraw.std tyOk mx ⟨by kernel_rfl, 0, rfl, by omega, 1, rfl, by omega, 2, rfl, by omega, 3, rfl, by omega, ?_⟩
  conv => whnf
  exact ⟨rfl, rfl⟩
end Go.Proofs.YtkjdplglenjijaaGreat
/- Boxes that are told by a function. -/
namespace Go.Aw
theorem ACall.use4 {P : Program} {st : St} {f : FuncId} {a b c d v : Value} {caps : List AVal} {K : AVal → St → Prop} (hcl : ∀ g hp, clos g hp caps = some caps) (ho : hasOwns caps = false)
    (hs : FSpec P f (.c a :: .c b :: .c c :: .c d :: caps) (ex (.c v) [])) (hk : K (.c v) (st.add [])) : ACallS P st f (.c a :: .c b :: .c c :: .c d :: caps) K := by
  refine ACallS.useK hs (fun x h e => ?_) ?_
  · obtain ⟨rfl, rfl⟩ := e
    have : hasOwns (.c a :: .c b :: .c c :: .c d :: caps) = false := by simp [hasOwns, hasOwn, ho]
    rw [this]
    exact hk
  · simp [closeArgs, clos, clo1, hcl]

/-- the rows of a box, by a function of questions and answers -/
def boxRow (num : Nat → Nat → Nat → Nat → Int) (i k : Nat) : List Int := (List.range 4).map fun p => num i k (p / 2) (p % 2)
def boxTo (num : Nat → Nat → Nat → Nat → Int) (ny i k : Nat) : List (List Int) := (List.range i).flatMap (fun i => (List.range ny).map (boxRow num i)) ++ (List.range k).map (boxRow num i)
def boxRows (num : Nat → Nat → Nat → Nat → Int) (nx ny : Nat) : List (List Int) := (List.range nx).flatMap fun i => (List.range ny).map (boxRow num i)
theorem boxTo_row (num : Nat → Nat → Nat → Nat → Int) (ny i k : Nat) : boxTo num ny i k ++ [boxRow num i k] = boxTo num ny i (k + 1) := by
  unfold boxTo
  rw [List.append_assoc, map_range_succ]
theorem boxTo_end (num : Nat → Nat → Nat → Nat → Int) (ny i : Nat) : boxTo num ny i ny = boxTo num ny (i + 1) 0 := by
  simp [boxTo, List.range_succ]
theorem boxTo_all (num : Nat → Nat → Nat → Nat → Int) (nx ny : Nat) : boxTo num ny nx 0 = boxRows num nx ny := by
  simp [boxTo, boxRows]
theorem boxTo_len (num : Nat → Nat → Nat → Nat → Int) (ny i k : Nat) : (boxTo num ny i k).length = i * ny + k := by
  unfold boxTo
  rw [List.length_append, List.length_map, List.length_range, List.length_flatMap]
  congr 1
  induction i with
  | zero => simp
  | succ i ih => rw [List.range_succ, List.map_append, List.sum_append, ih]; simp [Nat.succ_mul]
theorem boxRows_len (num : Nat → Nat → Nat → Nat → Int) (nx ny : Nat) : (boxRows num nx ny).length = nx * ny := by
  rw [← boxTo_all, boxTo_len]; rfl
end Go.Aw
namespace Go.Proofs.YtkjdplglenjijaaGreat
open Go.Aw
set_option maxRecDepth 100000
theorem half_nat {p : Nat} (h : p < 4) : IntKind.i64.wrap (Int.tdiv (p : Int) 2) = ((p / 2 : Nat) : Int) := by
  have : p = 0 ∨ p = 1 ∨ p = 2 ∨ p = 3 := by omega
  rcases this with rfl | rfl | rfl | rfl <;> rfl
theorem mod_nat {p : Nat} (h : p < 4) : Int.tmod (p : Int) 2 = ((p % 2 : Nat) : Int) := by
  have : p = 0 ∨ p = 1 ∨ p = 2 ∨ p = 3 := by omega
  rcases this with rfl | rfl | rfl | rfl <;> rfl

theorem newBox_spec (nx ny : Nat) (z : Int) (g : FuncId) (caps : List AVal) (num : Nat → Nat → Nat → Nat → Int) (hx : nx ≤ 1000) (hy : ny ≤ 1000)
    (hcl : ∀ g hp, clos g hp caps = some caps) (ho : hasOwns caps = false)
    (hg : ∀ i k a b : Nat, i < nx → k < ny → a < 2 → b < 2 → FSpec Tryz.prog g (.c (.int .i64 (i)) :: .c (.int .i64 (k)) :: .c (.int .i64 (a)) :: .c (.int .i64 (b)) :: caps) (ex (.c (.int .i64 (num i k a b))) [])) :
    FSpec Tryz.prog 88 [.c (.int .i64 (nx)), .c (.int .i64 (ny)), .c (.int .i64 (z)), .clo g caps] (ex (.ag [.c (.int .i64 (nx)), .c (.int .i64 (ny)), .c (.int .i64 (z)), .own 0]) [(0, .rows 38 3 true (boxRows num nx ny))]) := by
  have hm : ∀ i, i ≤ nx → i * ny ≤ 1000000 := fun i hi => Nat.mul_le_mul (show i ≤ 1000 by omega) hy
  have hcl' := hcl (fun _ _ => none) []
  refine fspec tyOk mx Tryz.func88 rfl (by kernel_rfl) rfl ?_
  conv => whnf
  refine aloopI tyOk mx (fun i : Nat => (⟨51, [(1, .c (.int .i64 (ny))), (3, .clo g caps), (8, .ptr 0 0), (9, .ptr 1 0), (18, .c (.int .i64 (nx))), (19, .c (.int .i64 (i)))], [(0, .cells 26 [.c (.int .i64 (0)), .c (.int .i64 (0)), .c (.int .i64 (0)), .c (.slice none 0 0)]), (1, .cells 26 [.c (.int .i64 (nx)), .c (.int .i64 (ny)), .c (.int .i64 (z)), .own 2]), (2, .rows 38 3 true (boxTo num ny i 0))], 3⟩ : St)) (fun i => i ≤ nx) (fun i => nx - i) 0 (by omega) (some [(0, .row 0), (1, .row 1), (2, .nil)]) (by refine ⟨rfl, rfl, ?_, ?_⟩ <;> ((repeat' (first | exact trivial | exact rfl | refine And.intro ?_ ?_)) <;> (try ((conv => whnf); first | refine vint ?_ | refine vboo ?_ | refine rint ?_ | refine rrow ?_ | skip)) <;> (try first | omega | (simp; done) | ((repeat rw [flts_closed _ (by assumption)]); exact vws_closed _ (by assumption))))) (fun i hi => ?_)
  refine ⟨fun h => ?_, fun h => ?_⟩
  · have h := ltT h
    conv => whnf
    refine aloopI tyOk mx (fun k : Nat => (⟨51, [(1, .c (.int .i64 (ny))), (3, .clo g caps), (8, .ptr 0 0), (9, .ptr 1 0), (10, .c (.int .i64 (i))), (18, .c (.int .i64 (nx))), (19, .c (.int .i64 (i))), (22, .c (.int .i64 (ny))), (23, .c (.int .i64 (k)))], [(0, .cells 26 [.c (.int .i64 (0)), .c (.int .i64 (0)), .c (.int .i64 (0)), .c (.slice none 0 0)]), (1, .cells 26 [.c (.int .i64 (nx)), .c (.int .i64 (ny)), .c (.int .i64 (z)), .own 2]), (2, .rows 38 3 true (boxTo num ny i k))], 3⟩ : St)) (fun k => k ≤ ny) (fun k => ny - k) 0 (by omega) none (by refine ⟨rfl, rfl, ?_, ?_⟩ <;> ((repeat' (first | exact trivial | exact rfl | refine And.intro ?_ ?_)) <;> (try ((conv => whnf); first | refine vint ?_ | refine vboo ?_ | refine rint ?_ | refine rrow ?_ | skip)) <;> (try first | omega | (simp; done) | ((repeat rw [flts_closed _ (by assumption)]); exact vws_closed _ (by assumption))))) (fun k hk => ?_)
    have hlen := boxTo_len num ny i k
    have hm' := hm i hi
    refine ⟨fun h2 => ?_, fun h2 => ?_⟩
    · have h2 := ltT h2
      conv => whnf
      refine aloopI tyOk mx (fun p : Nat => (⟨51, [(1, .c (.int .i64 (ny))), (3, .clo g caps), (8, .ptr 0 0), (9, .ptr 1 0), (10, .c (.int .i64 (i))), (11, .c (.int .i64 (k))), (12, .own 3), (18, .c (.int .i64 (nx))), (19, .c (.int .i64 (i))), (22, .c (.int .i64 (ny))), (23, .c (.int .i64 (k))), (27, .c (.int .i64 (p)))], [(0, .cells 26 [.c (.int .i64 (0)), .c (.int .i64 (0)), .c (.int .i64 (0)), .c (.slice none 0 0)]), (1, .cells 26 [.c (.int .i64 (nx)), .c (.int .i64 (ny)), .c (.int .i64 (z)), .own 2]), (2, .rows 38 3 true (boxTo num ny i k)), (3, .ints 3 .i64 ((List.range p).map fun p => num i k (p / 2) (p % 2)))], 4⟩ : St)) (fun p => p ≤ 4) (fun p => 4 - p) 0 (by omega) none (by refine ⟨rfl, rfl, ?_, ?_⟩ <;> ((repeat' (first | exact trivial | exact rfl | refine And.intro ?_ ?_)) <;> (try ((conv => whnf); first | refine vint ?_ | refine vboo ?_ | refine rint ?_ | refine rrow ?_ | skip)) <;> (try first | omega | (simp; done) | ((repeat rw [flts_closed _ (by assumption)]); exact vws_closed _ (by assumption))))) (fun p hp => ?_)
      refine ⟨fun h3 => ?_, fun h3 => ?_⟩
      · have h3 : p < 4 := by have := of_decide_eq_true h3; omega
        conv => whnf
        refine ⟨by decide, ?_⟩
        conv => whnf
        refine ⟨by decide, ?_⟩
        rw [half_nat h3, mod_nat h3]
        conv => whnf
        refine cast (frL_eq caps).symm ?_
        refine ACall.use4 hcl ho (hg i k (p / 2) (p % 2) h h2 (by omega) (by omega)) ?_
        conv => whnf
        refine ⟨by simp [room]; omega, ?_⟩
        conv => whnf
        rw [nat_wrap (by omega)]
        refine ⟨p + 1, none, ?_, by omega, by omega⟩
        (refine ⟨rfl, rfl, ?_, ?_⟩ <;> ((repeat' (first | exact trivial | exact rfl | refine And.intro ?_ ?_)) <;> (try ((conv => whnf); first | refine vint ?_ | refine vboo ?_ | refine rint ?_ | refine rrow ?_ | skip)) <;> (try first | omega | (simp; done) | ((repeat rw [flts_closed _ (by assumption)]); exact vws_closed _ (by assumption)))))
        rw [← map_range_succ]; rfl
      · have h3 : ¬ p < 4 := by have := of_decide_eq_false h3; omega
        obtain rfl : p = 4 := by omega
        conv => whnf
        refine ⟨by simp [room]; omega, ?_⟩
        conv => whnf
        rw [nat_wrap (by omega)]
        refine ⟨k + 1, none, ?_, by omega, by omega⟩
        (refine ⟨rfl, rfl, ?_, ?_⟩ <;> ((repeat' (first | exact trivial | exact rfl | refine And.intro ?_ ?_)) <;> (try ((conv => whnf); first | refine vint ?_ | refine vboo ?_ | refine rint ?_ | refine rrow ?_ | skip)) <;> (try first | omega | (simp; done) | ((repeat rw [flts_closed _ (by assumption)]); exact vws_closed _ (by assumption)))))
        rw [← boxTo_row]; rfl
    · have h2 := ltF h2
      obtain rfl : k = ny := by omega
      conv => whnf
      rw [nat_wrap (by omega)]
      refine ⟨i + 1, none, ?_, by omega, by omega⟩
      (refine ⟨rfl, rfl, ?_, ?_⟩ <;> ((repeat' (first | exact trivial | exact rfl | refine And.intro ?_ ?_)) <;> (try ((conv => whnf); first | refine vint ?_ | refine vboo ?_ | refine rint ?_ | refine rrow ?_ | skip)) <;> (try first | omega | (simp; done) | ((repeat rw [flts_closed _ (by assumption)]); exact vws_closed _ (by assumption)))))
      exact boxTo_end num k i
  · have h := ltF h
    obtain rfl : i = nx := by omega
    conv => whnf
    exact ⟨rfl, by rw [boxTo_all]⟩
end Go.Proofs.YtkjdplglenjijaaGreat
/- Whether the sum of the answers is odd: reference and program. -/
namespace Go.Proofs.YtkjdplglenjijaaGreat
open Go.Aw
set_option maxRecDepth 100000

/-- whether the sum of the answers is odd -/
def oddAt (k : Int) (x y : Nat) : Int := Int.tmod (W (W (W (W ((x : Int) * y) + W (bits .and .i64 (shr .i64 k 2) 1 * x)) + W (bits .and .i64 (shr .i64 k 1) 1 * y)) + bits .and .i64 k 1)) 2
def oddS (k : Int) (x y : Nat) : Int := Int.tmod (W (W (W (W ((x : Int) * y) + W (shr .i64 k 2 * x)) + W (bits .and .i64 (shr .i64 k 1) 1 * y)) + bits .and .i64 k 1)) 2
theorem odd_eq {k x y : Nat} (hk : k < 8) (hx : x < 2) (hy : y < 2) : oddS k x y = oddAt k x y := by
  have : ∀ k : Nat, k < 8 → ∀ x : Nat, x < 2 → ∀ y : Nat, y < 2 → oddS k x y = oddAt k x y := by decide +kernel
  exact this k hk x hx y hy


end Go.Proofs.YtkjdplglenjijaaGreat
/- Boxes compared. -/
namespace Go.Proofs.YtkjdplglenjijaaGreat
open Go.Aw
set_option maxRecDepth 100000
end Go.Proofs.YtkjdplglenjijaaGreat
/- Boxes as results: what holds their marks. -/
namespace Go.Aw
section
variable {P : Program}
/-- (Box, bool): Box{} where it is false -/
def nilOrBox (ok : Bool) (x y z : Int) (r : ARow) : AVal → List (Nat × ARow) → Prop := fun v h =>
  (ok = false ∧ v = .tu [.ag [.c (.int .i64 (0)), .c (.int .i64 (0)), .c (.int .i64 (0)), .c (.slice none 0 0)], .c (.bool false)] ∧ h = []) ∨ (ok = true ∧ v = .tu [.ag [.c (.int .i64 (x)), .c (.int .i64 (y)), .c (.int .i64 (z)), .own 0], .c (.bool true)] ∧ h = [(0, r)])

theorem view_box {f : FuncId} {args : List AVal} {ok : Bool} {x y z : Int} {e e1 : Nat} {m : List (List Int)} (h : FSpec P f args (nilOrBox ok x y z (.rows e e1 true m))) :
    FSpec P f args (ex (.tu [.ag [.c (.int .i64 (if ok then x else 0)), .c (.int .i64 (if ok then y else 0)), .c (.int .i64 (if ok then z else 0)), .own 0], .c (.bool ok)]) [(0, .rows e e1 true (if ok then m else []))]) := by
  refine FSpec.view h ?_
  rintro v hr (⟨rfl, rfl, rfl⟩ | ⟨rfl, rfl, rfl⟩)
  · exact ⟨[(0, .nil)], .tu [.ag [.c (.int .i64 (0)), .c (.int .i64 (0)), .c (.int .i64 (0)), .own 0], .c (.bool false)], [(0, .rows e e1 true [])], rfl, ⟨rfl, trivial, trivial⟩, ⟨⟨rfl, rfl, rfl, ⟨rfl, rfl, rfl⟩, trivial⟩, rfl, trivial⟩, rfl, rfl⟩
  · exact ⟨[(0, .row 0)], .tu [.ag [.c (.int .i64 (x)), .c (.int .i64 (y)), .c (.int .i64 (z)), .own 0], .c (.bool true)], [(0, .rows e e1 true m)], rfl, ⟨rfl, rfl, trivial⟩, ⟨⟨rfl, rfl, rfl, ⟨rfl, rfl⟩, trivial⟩, rfl, trivial⟩, rfl, rfl⟩
end
end Go.Aw
namespace Go.Proofs.YtkjdplglenjijaaGreat
open Go.Aw
set_option maxRecDepth 100000
end Go.Proofs.YtkjdplglenjijaaGreat
/- EqualSumBox, program and reference. -/
namespace Go.Proofs.YtkjdplglenjijaaGreat
open Go.Aw
set_option maxRecDepth 100000

def eqNum (k : Int) (x y a b : Nat) : Int := W (1 - bits .xor .i64 (bits .xor .i64 a b) (oddAt k x y))
def equalM (k : Int) : List (List Int) := boxRows (eqNum k) 2 2
def oddRow (k : Int) (x y : Nat) : List Int := [W (1 - oddS k x y), oddS k x y, oddS k x y, W (1 - oddS k x y)]

theorem eq_rows (k : Nat) (hk : k < 8) : ∀ x y : Nat, x < 2 → y < 2 → oddRow k x y = boxRow (eqNum k) x y := by
  have : ∀ k : Nat, k < 8 → ∀ x : Nat, x < 2 → ∀ y : Nat, y < 2 → oddRow k x y = boxRow (eqNum k) x y := by decide +kernel
  exact fun x y hx hy => this k hk x hx y hy



theorem oddRow_len (k : Int) (x y : Nat) : (oddRow k x y).length = 4 := rfl

def eqOk (k : Int) : Bool := inR k 0 7
def eqRes (k : Int) : List (List Int) := if eqOk k then equalM k else []

theorem EqualSumBox_bd (k : Int) (_hk : InR k) : (eqRes k).length ≤ 1000000 ∧ tot (eqRes k) ≤ 1000000 := by
  unfold eqRes
  split
  · have h1 : (equalM k).length = 4 := boxRows_len _ 2 2
    have h2 := tot_le_mul (m := equalM k) (n := 4) (fun q hq => by
      obtain ⟨i, _, hq⟩ := List.mem_flatMap.1 hq
      obtain ⟨j, _, rfl⟩ := List.mem_map.1 hq
      simp [boxRow])
    omega
  · simp [tot]
end Go.Proofs.YtkjdplglenjijaaGreat
/- The eight sums: reference and program. -/
namespace Go.Proofs.YtkjdplglenjijaaGreat
open Go.Aw
set_option maxRecDepth 100000
set_option maxHeartbeats 4000000

theorem two_add {a b : Nat} (h : 2 * a + b ≤ 1000000) : IntKind.i64.wrap (IntKind.i64.wrap (2 * (a : Int)) + (b : Int)) = ((2 * a + b : Nat) : Int) := by
  rw [w64 (n := 2 * (a : Int)) (by omega) (by omega), w64 (by omega) (by omega)]; omega
def esTerm (k : Nat) (m : List (List Int)) (x y : Nat) : Int := W (agr (m.getD (x * 2 + y) []) * W (1 - W (2 * oddAt k x y)))
def esRow (k : Nat) (m : List (List Int)) (x : Nat) (a : Int) (n : Nat) : Int := fo (fun a y => W (a + esTerm k m x y)) a n
def esTo (k : Nat) (m : List (List Int)) (n : Nat) : Int := fo (fun a x => esRow k m x a 2) 0 n
def esL (m : List (List Int)) : List Int := (List.range 8).map fun k => esTo k m 2
def pairB (x y z : Int) (m : List (List Int)) : Bool := goodB x y z m && (decide (x = 2) && decide (y = 2))
theorem pairB_spec {x y z : Int} {m : List (List Int)} (h : pairB x y z m = true) : x = 2 ∧ y = 2 ∧ 1 ≤ z ∧ z ≤ 1000 ∧ m.length = 4 ∧ (∀ r, r ∈ m → r.length = 4 ∧ (∀ v, v ∈ r → 0 ≤ v ∧ v ≤ z) ∧ sumF r r.length = z) := by
  simp only [pairB, Bool.and_eq_true, decide_eq_true_eq] at h
  obtain ⟨h1, rfl, rfl⟩ := h
  obtain ⟨a, b, e1, e2, g1, g2, g3, g4, g5, g6, g7, g8, g9⟩ := goodB_spec h1
  obtain rfl : a = 2 := by omega
  obtain rfl : b = 2 := by omega
  exact ⟨rfl, rfl, g5, g6, g7, g9⟩


theorem l2Row_spec (nx ny i k : Nat) (z : Int) (m : List (List Int)) (hi : i * ny + k < m.length) (hb : i * ny + k ≤ 1000000) :
    FSpec Tryz.prog 102 [.ag [.c (.int .i64 (nx)), .c (.int .i64 (ny)), .c (.int .i64 (z)), .t (.rows m)], .c (.int .i64 (i)), .c (.int .i64 (k))] (ex (.t (.ints .i64 (m.getD (i * ny + k) []))) []) := by
  refine fspec tyOk mx Tryz.func102 rfl (by kernel_rfl) rfl ?_
  conv => whnf
  refine ⟨i * ny + k, natMulAdd hb, hi, ?_⟩
  conv => whnf
  exact ⟨rfl, rfl⟩


end Go.Proofs.YtkjdplglenjijaaGreat
/- Quiet boxes: reference and program. -/
namespace Go.Aw
def one0 (r : List Int) : Int := W (r.getD 2 0 + r.getD 3 0)
def one1 (r : List Int) : Int := W (r.getD 1 0 + r.getD 3 0)
def q0 (ny : Nat) (m : List (List Int)) (x y : Nat) : Bool := one0 (m.getD (x * ny + y) []) == one0 (m.getD (x * ny + 0) [])
def q1 (ny : Nat) (m : List (List Int)) (y x : Nat) : Bool := one1 (m.getD (x * ny + y) []) == one1 (m.getD (0 * ny + y) [])
def q0r (ny : Nat) (m : List (List Int)) (x : Nat) : Bool := (List.range ny).all (q0 ny m x)
def q1r (nx ny : Nat) (m : List (List Int)) (y : Nat) : Bool := (List.range nx).all (q1 ny m y)
def quietF (nx ny : Nat) (m : List (List Int)) : Bool := (List.range nx).all (q0r ny m) && (List.range ny).all (q1r nx ny m)
theorem q0_zero (ny : Nat) (m : List (List Int)) (x : Nat) : q0 ny m x 0 = true := beq_self_eq_true _
theorem q1_zero (ny : Nat) (m : List (List Int)) (y : Nat) : q1 ny m y 0 = true := beq_self_eq_true _
end Go.Aw
namespace Go.Proofs.YtkjdplglenjijaaGreat
open Go.Aw
set_option maxRecDepth 100000
set_option maxHeartbeats 4000000

theorem at_spec (nx ny i k a b : Nat) (z : Int) (m : List (List Int)) (hi : i * ny + k < m.length) (hb : i * ny + k ≤ 1000000) (ha : 2 * a + b < (m.getD (i * ny + k) []).length) (hb2 : 2 * a + b ≤ 1000000) :
    FSpec Tryz.prog 63 [.ag [.c (.int .i64 (nx)), .c (.int .i64 (ny)), .c (.int .i64 (z)), .t (.rows m)], .c (.int .i64 (i)), .c (.int .i64 (k)), .c (.int .i64 (a)), .c (.int .i64 (b))] (ex (.c (.int .i64 ((m.getD (i * ny + k) []).getD (2 * a + b) 0))) []) := by
  refine fspec tyOk mx Tryz.func63 rfl (by kernel_rfl) rfl ?_
  conv => whnf
  refine ⟨i * ny + k, natMulAdd hb, hi, ?_⟩
  conv => whnf
  refine ⟨2 * a + b, two_add hb2, ha, ?_⟩
  conv => whnf
  exact ⟨rfl, rfl⟩

theorem ones0_spec (nx ny q o : Nat) (z : Int) (m : List (List Int)) (hi : q * ny + o < m.length) (hb : q * ny + o ≤ 1000000) (h4 : ∀ r, r ∈ m → r.length = 4) :
    FSpec Tryz.prog 100 [.ag [.c (.int .i64 (nx)), .c (.int .i64 (ny)), .c (.int .i64 (z)), .t (.rows m)], .c (.int .i64 ((0 : Nat))), .c (.int .i64 (q)), .c (.int .i64 (o))] (ex (.c (.int .i64 (one0 (m.getD (q * ny + o) [])))) []) := by
  have h := h4 _ (getD_mem (d := []) hi)
  refine fspec tyOk mx Tryz.func100 rfl (by kernel_rfl) rfl ?_
  conv => whnf
  refine ⟨fun _ => ?_, fun h => absurd h (by decide)⟩
  conv => whnf
  refine ADraw.std tyOk mx ⟨by kernel_rfl, ?_⟩
  conv => whnf
  refine QCall.use (at_spec nx ny q o 1 0 z m hi hb (by omega) (by omega)) ?_
  conv => whnf
  refine QCall.use (at_spec nx ny q o 1 1 z m hi hb (by omega) (by omega)) ?_
  conv => whnf
  exact ⟨rfl, rfl⟩
theorem ones1_spec (nx ny q o : Nat) (z : Int) (m : List (List Int)) (hi : o * ny + q < m.length) (hb : o * ny + q ≤ 1000000) (h4 : ∀ r, r ∈ m → r.length = 4) :
    FSpec Tryz.prog 100 [.ag [.c (.int .i64 (nx)), .c (.int .i64 (ny)), .c (.int .i64 (z)), .t (.rows m)], .c (.int .i64 ((1 : Nat))), .c (.int .i64 (q)), .c (.int .i64 (o))] (ex (.c (.int .i64 (one1 (m.getD (o * ny + q) [])))) []) := by
  have h := h4 _ (getD_mem (d := []) hi)
  refine fspec tyOk mx Tryz.func100 rfl (by kernel_rfl) rfl ?_
  conv => whnf
  refine ⟨fun h => absurd h (by decide), fun _ => ?_⟩
  conv => whnf
  refine ADraw.std tyOk mx ⟨by kernel_rfl, ?_⟩
  conv => whnf
  refine QCall.use (at_spec nx ny o q 0 1 z m hi hb (by omega) (by omega)) ?_
  conv => whnf
  refine QCall.use (at_spec nx ny o q 1 1 z m hi hb (by omega) (by omega)) ?_
  conv => whnf
  exact ⟨rfl, rfl⟩

theorem questions_spec (x y z : Int) (m : List (List Int)) : FSpec Tryz.prog 99 [.ag [.c (.int .i64 (x)), .c (.int .i64 (y)), .c (.int .i64 (z)), .t (.rows m)]] (ex (.ag [.c (.int .i64 (x)), .c (.int .i64 (y))]) []) := by
  refine fspec tyOk mx Tryz.func99 rfl (by kernel_rfl) rfl ?_
  conv => whnf
  exact ⟨rfl, rfl⟩

def loudP (b : Bool) : AVal → List (Nat × ARow) → Prop := fun v h => ∃ a c : Int, v = .tu [.c (.int .i64 (a)), .c (.int .i64 (c)), .c (.bool (!b))] ∧ h = []

theorem loud_spec (nx ny : Nat) (z : Int) (m : List (List Int)) (hx : nx ≤ 3) (hy : ny ≤ 3) (hy1 : 1 ≤ ny) (hx1 : 1 ≤ nx) (hm : m.length = nx * ny) (h4 : ∀ r, r ∈ m → r.length = 4) :
    FSpec Tryz.prog 91 [.ag [.c (.int .i64 (nx)), .c (.int .i64 (ny)), .c (.int .i64 (z)), .t (.rows m)]] (loudP (quietF nx ny m)) := by
  have hn : nx * ny ≤ 3 * 3 := Nat.mul_le_mul hx hy
  refine fspec tyOk mx Tryz.func91 rfl (by kernel_rfl) rfl ?_
  conv => whnf
  refine ACall.use (questions_spec _ _ _ _) ?_
  conv => whnf
  refine aloopI tyOk mx (fun p : Nat => (⟨42, [(1, .ptr 0 0), (5, .ptr 1 0), (11, .c (.int .i64 (p)))], [(0, .cells 26 [.c (.int .i64 (nx)), .c (.int .i64 (ny)), .c (.int .i64 (z)), .t (.rows m)]), (1, .cells 49 [.c (.int .i64 (nx)), .c (.int .i64 (ny))])], 2⟩ : St)) (fun p => p ≤ 2 ∧ (1 ≤ p → (List.range nx).all (q0r ny m) = true) ∧ (2 ≤ p → (List.range ny).all (q1r nx ny m) = true)) (fun p => 2 - p) 0 ⟨by omega, by omega, by omega⟩ none (by refine ⟨rfl, rfl, ?_, ?_⟩ <;> ((repeat' (first | exact trivial | exact rfl | refine And.intro ?_ ?_)) <;> (try ((conv => whnf); first | refine vint ?_ | refine vboo ?_ | refine rint ?_ | refine rrow ?_ | skip)) <;> (try first | omega | (simp; done) | ((repeat rw [flts_closed _ (by assumption)]); exact vws_closed _ (by assumption))))) (fun p hI => ?_)
  obtain ⟨hp, hq0, hq1⟩ := hI
  refine ⟨fun h => ?_, fun h => ?_⟩
  · have h : p < 2 := by have := of_decide_eq_true h; omega
    have hp2 : p = 0 ∨ p = 1 := by omega
    rcases hp2 with rfl | rfl
    · conv => whnf
      refine ⟨0, rfl, by omega, by simp, ?_⟩
      conv => whnf
      refine aloopI tyOk mx (fun x : Nat => (⟨42, [(1, .ptr 0 0), (5, .ptr 1 0), (6, .c (.int .i64 ((0 : Nat)))), (11, .c (.int .i64 ((0 : Nat)))), (16, .c (.int .i64 (nx))), (17, .c (.int .i64 (x)))], [(0, .cells 26 [.c (.int .i64 (nx)), .c (.int .i64 (ny)), .c (.int .i64 (z)), .t (.rows m)]), (1, .cells 49 [.c (.int .i64 (nx)), .c (.int .i64 (ny))])], 2⟩ : St)) (fun x => x ≤ nx ∧ (List.range x).all (q0r ny m) = true) (fun x => nx - x) 0 ⟨by omega, rfl⟩ none (by refine ⟨rfl, rfl, ?_, ?_⟩ <;> ((repeat' (first | exact trivial | exact rfl | refine And.intro ?_ ?_)) <;> (try ((conv => whnf); first | refine vint ?_ | refine vboo ?_ | refine rint ?_ | refine rrow ?_ | skip)) <;> (try first | omega | (simp; done) | ((repeat rw [flts_closed _ (by assumption)]); exact vws_closed _ (by assumption))))) (fun x hI => ?_)
      obtain ⟨hxx, hpx⟩ := hI
      refine ⟨fun h2 => ?_, fun h2 => ?_⟩
      · have h2 := ltT h2
        have hlt0 := ix_lt h2 (show 0 < ny by omega)
        conv => whnf
        refine ⟨1, rfl, by omega, by simp, ?_⟩
        conv => whnf
        refine aloopI tyOk mx (fun y : Nat => (⟨42, [(1, .ptr 0 0), (5, .ptr 1 0), (6, .c (.int .i64 ((0 : Nat)))), (7, .c (.int .i64 (x))), (11, .c (.int .i64 ((0 : Nat)))), (16, .c (.int .i64 (nx))), (17, .c (.int .i64 (x))), (23, .c (.int .i64 (ny))), (24, .c (.int .i64 (y)))], [(0, .cells 26 [.c (.int .i64 (nx)), .c (.int .i64 (ny)), .c (.int .i64 (z)), .t (.rows m)]), (1, .cells 49 [.c (.int .i64 (nx)), .c (.int .i64 (ny))])], 2⟩ : St)) (fun y => y ≤ ny ∧ (List.range y).all (q0 ny m x) = true) (fun y => ny - y) 0 ⟨by omega, rfl⟩ none (by refine ⟨rfl, rfl, ?_, ?_⟩ <;> ((repeat' (first | exact trivial | exact rfl | refine And.intro ?_ ?_)) <;> (try ((conv => whnf); first | refine vint ?_ | refine vboo ?_ | refine rint ?_ | refine rrow ?_ | skip)) <;> (try first | omega | (simp; done) | ((repeat rw [flts_closed _ (by assumption)]); exact vws_closed _ (by assumption))))) (fun y hI => ?_)
        obtain ⟨hyy, hpy⟩ := hI
        refine ⟨fun h3 => ?_, fun h3 => ?_⟩
        · have h3 := ltT h3
          have hlt := ix_lt h2 h3
          conv => whnf
          refine ADraw.std tyOk mx ⟨by kernel_rfl, ?_⟩
          conv => whnf
          refine QCall.use (ones0_spec nx ny x y z m (by omega) (by omega) h4) ?_
          conv => whnf
          refine QCall.use (ones0_spec nx ny x 0 z m (by omega) (by omega) h4) ?_
          conv => whnf
          refine ⟨fun h5 => ?_, fun h5 => ?_⟩
          · have e : quietF nx ny m = false := by
              have : q0 ny m x y = false := by rw [q0, beq_eq_false_iff_ne]; exact bne_iff_ne.1 h5
              rw [quietF, rall_false h2 (by rw [q0r, rall_false h3 this]), Bool.false_and]
            conv => whnf
            exact ⟨_, _, by rw [e]; rfl, rfl⟩
          · have e : q0 ny m x y = true := by rw [q0, beq_iff_eq]; exact bne_eq_false_iff_eq.1 h5
            conv => whnf
            rw [nat_wrap (by omega)]
            exact ⟨y + 1, none, (by refine ⟨rfl, rfl, ?_, ?_⟩ <;> ((repeat' (first | exact trivial | exact rfl | refine And.intro ?_ ?_)) <;> (try ((conv => whnf); first | refine vint ?_ | refine vboo ?_ | refine rint ?_ | refine rrow ?_ | skip)) <;> (try first | omega | (simp; done) | ((repeat rw [flts_closed _ (by assumption)]); exact vws_closed _ (by assumption))))), ⟨by omega, rall_succ hpy e⟩, by omega⟩
        · have h3 := ltF h3
          obtain rfl : y = ny := by omega
          conv => whnf
          rw [nat_wrap (by omega)]
          exact ⟨x + 1, none, (by refine ⟨rfl, rfl, ?_, ?_⟩ <;> ((repeat' (first | exact trivial | exact rfl | refine And.intro ?_ ?_)) <;> (try ((conv => whnf); first | refine vint ?_ | refine vboo ?_ | refine rint ?_ | refine rrow ?_ | skip)) <;> (try first | omega | (simp; done) | ((repeat rw [flts_closed _ (by assumption)]); exact vws_closed _ (by assumption))))), ⟨by omega, rall_succ hpx hpy⟩, by omega⟩
      · have h2 := ltF h2
        obtain rfl : x = nx := by omega
        conv => whnf
        exact ⟨1, none, (by refine ⟨rfl, rfl, ?_, ?_⟩ <;> ((repeat' (first | exact trivial | exact rfl | refine And.intro ?_ ?_)) <;> (try ((conv => whnf); first | refine vint ?_ | refine vboo ?_ | refine rint ?_ | refine rrow ?_ | skip)) <;> (try first | omega | (simp; done) | ((repeat rw [flts_closed _ (by assumption)]); exact vws_closed _ (by assumption))))), ⟨by omega, fun _ => hpx, by omega⟩, by omega⟩
    · conv => whnf
      refine ⟨1, rfl, by omega, by simp, ?_⟩
      conv => whnf
      refine aloopI tyOk mx (fun y : Nat => (⟨42, [(1, .ptr 0 0), (5, .ptr 1 0), (6, .c (.int .i64 ((1 : Nat)))), (11, .c (.int .i64 ((1 : Nat)))), (16, .c (.int .i64 (ny))), (17, .c (.int .i64 (y)))], [(0, .cells 26 [.c (.int .i64 (nx)), .c (.int .i64 (ny)), .c (.int .i64 (z)), .t (.rows m)]), (1, .cells 49 [.c (.int .i64 (nx)), .c (.int .i64 (ny))])], 2⟩ : St)) (fun y => y ≤ ny ∧ (List.range y).all (q1r nx ny m) = true) (fun y => ny - y) 0 ⟨by omega, rfl⟩ none (by refine ⟨rfl, rfl, ?_, ?_⟩ <;> ((repeat' (first | exact trivial | exact rfl | refine And.intro ?_ ?_)) <;> (try ((conv => whnf); first | refine vint ?_ | refine vboo ?_ | refine rint ?_ | refine rrow ?_ | skip)) <;> (try first | omega | (simp; done) | ((repeat rw [flts_closed _ (by assumption)]); exact vws_closed _ (by assumption))))) (fun y hI => ?_)
      obtain ⟨hyy, hpy⟩ := hI
      refine ⟨fun h2 => ?_, fun h2 => ?_⟩
      · have h2 := ltT h2
        have hlt0 := ix_lt (show 0 < nx by omega) h2
        conv => whnf
        refine ⟨0, rfl, by omega, by simp, ?_⟩
        conv => whnf
        refine aloopI tyOk mx (fun x : Nat => (⟨42, [(1, .ptr 0 0), (5, .ptr 1 0), (6, .c (.int .i64 ((1 : Nat)))), (7, .c (.int .i64 (y))), (11, .c (.int .i64 ((1 : Nat)))), (16, .c (.int .i64 (ny))), (17, .c (.int .i64 (y))), (23, .c (.int .i64 (nx))), (24, .c (.int .i64 (x)))], [(0, .cells 26 [.c (.int .i64 (nx)), .c (.int .i64 (ny)), .c (.int .i64 (z)), .t (.rows m)]), (1, .cells 49 [.c (.int .i64 (nx)), .c (.int .i64 (ny))])], 2⟩ : St)) (fun x => x ≤ nx ∧ (List.range x).all (q1 ny m y) = true) (fun x => nx - x) 0 ⟨by omega, rfl⟩ none (by refine ⟨rfl, rfl, ?_, ?_⟩ <;> ((repeat' (first | exact trivial | exact rfl | refine And.intro ?_ ?_)) <;> (try ((conv => whnf); first | refine vint ?_ | refine vboo ?_ | refine rint ?_ | refine rrow ?_ | skip)) <;> (try first | omega | (simp; done) | ((repeat rw [flts_closed _ (by assumption)]); exact vws_closed _ (by assumption))))) (fun x hI => ?_)
        obtain ⟨hxx, hpx⟩ := hI
        refine ⟨fun h3 => ?_, fun h3 => ?_⟩
        · have h3 := ltT h3
          have hlt := ix_lt h3 h2
          conv => whnf
          refine ADraw.std tyOk mx ⟨by kernel_rfl, ?_⟩
          conv => whnf
          refine QCall.use (ones1_spec nx ny y x z m (by omega) (by omega) h4) ?_
          conv => whnf
          refine QCall.use (ones1_spec nx ny y 0 z m (by omega) (by omega) h4) ?_
          conv => whnf
          refine ⟨fun h5 => ?_, fun h5 => ?_⟩
          · have e : quietF nx ny m = false := by
              have : q1 ny m y x = false := by rw [q1, beq_eq_false_iff_ne]; exact bne_iff_ne.1 h5
              rw [quietF, rall_false (p := q1r nx ny m) h2 (by rw [q1r, rall_false h3 this]), Bool.and_false]
            conv => whnf
            exact ⟨_, _, by rw [e]; rfl, rfl⟩
          · have e : q1 ny m y x = true := by rw [q1, beq_iff_eq]; exact bne_eq_false_iff_eq.1 h5
            conv => whnf
            rw [nat_wrap (by omega)]
            exact ⟨x + 1, none, (by refine ⟨rfl, rfl, ?_, ?_⟩ <;> ((repeat' (first | exact trivial | exact rfl | refine And.intro ?_ ?_)) <;> (try ((conv => whnf); first | refine vint ?_ | refine vboo ?_ | refine rint ?_ | refine rrow ?_ | skip)) <;> (try first | omega | (simp; done) | ((repeat rw [flts_closed _ (by assumption)]); exact vws_closed _ (by assumption))))), ⟨by omega, rall_succ hpx e⟩, by omega⟩
        · have h3 := ltF h3
          obtain rfl : x = nx := by omega
          conv => whnf
          rw [nat_wrap (by omega)]
          exact ⟨y + 1, none, (by refine ⟨rfl, rfl, ?_, ?_⟩ <;> ((repeat' (first | exact trivial | exact rfl | refine And.intro ?_ ?_)) <;> (try ((conv => whnf); first | refine vint ?_ | refine vboo ?_ | refine rint ?_ | refine rrow ?_ | skip)) <;> (try first | omega | (simp; done) | ((repeat rw [flts_closed _ (by assumption)]); exact vws_closed _ (by assumption))))), ⟨by omega, rall_succ hpy hpx⟩, by omega⟩
      · have h2 := ltF h2
        obtain rfl : y = ny := by omega
        conv => whnf
        exact ⟨2, none, (by refine ⟨rfl, rfl, ?_, ?_⟩ <;> ((repeat' (first | exact trivial | exact rfl | refine And.intro ?_ ?_)) <;> (try ((conv => whnf); first | refine vint ?_ | refine vboo ?_ | refine rint ?_ | refine rrow ?_ | skip)) <;> (try first | omega | (simp; done) | ((repeat rw [flts_closed _ (by assumption)]); exact vws_closed _ (by assumption))))), ⟨by omega, fun _ => hq0 (by omega), fun _ => hpy⟩, by omega⟩
  · have h : ¬ p < 2 := by have := of_decide_eq_false h; omega
    obtain rfl : p = 2 := by omega
    have e : quietF nx ny m = true := by rw [quietF, hq0 (by omega), hq1 (by omega)]; rfl
    conv => whnf
    exact ⟨_, _, by rw [e]; rfl, rfl⟩

theorem l2One0_spec (r : List Int) (hr : r.length = 4) : FSpec Tryz.prog 65 [.t (.ints .i64 r), .c (.int .i64 (0))] (ex (.c (.int .i64 (one0 r))) []) := by
  refine fspec tyOk mx Tryz.func65 rfl (by kernel_rfl) rfl ?_
  conv => whnf
  refine ⟨fun _ => ?_, fun h => absurd h (by decide)⟩
  refine ADraw.std tyOk mx ⟨by kernel_rfl, 2, rfl, by omega, 3, rfl, by omega, ?_⟩
  conv => whnf
  exact ⟨rfl, rfl⟩
theorem l2One1_spec (r : List Int) (hr : r.length = 4) : FSpec Tryz.prog 65 [.t (.ints .i64 r), .c (.int .i64 (1))] (ex (.c (.int .i64 (one1 r))) []) := by
  refine fspec tyOk mx Tryz.func65 rfl (by kernel_rfl) rfl ?_
  conv => whnf
  refine ⟨fun h => absurd h (by decide), fun _ => ?_⟩
  refine ADraw.std tyOk mx ⟨by kernel_rfl, 1, rfl, by omega, 3, rfl, by omega, ?_⟩
  conv => whnf
  exact ⟨rfl, rfl⟩

def lqP (b : Bool) : AVal → List (Nat × ARow) → Prop := fun v h => ∃ a c : Int, v = .tu [.c (.int .i64 (a)), .c (.int .i64 (c))] ∧ h = [] ∧ decide (a < 0) = b

theorem l2Loud_spec (nx ny : Nat) (z : Int) (m : List (List Int)) (hx : nx ≤ 3) (hy : ny ≤ 3) (hy1 : 1 ≤ ny) (hx1 : 1 ≤ nx) (hm : m.length = nx * ny) (h4 : ∀ r, r ∈ m → r.length = 4) :
    FSpec Tryz.prog 92 [.ag [.c (.int .i64 (nx)), .c (.int .i64 (ny)), .c (.int .i64 (z)), .t (.rows m)]] (lqP (quietF nx ny m)) := by
  have hn : nx * ny ≤ 3 * 3 := Nat.mul_le_mul hx hy
  refine fspec tyOk mx Tryz.func92 rfl (by kernel_rfl) rfl ?_
  conv => whnf
  refine aloopI tyOk mx (fun x : Nat => (⟨54, [(1, .ptr 0 0), (4, .c (.int .i64 (x)))], [(0, .cells 26 [.c (.int .i64 (nx)), .c (.int .i64 (ny)), .c (.int .i64 (z)), .t (.rows m)])], 1⟩ : St)) (fun x => x ≤ nx ∧ (List.range x).all (q0r ny m) = true) (fun x => nx - x) 0 ⟨by omega, rfl⟩ none (by refine ⟨rfl, rfl, ?_, ?_⟩ <;> ((repeat' (first | exact trivial | exact rfl | refine And.intro ?_ ?_)) <;> (try ((conv => whnf); first | refine vint ?_ | refine vboo ?_ | refine rint ?_ | refine rrow ?_ | skip)) <;> (try first | omega | (simp; done) | ((repeat rw [flts_closed _ (by assumption)]); exact vws_closed _ (by assumption))))) (fun x hI => ?_)
  obtain ⟨hxx, hpx⟩ := hI
  refine ⟨fun h2 => ?_, fun h2 => ?_⟩
  · have h2 := ltT h2
    have hlt0 := ix_lt h2 (show 0 < ny by omega)
    conv => whnf
    refine aloopI tyOk mx (fun j : Nat => (⟨54, [(1, .ptr 0 0), (4, .c (.int .i64 (x))), (5, .c (.int .i64 ((j + 1 : Nat))))], [(0, .cells 26 [.c (.int .i64 (nx)), .c (.int .i64 (ny)), .c (.int .i64 (z)), .t (.rows m)])], 1⟩ : St)) (fun j => j + 1 ≤ ny ∧ (List.range (j + 1)).all (q0 ny m x) = true) (fun j => ny - j) 0 ⟨by omega, by rw [List.range_one]; simp [q0_zero]⟩ none (by refine ⟨rfl, rfl, ?_, ?_⟩ <;> ((repeat' (first | exact trivial | exact rfl | refine And.intro ?_ ?_)) <;> (try ((conv => whnf); first | refine vint ?_ | refine vboo ?_ | refine rint ?_ | refine rrow ?_ | skip)) <;> (try first | omega | (simp; done) | ((repeat rw [flts_closed _ (by assumption)]); exact vws_closed _ (by assumption))))) (fun j hI => ?_)
    obtain ⟨hyy, hpy⟩ := hI
    refine ⟨fun h3 => ?_, fun h3 => ?_⟩
    · have h3 := ltT h3
      have hlt := ix_lt h2 h3
      refine ADraw.plan tyOk mx (.q 0 (.q 1 (.q 2 (.q 5 (.q 6 (.last 3 (.last 4 (.last 7 (.last 8 (.q 9 (.done)))))))))) : Plan) (by kernel_rfl) ?_
      conv => whnf
      refine ACall.useR (l2Row_spec nx ny x (j + 1) z m (by omega) (by omega)) ?_
      conv => whnf
      refine ACall.useR (l2One0_spec _ (h4 _ (getD_mem (show x * ny + (j + 1) < m.length by omega)))) ?_
      conv => whnf
      refine ACall.useR (l2Row_spec nx ny x 0 z m (by omega) (by omega)) ?_
      conv => whnf
      refine ACall.useR (l2One0_spec _ (h4 _ (getD_mem (show x * ny + 0 < m.length by omega)))) ?_
      conv => whnf
      refine ⟨fun h5 => ?_, fun h5 => ?_⟩
      · have e : quietF nx ny m = false := by
          have : q0 ny m x (j + 1) = false := by rw [q0, beq_eq_false_iff_ne]; exact bne_iff_ne.1 h5
          rw [quietF, rall_false h2 (by rw [q0r, rall_false h3 this]), Bool.false_and]
        conv => whnf
        exact ⟨_, _, rfl, rfl, by rw [e]; decide⟩
      · have e : q0 ny m x (j + 1) = true := by rw [q0, beq_iff_eq]; exact bne_eq_false_iff_eq.1 h5
        conv => whnf
        rw [nat_wrap (by omega)]
        exact ⟨j + 1, none, (by refine ⟨rfl, rfl, ?_, ?_⟩ <;> ((repeat' (first | exact trivial | exact rfl | refine And.intro ?_ ?_)) <;> (try ((conv => whnf); first | refine vint ?_ | refine vboo ?_ | refine rint ?_ | refine rrow ?_ | skip)) <;> (try first | omega | (simp; done) | ((repeat rw [flts_closed _ (by assumption)]); exact vws_closed _ (by assumption))))), ⟨by omega, rall_succ hpy e⟩, by omega⟩
    · have h3 := ltF h3
      obtain rfl : ny = j + 1 := by omega
      conv => whnf
      rw [nat_wrap (by omega)]
      exact ⟨x + 1, none, (by refine ⟨rfl, rfl, ?_, ?_⟩ <;> ((repeat' (first | exact trivial | exact rfl | refine And.intro ?_ ?_)) <;> (try ((conv => whnf); first | refine vint ?_ | refine vboo ?_ | refine rint ?_ | refine rrow ?_ | skip)) <;> (try first | omega | (simp; done) | ((repeat rw [flts_closed _ (by assumption)]); exact vws_closed _ (by assumption))))), ⟨by omega, rall_succ hpx hpy⟩, by omega⟩
  · have h2 := ltF h2
    have hall : (List.range nx).all (q0r ny m) = true := by
      have : x = nx := by omega
      rw [← this]; exact hpx
    conv => whnf
    refine aloopI tyOk mx (fun y : Nat => (⟨54, [(1, .ptr 0 0), (6, .c (.int .i64 (y)))], [(0, .cells 26 [.c (.int .i64 (nx)), .c (.int .i64 (ny)), .c (.int .i64 (z)), .t (.rows m)])], 1⟩ : St)) (fun y => y ≤ ny ∧ (List.range y).all (q1r nx ny m) = true) (fun y => ny - y) 0 ⟨by omega, rfl⟩ none (by refine ⟨rfl, rfl, ?_, ?_⟩ <;> ((repeat' (first | exact trivial | exact rfl | refine And.intro ?_ ?_)) <;> (try ((conv => whnf); first | refine vint ?_ | refine vboo ?_ | refine rint ?_ | refine rrow ?_ | skip)) <;> (try first | omega | (simp; done) | ((repeat rw [flts_closed _ (by assumption)]); exact vws_closed _ (by assumption))))) (fun y hI => ?_)
    obtain ⟨hyy, hpy⟩ := hI
    refine ⟨fun h2 => ?_, fun h2 => ?_⟩
    · have h2 := ltT h2
      have hlt0 := ix_lt (show 0 < nx by omega) h2
      conv => whnf
      refine aloopI tyOk mx (fun j : Nat => (⟨54, [(1, .ptr 0 0), (6, .c (.int .i64 (y))), (7, .c (.int .i64 ((j + 1 : Nat))))], [(0, .cells 26 [.c (.int .i64 (nx)), .c (.int .i64 (ny)), .c (.int .i64 (z)), .t (.rows m)])], 1⟩ : St)) (fun j => j + 1 ≤ nx ∧ (List.range (j + 1)).all (q1 ny m y) = true) (fun j => nx - j) 0 ⟨by omega, by rw [List.range_one]; simp [q1_zero]⟩ none (by refine ⟨rfl, rfl, ?_, ?_⟩ <;> ((repeat' (first | exact trivial | exact rfl | refine And.intro ?_ ?_)) <;> (try ((conv => whnf); first | refine vint ?_ | refine vboo ?_ | refine rint ?_ | refine rrow ?_ | skip)) <;> (try first | omega | (simp; done) | ((repeat rw [flts_closed _ (by assumption)]); exact vws_closed _ (by assumption))))) (fun j hI => ?_)
      obtain ⟨hxx2, hpx2⟩ := hI
      refine ⟨fun h3 => ?_, fun h3 => ?_⟩
      · have h3 := ltT h3
        have hlt := ix_lt h3 h2
        refine ADraw.plan tyOk mx (.q 0 (.q 1 (.q 2 (.q 5 (.q 6 (.last 3 (.last 4 (.last 7 (.last 8 (.q 9 (.done)))))))))) : Plan) (by kernel_rfl) ?_
        conv => whnf
        refine ACall.useR (l2Row_spec nx ny (j + 1) y z m (by omega) (by omega)) ?_
        conv => whnf
        refine ACall.useR (l2One1_spec _ (h4 _ (getD_mem (show (j + 1) * ny + y < m.length by omega)))) ?_
        conv => whnf
        refine ACall.useR (l2Row_spec nx ny 0 y z m (by omega) (by omega)) ?_
        conv => whnf
        refine ACall.useR (l2One1_spec _ (h4 _ (getD_mem (show 0 * ny + y < m.length by omega)))) ?_
        conv => whnf
        refine ⟨fun h5 => ?_, fun h5 => ?_⟩
        · have e : quietF nx ny m = false := by
            have : q1 ny m y (j + 1) = false := by rw [q1, beq_eq_false_iff_ne]; exact bne_iff_ne.1 h5
            rw [quietF, rall_false (p := q1r nx ny m) h2 (by rw [q1r, rall_false h3 this]), Bool.and_false]
          conv => whnf
          exact ⟨_, _, rfl, rfl, by rw [e]; decide⟩
        · have e : q1 ny m y (j + 1) = true := by rw [q1, beq_iff_eq]; exact bne_eq_false_iff_eq.1 h5
          conv => whnf
          rw [nat_wrap (by omega)]
          exact ⟨j + 1, none, (by refine ⟨rfl, rfl, ?_, ?_⟩ <;> ((repeat' (first | exact trivial | exact rfl | refine And.intro ?_ ?_)) <;> (try ((conv => whnf); first | refine vint ?_ | refine vboo ?_ | refine rint ?_ | refine rrow ?_ | skip)) <;> (try first | omega | (simp; done) | ((repeat rw [flts_closed _ (by assumption)]); exact vws_closed _ (by assumption))))), ⟨by omega, rall_succ hpx2 e⟩, by omega⟩
      · have h3 := ltF h3
        have e3 : nx = j + 1 := by omega
        conv => whnf
        rw [nat_wrap (by omega)]
        exact ⟨y + 1, none, (by refine ⟨rfl, rfl, ?_, ?_⟩ <;> ((repeat' (first | exact trivial | exact rfl | refine And.intro ?_ ?_)) <;> (try ((conv => whnf); first | refine vint ?_ | refine vboo ?_ | refine rint ?_ | refine rrow ?_ | skip)) <;> (try first | omega | (simp; done) | ((repeat rw [flts_closed _ (by assumption)]); exact vws_closed _ (by assumption))))), ⟨by omega, rall_succ hpy (by rw [q1r, e3]; exact hpx2)⟩, by omega⟩
    · have h2 := ltF h2
      obtain rfl : y = ny := by omega
      have e : quietF nx y m = true := by rw [quietF, hall, hpy]; rfl
      conv => whnf
      exact ⟨_, _, rfl, rfl, by rw [e]; decide⟩

theorem l2Quiet_spec (nx ny : Nat) (z : Int) (m : List (List Int)) (hx : nx ≤ 3) (hy : ny ≤ 3) (hy1 : 1 ≤ ny) (hx1 : 1 ≤ nx) (hm : m.length = nx * ny) (h4 : ∀ r, r ∈ m → r.length = 4) :
    FSpec Tryz.prog 56 [.ag [.c (.int .i64 (nx)), .c (.int .i64 (ny)), .c (.int .i64 (z)), .t (.rows m)]] (ex (.c (.bool (quietF nx ny m))) []) := by
  refine fspec tyOk mx Tryz.func56 rfl (by kernel_rfl) rfl ?_
  conv => whnf
  refine ACall.use' (l2Loud_spec nx ny z m hx hy hy1 hx1 hm h4) (fun v h hv => ?_)
  obtain ⟨a, c, rfl, rfl, e⟩ := hv
  conv => whnf
  exact ⟨by rw [e], rfl⟩

def quietB (x y z : Int) (m : List (List Int)) : Bool := goodB x y z m && quietF x.toNat y.toNat m
theorem isQuiet_spec (x y z : Int) (m : List (List Int)) (km : SzM m) : FSpec Tryz.prog 48 [.ag [.c (.int .i64 (x)), .c (.int .i64 (y)), .c (.int .i64 (z)), .t (.rows m)]] (ex (.c (.bool (quietB x y z m))) []) := by
  refine fspec tyOk mx Tryz.func48 rfl (by kernel_rfl) rfl ?_
  conv => whnf
  refine ACall.use (IsBox_spec x y z m km) ?_
  conv => whnf
  refine ⟨fun h => ?_, fun h => ?_⟩
  · have h : goodB x y z m = false := by simpa using h
    conv => whnf
    exact ⟨by rw [quietB, h]; rfl, rfl⟩
  · have h : goodB x y z m = true := by simpa using h
    have h' := h
    obtain ⟨nx, ny, rfl, rfl, g1, g2, g3, g4, g5, g6, g7, g8, g9⟩ := goodB_spec h
    conv => whnf
    refine ACall.use' (loud_spec nx ny z m g2 g4 g3 g1 g7 (fun r hr => (g9 r hr).1)) (fun v h hv => ?_)
    obtain ⟨a, c, rfl, rfl⟩ := hv
    conv => whnf
    refine ⟨?_, rfl⟩
    rw [quietB, h', Bool.not_not]; rfl
def qpB (x y z : Int) (m : List (List Int)) : Bool := pairB x y z m && quietF 2 2 m
theorem qpB_spec {x y z : Int} {m : List (List Int)} (h : qpB x y z m = true) : x = 2 ∧ y = 2 ∧ 1 ≤ z ∧ z ≤ 1000 ∧ m.length = 4 ∧ (∀ r, r ∈ m → r.length = 4 ∧ (∀ v, v ∈ r → 0 ≤ v ∧ v ≤ z) ∧ sumF r r.length = z) := by
  simp only [qpB, Bool.and_eq_true] at h
  exact pairB_spec h.1
end Go.Proofs.YtkjdplglenjijaaGreat
/- Scaled boxes; mixtures of an equal-sum box and noise: reference and program. -/
namespace Go.Aw
def timesR (k d : Int) (r : List Int) : List Int := r.map fun v => W (Int.tdiv (W (v * k)) d)
def timesL (m : List (List Int)) (k d : Int) : List (List Int) := m.map (timesR k d)
theorem timesL_len (m : List (List Int)) (k d : Int) : (timesL m k d).length = m.length := by simp [timesL]
/-- rows of which the first have something else in them -/
def partW (g : Int → Int) (M : List (List Int)) (i n : Nat) : List (List Int) :=
  (List.range 4).map fun p => (List.range 4).map fun q => if p < i ∨ (p = i ∧ q < n) then g ((M.getD p []).getD q 0) else (M.getD p []).getD q 0
theorem partW_step (g : Int → Int) (M : List (List Int)) {i n : Nat} (hi : i < 4) (hn : n < 4) :
    (partW g M i n).set i (((partW g M i n).getD i []).set n (g (((partW g M i n).getD i []).getD n 0))) = partW g M i (n + 1) := by
  have h1 : i = 0 ∨ i = 1 ∨ i = 2 ∨ i = 3 := by omega
  have h2 : n = 0 ∨ n = 1 ∨ n = 2 ∨ n = 3 := by omega
  rcases h1 with rfl | rfl | rfl | rfl <;> rcases h2 with rfl | rfl | rfl | rfl <;> rfl
theorem partW_end (g : Int → Int) (M : List (List Int)) {i : Nat} (hi : i < 4) : partW g M i 4 = partW g M (i + 1) 0 := by
  have h1 : i = 0 ∨ i = 1 ∨ i = 2 ∨ i = 3 := by omega
  rcases h1 with rfl | rfl | rfl | rfl <;> rfl
theorem partW_len (g : Int → Int) (M : List (List Int)) (i n : Nat) : (partW g M i n).length = 4 := by simp [partW]
theorem partW_row (g : Int → Int) (M : List (List Int)) {i n p : Nat} (hp : p < 4) : ((partW g M i n).getD p []).length = 4 := by
  rw [partW, range_getD hp]; simp
theorem partW_all (g : Int → Int) (f : Nat → Nat → Nat → Nat → Int) : partW g (boxRows f 2 2) 4 0 = boxRows (fun x y a b => g (f x y a b)) 2 2 := rfl
theorem partW_zero (g : Int → Int) (f : Nat → Nat → Nat → Nat → Int) : partW g (boxRows f 2 2) 0 0 = boxRows f 2 2 := rfl
theorem boxRows_rows (f : Nat → Nat → Nat → Nat → Int) (nx ny : Nat) : ∀ r, r ∈ boxRows f nx ny → r.length = 4 := fun q hq => by
  obtain ⟨i, _, hq⟩ := List.mem_flatMap.1 hq
  obtain ⟨j, _, rfl⟩ := List.mem_map.1 hq
  simp [boxRow]
theorem boxRows_get (f : Nat → Nat → Nat → Nat → Int) {x y a b : Nat} (hx : x < 2) (hy : y < 2) (ha : a < 2) (hb : b < 2) : ((boxRows f 2 2).getD (x * 2 + y) []).getD (2 * a + b) 0 = f x y a b := by
  have h1 : x = 0 ∨ x = 1 := by omega
  have h2 : y = 0 ∨ y = 1 := by omega
  have h3 : a = 0 ∨ a = 1 := by omega
  have h4 : b = 0 ∨ b = 1 := by omega
  rcases h1 with rfl | rfl <;> rcases h2 with rfl | rfl <;> rcases h3 with rfl | rfl <;> rcases h4 with rfl | rfl <;> rfl
theorem tdiv_one (a : Int) : a.tdiv 1 = a := Int.tdiv_one a
theorem WW (a : Int) : W (W a) = W a := by
  have hb : -9223372036854775808 ≤ W a ∧ W a ≤ 9223372036854775807 := by
    show -9223372036854775808 ≤ IntKind.i64.wrap _ ∧ IntKind.i64.wrap _ ≤ _
    rw [IntKind.wrap_i64]; omega
  exact w64 hb.1 hb.2
end Go.Aw
namespace Go.Proofs.YtkjdplglenjijaaGreat
open Go.Aw
set_option maxRecDepth 100000
set_option maxHeartbeats 4000000


def nsNum (k sh no : Int) (x y a b : Nat) : Int := W (W (sh * eqNum k x y a b) + no)
def nsM (k sh no : Int) : List (List Int) := boxRows (nsNum k sh no) 2 2
def nsW (sh no : Int) : Int := W (W (2 * sh) + W (4 * no))
def nsIn (k sh no : Int) : Bool := inR k 0 7 && inR sh 0 1000 && inR no 0 1000
def nsOk (k sh no : Int) : Bool := nsIn k sh no && goodB 2 2 (nsW sh no) (nsM k sh no)
def nsR (k sh no : Int) : List (List Int) := if nsOk k sh no then nsM k sh no else []
theorem nsM_sz (k sh no : Int) : SzM (nsM k sh no) := by
  have h1 : (nsM k sh no).length = 4 := boxRows_len _ 2 2
  have h2 := tot_le_mul (m := nsM k sh no) (n := 4) (fun q hq => by rw [boxRows_rows _ _ _ q hq]; omega)
  unfold SzM; omega

theorem NoisySum_bd (k : Int) (_hk : InR k) (sh : Int) (_hs : InR sh) (no : Int) (_hn : InR no) : (nsR k sh no).length ≤ 1048576 ∧ tot (nsR k sh no) ≤ 1048576 := by
  unfold nsR
  split
  · have := (nsM_sz k sh no).all
    omega
  · simp [tot]
end Go.Proofs.YtkjdplglenjijaaGreat
/- Parts of quiet boxes; even boxes: reference and program. -/
namespace Go.Proofs.YtkjdplglenjijaaGreat
open Go.Aw
set_option maxRecDepth 100000
set_option maxHeartbeats 4000000
def esBest (m : List (List Int)) : Nat := bIx (fun i => (esL m).getD i 0) 7
def partN (z s : Int) : Int := W (Int.tdiv (if W (s - W (2 * z)) > 0 then W (s - W (2 * z)) else 0) 2)
theorem esL_len (m : List (List Int)) : (esL m).length = 8 := by simp [esL]

theorem l1Mst_spec (a b : Int) : FSpec Tryz.prog 70 [.c (.int .i64 a), .c (.int .i64 b)] (ex (.c (.int .i64 (if a > b then a else b))) []) := by
  refine fspec tyOk mx Tryz.func70 rfl (by kernel_rfl) rfl ?_
  conv => whnf
  refine ⟨fun h => ?_, fun h => ?_⟩
  · have h := of_decide_eq_true h
    conv => whnf
    exact ⟨by rw [if_pos h], rfl⟩
  · have h := of_decide_eq_false h
    conv => whnf
    exact ⟨by rw [if_neg h], rfl⟩
theorem tdiv2 (a : Int) : (0 ≤ a → a.tdiv 2 = a / 2) ∧ (a ≤ 0 → a.tdiv 2 = -((-a) / 2)) := by
  refine ⟨fun h => Int.tdiv_eq_ediv_of_nonneg h, fun h => ?_⟩
  have e : a.tdiv 2 = -((-a).tdiv 2) := by rw [Int.neg_tdiv, Int.neg_neg]
  rw [e, Int.tdiv_eq_ediv_of_nonneg (by omega)]
theorem part_eq (z s : Int) : (if IntKind.i64.wrap (Int.tdiv (IntKind.i64.wrap (s - IntKind.i64.wrap (2 * z))) 2) > 0 then IntKind.i64.wrap (Int.tdiv (IntKind.i64.wrap (s - IntKind.i64.wrap (2 * z))) 2) else 0) = partN z s := by
  unfold partN
  show (if IntKind.i64.wrap (Int.tdiv (W (s - W (2 * z))) 2) > 0 then IntKind.i64.wrap (Int.tdiv (W (s - W (2 * z))) 2) else 0) = _
  have hb : -9223372036854775808 ≤ W (s - W (2 * z)) ∧ W (s - W (2 * z)) ≤ 9223372036854775807 := by
    show -9223372036854775808 ≤ IntKind.i64.wrap _ ∧ IntKind.i64.wrap _ ≤ _
    rw [IntKind.wrap_i64]; omega
  generalize W (s - W (2 * z)) = a at hb ⊢
  obtain ⟨h1, h2⟩ := tdiv2 a
  by_cases h : a > 0
  · have h1 := h1 (by omega)
    have e1 : IntKind.i64.wrap (a.tdiv 2) = a.tdiv 2 := w64 (by omega) (by omega)
    rw [if_pos h, e1]
    show _ = IntKind.i64.wrap (a.tdiv 2)
    rw [e1]
    split <;> omega
  · have h2 := h2 (by omega)
    have e1 : IntKind.i64.wrap (a.tdiv 2) = a.tdiv 2 := w64 (by omega) (by omega)
    rw [if_neg h, e1]
    have : W (Int.tdiv 0 2) = 0 := rfl
    rw [this]
    split <;> omega


/-- the sums for the answer 1 -/
def cntL (nx ny : Nat) (m : List (List Int)) : List Int := (List.range nx).map (fun x => one0 (m.getD (x * ny + 0) [])) ++ (List.range ny).map (fun y => one1 (m.getD (0 * ny + y) []))
theorem counts_spec (nx ny : Nat) (z : Int) (m : List (List Int)) (hx : nx ≤ 3) (hy : ny ≤ 3) (hy1 : 1 ≤ ny) (hx1 : 1 ≤ nx) (hm : m.length = nx * ny) (h4 : ∀ r, r ∈ m → r.length = 4) :
    FSpec Tryz.prog 64 [.ag [.c (.int .i64 (nx)), .c (.int .i64 (ny)), .c (.int .i64 (z)), .t (.rows m)]] (ex (.own 0) [(0, .ints 3 .i64 (cntL nx ny m))]) := by
  have hn : nx * ny ≤ 3 * 3 := Nat.mul_le_mul hx hy
  refine fspec tyOk mx Tryz.func64 rfl (by kernel_rfl) rfl ?_
  conv => whnf
  refine ACall.use (questions_spec _ _ _ _) ?_
  conv => whnf
  refine aloopI tyOk mx (fun p : Nat => (⟨29, [(1, .ptr 0 0), (3, .own 1), (4, .ptr 2 0), (10, .c (.int .i64 (p)))], [(0, .cells 26 [.c (.int .i64 (nx)), .c (.int .i64 (ny)), .c (.int .i64 (z)), .t (.rows m)]), (1, .ints 3 .i64 (match p with | 0 => [] | 1 => (List.range nx).map (fun x => one0 (m.getD (x * ny + 0) [])) | _ => cntL nx ny m)), (2, .cells 49 [.c (.int .i64 (nx)), .c (.int .i64 (ny))])], 3⟩ : St)) (fun p => p ≤ 2) (fun p => 2 - p) 0 (by omega) none (by refine ⟨rfl, rfl, ?_, ?_⟩ <;> ((repeat' (first | exact trivial | exact rfl | refine And.intro ?_ ?_)) <;> (try ((conv => whnf); first | refine vint ?_ | refine vboo ?_ | refine rint ?_ | refine rrow ?_ | skip)) <;> (try first | omega | (simp; done) | ((repeat rw [flts_closed _ (by assumption)]); exact vws_closed _ (by assumption))))) (fun p hp => ?_)
  refine ⟨fun h => ?_, fun h => ?_⟩
  · have h : p < 2 := by have := of_decide_eq_true h; omega
    have hp2 : p = 0 ∨ p = 1 := by omega
    rcases hp2 with rfl | rfl
    · conv => whnf
      refine ⟨0, rfl, by omega, by simp, ?_⟩
      conv => whnf
      refine aloopI tyOk mx (fun x : Nat => (⟨29, [(1, .ptr 0 0), (3, .own 1), (4, .ptr 2 0), (5, .c (.int .i64 ((0 : Nat)))), (10, .c (.int .i64 ((0 : Nat)))), (15, .c (.int .i64 (nx))), (16, .c (.int .i64 (x)))], [(0, .cells 26 [.c (.int .i64 (nx)), .c (.int .i64 (ny)), .c (.int .i64 (z)), .t (.rows m)]), (1, .ints 3 .i64 ((List.range x).map (fun x => one0 (m.getD (x * ny + 0) [])))), (2, .cells 49 [.c (.int .i64 (nx)), .c (.int .i64 (ny))])], 3⟩ : St)) (fun x => x ≤ nx) (fun x => nx - x) 0 (Nat.zero_le _) none (by refine ⟨rfl, rfl, ?_, ?_⟩ <;> ((repeat' (first | exact trivial | exact rfl | refine And.intro ?_ ?_)) <;> (try ((conv => whnf); first | refine vint ?_ | refine vboo ?_ | refine rint ?_ | refine rrow ?_ | skip)) <;> (try first | omega | (simp; done) | ((repeat rw [flts_closed _ (by assumption)]); exact vws_closed _ (by assumption))))) (fun x hx2 => ?_)
      refine ⟨fun h2 => ?_, fun h2 => ?_⟩
      · have h2 := ltT h2
        have hlt := ix_lt h2 (show 0 < ny by omega)
        conv => whnf
        refine ACall.use (ones0_spec nx ny x 0 z m (by omega) (by omega) h4) ?_
        conv => whnf
        refine ⟨by simp [room]; omega, ?_⟩
        conv => whnf
        rw [nat_wrap (by omega)]
        refine ⟨x + 1, none, ?_, by omega, by omega⟩
        (refine ⟨rfl, rfl, ?_, ?_⟩ <;> ((repeat' (first | exact trivial | exact rfl | refine And.intro ?_ ?_)) <;> (try ((conv => whnf); first | refine vint ?_ | refine vboo ?_ | refine rint ?_ | refine rrow ?_ | skip)) <;> (try first | omega | (simp; done) | ((repeat rw [flts_closed _ (by assumption)]); exact vws_closed _ (by assumption)))))
        rw [← map_range_succ]; rfl
      · have h2 := ltF h2
        obtain rfl : x = nx := by omega
        conv => whnf
        exact ⟨1, none, (by refine ⟨rfl, rfl, ?_, ?_⟩ <;> ((repeat' (first | exact trivial | exact rfl | refine And.intro ?_ ?_)) <;> (try ((conv => whnf); first | refine vint ?_ | refine vboo ?_ | refine rint ?_ | refine rrow ?_ | skip)) <;> (try first | omega | (simp; done) | ((repeat rw [flts_closed _ (by assumption)]); exact vws_closed _ (by assumption))))), by omega, by omega⟩
    · conv => whnf
      refine ⟨1, rfl, by omega, by simp, ?_⟩
      conv => whnf
      refine aloopI tyOk mx (fun y : Nat => (⟨29, [(1, .ptr 0 0), (3, .own 1), (4, .ptr 2 0), (5, .c (.int .i64 ((1 : Nat)))), (10, .c (.int .i64 ((1 : Nat)))), (15, .c (.int .i64 (ny))), (16, .c (.int .i64 (y)))], [(0, .cells 26 [.c (.int .i64 (nx)), .c (.int .i64 (ny)), .c (.int .i64 (z)), .t (.rows m)]), (1, .ints 3 .i64 ((List.range nx).map (fun x => one0 (m.getD (x * ny + 0) [])) ++ (List.range y).map (fun y => one1 (m.getD (0 * ny + y) [])))), (2, .cells 49 [.c (.int .i64 (nx)), .c (.int .i64 (ny))])], 3⟩ : St)) (fun y => y ≤ ny) (fun y => ny - y) 0 (Nat.zero_le _) none (by refine ⟨rfl, rfl, ?_, ?_⟩ <;> ((repeat' (first | exact trivial | exact rfl | refine And.intro ?_ ?_)) <;> (try ((conv => whnf); first | refine vint ?_ | refine vboo ?_ | refine rint ?_ | refine rrow ?_ | skip)) <;> (try first | omega | (simp; done) | ((repeat rw [flts_closed _ (by assumption)]); exact vws_closed _ (by assumption))))) (fun y hy2 => ?_)
      refine ⟨fun h2 => ?_, fun h2 => ?_⟩
      · have h2 := ltT h2
        have hlt := ix_lt (show 0 < nx by omega) h2
        conv => whnf
        refine ACall.use (ones1_spec nx ny y 0 z m (by omega) (by omega) h4) ?_
        conv => whnf
        refine ⟨by simp [room]; omega, ?_⟩
        conv => whnf
        rw [nat_wrap (by omega)]
        refine ⟨y + 1, none, ?_, by omega, by omega⟩
        (refine ⟨rfl, rfl, ?_, ?_⟩ <;> ((repeat' (first | exact trivial | exact rfl | refine And.intro ?_ ?_)) <;> (try ((conv => whnf); first | refine vint ?_ | refine vboo ?_ | refine rint ?_ | refine rrow ?_ | skip)) <;> (try first | omega | (simp; done) | ((repeat rw [flts_closed _ (by assumption)]); exact vws_closed _ (by assumption)))))
        rw [← map_range_succ, ← List.append_assoc]; rfl
      · have h2 := ltF h2
        obtain rfl : y = ny := by omega
        conv => whnf
        exact ⟨2, none, (by refine ⟨rfl, rfl, ?_, ?_⟩ <;> ((repeat' (first | exact trivial | exact rfl | refine And.intro ?_ ?_)) <;> (try ((conv => whnf); first | refine vint ?_ | refine vboo ?_ | refine rint ?_ | refine rrow ?_ | skip)) <;> (try first | omega | (simp; done) | ((repeat rw [flts_closed _ (by assumption)]); exact vws_closed _ (by assumption))))), by omega, by omega⟩
  · have h : ¬ p < 2 := by have := of_decide_eq_false h; omega
    obtain rfl : p = 2 := by omega
    conv => whnf
    exact ⟨rfl, rfl⟩

end Go.Proofs.YtkjdplglenjijaaGreat
/- Rests of quiet boxes: reference and program. -/
namespace Go.Aw
def partF (T B : Nat → Nat → Int) (i n : Nat) : List (List Int) :=
  (List.range 4).map fun p => (List.range 4).map fun q => if p < i ∨ (p = i ∧ q < n) then T p q else B p q
theorem partF_step (T B : Nat → Nat → Int) {i n : Nat} (hi : i < 4) (hn : n < 4) : (partF T B i n).set i (((partF T B i n).getD i []).set n (T i n)) = partF T B i (n + 1) := by
  have h1 : i = 0 ∨ i = 1 ∨ i = 2 ∨ i = 3 := by omega
  have h2 : n = 0 ∨ n = 1 ∨ n = 2 ∨ n = 3 := by omega
  rcases h1 with rfl | rfl | rfl | rfl <;> rcases h2 with rfl | rfl | rfl | rfl <;> rfl
theorem partF_get (T B : Nat → Nat → Int) {i n : Nat} (hi : i < 4) (hn : n < 4) : ((partF T B i n).getD i []).getD n 0 = B i n := by
  have h1 : i = 0 ∨ i = 1 ∨ i = 2 ∨ i = 3 := by omega
  have h2 : n = 0 ∨ n = 1 ∨ n = 2 ∨ n = 3 := by omega
  rcases h1 with rfl | rfl | rfl | rfl <;> rcases h2 with rfl | rfl | rfl | rfl <;> rfl
theorem partF_end (T B : Nat → Nat → Int) {i : Nat} (hi : i < 4) : partF T B i 4 = partF T B (i + 1) 0 := by
  have h1 : i = 0 ∨ i = 1 ∨ i = 2 ∨ i = 3 := by omega
  rcases h1 with rfl | rfl | rfl | rfl <;> rfl
theorem partF_len (T B : Nat → Nat → Int) (i n : Nat) : (partF T B i n).length = 4 := by simp [partF]
theorem partF_row (T B : Nat → Nat → Int) {i n p : Nat} (hp : p < 4) : ((partF T B i n).getD p []).length = 4 := by
  rw [partF, range_getD hp]; simp
theorem mat_rows (f : Nat → Nat → Nat → Nat → Int) : boxRows f 2 2 = (List.range 4).map fun p => (List.range 4).map fun q => f (p / 2) (p % 2) (q / 2) (q % 2) := rfl
theorem mat_get (f : Nat → Nat → Nat → Nat → Int) {p q : Nat} (hp : p < 4) (hq : q < 4) : ((boxRows f 2 2).getD p []).getD q 0 = f (p / 2) (p % 2) (q / 2) (q % 2) := by
  rw [mat_rows, range_getD hp, range_getD hq]
theorem mat_eta {M : List (List Int)} (h : M.length = 4) (hr : ∀ r, r ∈ M → r.length = 4) : ((List.range 4).map fun p => (List.range 4).map fun q => (M.getD p []).getD q 0) = M := by
  refine List.ext_getElem (by simp [h]) fun p h1 h2 => ?_
  have hrow := hr _ (List.getElem_mem h2)
  simp only [List.getElem_map, List.getElem_range]
  refine List.ext_getElem (by simp [hrow]) fun q h3 h4 => ?_
  simp only [List.getElem_map, List.getElem_range]
  simp [List.getD, h2, h4]
theorem mat_congr {F G : Nat → Nat → Int} (h : ∀ p q, p < 4 → q < 4 → F p q = G p q) : ((List.range 4).map fun p => (List.range 4).map fun q => F p q) = (List.range 4).map fun p => (List.range 4).map fun q => G p q := by
  refine List.map_congr_left fun p hp => List.map_congr_left fun q hq => h p q (by simpa using hp) (by simpa using hq)
theorem times_get {M : List (List Int)} (h : M.length = 4) (hr : ∀ r, r ∈ M → r.length = 4) (k d : Int) {p q : Nat} (hp : p < 4) (hq : q < 4) : ((timesL M k d).getD p []).getD q 0 = W (Int.tdiv (W ((M.getD p []).getD q 0 * k)) d) := by
  have hm : M.getD p [] ∈ M := by rw [List.getD_eq_getElem?_getD, List.getElem?_eq_getElem (by omega)]; exact List.getElem_mem _
  rw [timesL, map_getD (d := []) (by omega), timesR, map_getD (d := 0) (by rw [hr _ hm]; omega)]
end Go.Aw
namespace Go.Proofs.YtkjdplglenjijaaGreat
open Go.Aw
set_option maxRecDepth 100000
set_option maxHeartbeats 4000000

def rsNum (m : List (List Int)) (k : Nat) (N : Int) (x y a b : Nat) : Int := W (W (2 * (m.getD (x * 2 + y) []).getD (2 * a + b) 0) - W (N * eqNum k x y a b))
def rsM (m : List (List Int)) (k : Nat) (N : Int) : List (List Int) := boxRows (rsNum m k N) 2 2
def rsW (z N : Int) : Int := W (W (2 * z) - W (2 * N))
def rsN (z : Int) (m : List (List Int)) : Int := partN z ((esL m).getD (esBest m) 0)
def rsOk (x y z : Int) (m : List (List Int)) : Bool := qpB x y z m && goodB 2 2 (rsW z (rsN z m)) (rsM m (esBest m) (rsN z m))
def rsR (x y z : Int) (m : List (List Int)) : List (List Int) := if rsOk x y z m then rsM m (esBest m) (rsN z m) else []
theorem box_sz (f : Nat → Nat → Nat → Nat → Int) : SzM (boxRows f 2 2) := by
  have h1 : (boxRows f 2 2).length = 4 := boxRows_len _ 2 2
  have h2 := tot_le_mul (m := boxRows f 2 2) (n := 4) (fun q hq => by rw [boxRows_rows _ _ _ q hq]; omega)
  unfold SzM; omega
theorem esBest_lt (m : List (List Int)) : esBest m < 8 := by
  have := bIx_le (fun i => (esL m).getD i 0) 7
  unfold esBest; omega

end Go.Proofs.YtkjdplglenjijaaGreat
/- Boxes that are evened out: what both make, and the parts that are walked. -/
namespace Go.Aw
def revN (m : List (List Int)) (x y a b : Nat) : Int := (m.getD (x * 2 + y) []).getD (3 - (2 * a + b)) 0
def revM (m : List (List Int)) : List (List Int) := boxRows (revN m) 2 2
def eoN (m : List (List Int)) (x y a b : Nat) : Int := W ((m.getD (x * 2 + y) []).getD (2 * a + b) 0 + ((revM m).getD (x * 2 + y) []).getD (2 * a + b) 0)
def eoM (m : List (List Int)) : List (List Int) := boxRows (eoN m) 2 2
theorem sum4 (a b c d : Int) (h1 : 0 ≤ a ∧ a ≤ 2000) (h2 : 0 ≤ b ∧ b ≤ 2000) (h3 : 0 ≤ c ∧ c ≤ 2000) (h4 : 0 ≤ d ∧ d ≤ 2000) : sumF [a, b, c, d] 4 = a + b + c + d := by
  show W (W (W (W (0 + a) + b) + c) + d) = _
  have e : ∀ n : Int, 0 ≤ n → n ≤ 1000000 → W n = n := fun n h h' => w64 (by omega) (by omega)
  rw [e (0 + a) (by omega) (by omega), e (0 + a + b) (by omega) (by omega), e (0 + a + b + c) (by omega) (by omega), e (0 + a + b + c + d) (by omega) (by omega)]
  omega
theorem row4 {r : List Int} {z : Int} (hz : z ≤ 1000) (hl : r.length = 4) (hb : ∀ v, v ∈ r → 0 ≤ v ∧ v ≤ z) (hs : sumF r r.length = z) :
    ∃ a b c d : Int, r = [a, b, c, d] ∧ 0 ≤ a ∧ 0 ≤ b ∧ 0 ≤ c ∧ 0 ≤ d ∧ a + b + c + d = z := by
  match r, hl with
  | [a, b, c, d], _ =>
    have h1 := hb a (by simp)
    have h2 := hb b (by simp)
    have h3 := hb c (by simp)
    have h4 := hb d (by simp)
    have := sum4 a b c d (by omega) (by omega) (by omega) (by omega)
    exact ⟨a, b, c, d, rfl, h1.1, h2.1, h3.1, h4.1, by rw [← this]; exact hs⟩
end Go.Aw
namespace Go.Proofs.YtkjdplglenjijaaGreat
open Go.Aw
set_option maxRecDepth 100000
set_option maxHeartbeats 4000000

theorem rowOk_mk {a b c d z : Int} (ha : 0 ≤ a) (hb : 0 ≤ b) (hc : 0 ≤ c) (hd : 0 ≤ d) (hs : a + b + c + d = z) (hz : z ≤ 1000) : rowOk z [a, b, c, d] = true := by
  have h := sum4 a b c d (by omega) (by omega) (by omega) (by omega)
  unfold rowOk
  rw [show sumF [a, b, c, d] [a, b, c, d].length = a + b + c + d from h, hs]
  have : rowIn [a, b, c, d] 0 z = true := rowIn_iff.2 fun v hv => by
    simp only [List.mem_cons, List.not_mem_nil, or_false] at hv
    rcases hv with rfl | rfl | rfl | rfl <;> omega
  rw [this]; simp
theorem good4 {z : Int} {r0 r1 r2 r3 : List Int} (h1 : 1 ≤ z) (h2 : z ≤ 1000) (k0 : rowOk z r0 = true) (k1 : rowOk z r1 = true) (k2 : rowOk z r2 = true) (k3 : rowOk z r3 = true) : goodB 2 2 z [r0, r1, r2, r3] = true := by
  have hz : inR z 1 1000 = true := inR_iff.2 ⟨h1, h2⟩
  simp [goodB, hz, k0, k1, k2, k3]; rfl
theorem eo_good {x y z : Int} {m : List (List Int)} (h : pairB x y z m = true) : goodB 2 2 z (revM m) = true ∧ (z + z ≤ 1000 → goodB 2 2 (z + z) (eoM m) = true) := by
  obtain ⟨rfl, rfl, g1, g2, g3, g4⟩ := pairB_spec h
  match m, g3 with
  | [r0, r1, r2, r3], _ =>
    have q0 := g4 r0 (by simp)
    have q1 := g4 r1 (by simp)
    have q2 := g4 r2 (by simp)
    have q3 := g4 r3 (by simp)
    obtain ⟨a0, b0, c0, d0, rfl, u0, v0, w0, x0, s0⟩ := row4 g2 q0.1 q0.2.1 q0.2.2
    obtain ⟨a1, b1, c1, d1, rfl, u1, v1, w1, x1, s1⟩ := row4 g2 q1.1 q1.2.1 q1.2.2
    obtain ⟨a2, b2, c2, d2, rfl, u2, v2, w2, x2, s2⟩ := row4 g2 q2.1 q2.2.1 q2.2.2
    obtain ⟨a3, b3, c3, d3, rfl, u3, v3, w3, x3, s3⟩ := row4 g2 q3.1 q3.2.1 q3.2.2
    refine ⟨good4 (r0 := [d0, c0, b0, a0]) (r1 := [d1, c1, b1, a1]) (r2 := [d2, c2, b2, a2]) (r3 := [d3, c3, b3, a3]) g1 g2 (rowOk_mk x0 w0 v0 u0 (by omega) g2) (rowOk_mk x1 w1 v1 u1 (by omega) g2) (rowOk_mk x2 w2 v2 u2 (by omega) g2) (rowOk_mk x3 w3 v3 u3 (by omega) g2), fun hz => ?_⟩
    have e : ∀ n : Int, 0 ≤ n → n ≤ 1000000 → W n = n := fun n h h' => w64 (by omega) (by omega)
    have em : eoM [[a0, b0, c0, d0], [a1, b1, c1, d1], [a2, b2, c2, d2], [a3, b3, c3, d3]] = [[W (a0 + d0), W (b0 + c0), W (c0 + b0), W (d0 + a0)], [W (a1 + d1), W (b1 + c1), W (c1 + b1), W (d1 + a1)], [W (a2 + d2), W (b2 + c2), W (c2 + b2), W (d2 + a2)], [W (a3 + d3), W (b3 + c3), W (c3 + b3), W (d3 + a3)]] := rfl
    rw [em]
    refine good4 (by omega) hz ?_ ?_ ?_ ?_
    · rw [e (a0 + d0) (by omega) (by omega), e (b0 + c0) (by omega) (by omega), e (c0 + b0) (by omega) (by omega), e (d0 + a0) (by omega) (by omega)]
      exact rowOk_mk (by omega) (by omega) (by omega) (by omega) (by omega) hz
    · rw [e (a1 + d1) (by omega) (by omega), e (b1 + c1) (by omega) (by omega), e (c1 + b1) (by omega) (by omega), e (d1 + a1) (by omega) (by omega)]
      exact rowOk_mk (by omega) (by omega) (by omega) (by omega) (by omega) hz
    · rw [e (a2 + d2) (by omega) (by omega), e (b2 + c2) (by omega) (by omega), e (c2 + b2) (by omega) (by omega), e (d2 + a2) (by omega) (by omega)]
      exact rowOk_mk (by omega) (by omega) (by omega) (by omega) (by omega) hz
    · rw [e (a3 + d3) (by omega) (by omega), e (b3 + c3) (by omega) (by omega), e (c3 + b3) (by omega) (by omega), e (d3 + a3) (by omega) (by omega)]
      exact rowOk_mk (by omega) (by omega) (by omega) (by omega) (by omega) hz

theorem xor1 {a x : Nat} (ha : a < 2) (hx : x < 4) : bits .xor .i64 (a : Int) (([1, 1, 1, 1] : List Int).getD x 0) = ((1 - a : Nat) : Int) := by
  have : ∀ a : Nat, a < 2 → ∀ x : Nat, x < 4 → bits .xor .i64 (a : Int) (([1, 1, 1, 1] : List Int).getD x 0) = ((1 - a : Nat) : Int) := by decide +kernel
  exact this a ha x hx

theorem flN_spec (m : List (List Int)) (hm : m.length = 4) (h4 : ∀ r, r ∈ m → r.length = 4) (z : Int) (x y a b : Nat) (hx : x < 2) (hy : y < 2) (ha : a < 2) (hb : b < 2) :
    FSpec Tryz.prog 90 [.c (.int .i64 (x)), .c (.int .i64 (y)), .c (.int .i64 (a)), .c (.int .i64 (b)), .rp [.c (.int .i64 (2)), .c (.int .i64 (2)), .c (.int .i64 (z)), .t (.rows m)] 0, .rp [.t (.ints .i64 [1, 1, 1, 1])] 0] (ex (.c (.int .i64 (revN m x y a b))) []) := by
  have hr2 := h4 _ (getD_mem (d := []) (show x * 2 + y < m.length by omega))
  have e1 := xor1 (x := x) ha (by omega)
  have e2 := xor1 (x := 2 + y) hb (by omega)
  refine fspec tyOk mx Tryz.func90 rfl (by kernel_rfl) rfl ?_
  conv => whnf
  refine ADraw.plan tyOk mx (.q 0 (.q 1 (.q 2 (.q 3 (.q 4 (.q 5 (.q 6 (.q 7 (.q 8 (.q 9 (.q 10 (.q 11 (.q 12 (.q 13 (.q 14 (.q 15 (.q 16 (.q 17 (.last 18 (.q 19 (.done)))))))))))))))))))) : Plan) (by kernel_rfl) ?_
  conv => whnf
  refine ⟨x, rfl, (show x < 4 by omega), ?_⟩
  conv => whnf
  refine ⟨2 + y, by rw [show (2 : Int) + (y : Int) = ((2 + y : Nat) : Int) by omega]; exact w64 (by omega) (by omega), (show 2 + y < 4 by omega), ?_⟩
  conv => whnf
  rw [e1, e2]
  refine ACall.useR (at_spec 2 2 x y (1 - a) (1 - b) z m (by omega) (by omega) (by omega) (by omega)) ?_
  conv => whnf
  refine ⟨?_, rfl⟩
  rw [revN, show 3 - (2 * a + b) = 2 * (1 - a) + (1 - b) by omega]

theorem flipped_spec (m : List (List Int)) (hm : m.length = 4) (h4 : ∀ r, r ∈ m → r.length = 4) (z : Int) :
    FSpec Tryz.prog 47 [.ag [.c (.int .i64 (2)), .c (.int .i64 (2)), .c (.int .i64 (z)), .t (.rows m)], .t (.ints .i64 [1, 1, 1, 1])] (ex (.ag [.c (.int .i64 (2)), .c (.int .i64 (2)), .c (.int .i64 (z)), .own 0]) [(0, .rows 38 3 true (revM m))]) := by
  refine fspec tyOk mx Tryz.func47 rfl (by kernel_rfl) rfl ?_
  conv => whnf
  refine ACall.use (newBox_spec 2 2 z _ [.rp [.c (.int .i64 (2)), .c (.int .i64 (2)), .c (.int .i64 (z)), .t (.rows m)] 0, .rp [.t (.ints .i64 [1, 1, 1, 1])] 0] (revN m) (by omega) (by omega) (fun _ _ => rfl) rfl (fun i k' a b hi hk ha hb => flN_spec m hm h4 z i k' a b hi hk ha hb)) ?_
  conv => whnf
  exact ⟨rfl, rfl⟩




def eoOk (x y z : Int) (m : List (List Int)) : Bool := pairB x y z m && decide (z + z ≤ 1000)
def eoR (x y z : Int) (m : List (List Int)) : List (List Int) := if eoOk x y z m then eoM m else []
end Go.Proofs.YtkjdplglenjijaaGreat
/- Signs of sums, quiet boxes of two questions each, row by row. -/
namespace Go.Proofs.YtkjdplglenjijaaGreat
open Go.Aw
set_option maxRecDepth 100000
set_option maxHeartbeats 4000000

theorem wS {n : Int} (h : -1000000000000 ≤ n) (h' : n ≤ 1000000000000) : W n = n := w64 (by omega) (by omega)
/-- the sign of a row in a sum -/
def sg (k x y : Nat) : Int := W (1 - W (2 * oddAt k x y))
theorem sg_pm {k x y : Nat} (hk : k < 8) (hx : x < 2) (hy : y < 2) : sg k x y = 1 ∨ sg k x y = -1 := by
  have : ∀ k : Nat, k < 8 → ∀ x : Nat, x < 2 → ∀ y : Nat, y < 2 → sg k x y = 1 ∨ sg k x y = -1 := by decide +kernel
  exact this k hk x hx y hy
theorem agr4 {a b c d : Int} (ha : -100000 ≤ a ∧ a ≤ 100000) (hb : -100000 ≤ b ∧ b ≤ 100000) (hc : -100000 ≤ c ∧ c ≤ 100000) (hd : -100000 ≤ d ∧ d ≤ 100000) : agr [a, b, c, d] = a - b - c + d := by
  show W (W (W (a - b) - c) + d) = _
  rw [wS (n := a - b) (by omega) (by omega), wS (n := a - b - c) (by omega) (by omega), wS (by omega) (by omega)]
/-- a sum, of four agreements -/
theorem esTo_eq {k : Nat} (hk : k < 8) {r0 r1 r2 r3 : List Int} {g0 g1 g2 g3 : Int} (e0 : agr r0 = g0) (e1 : agr r1 = g1) (e2 : agr r2 = g2) (e3 : agr r3 = g3)
    (h0 : -400000 ≤ g0 ∧ g0 ≤ 400000) (h1 : -400000 ≤ g1 ∧ g1 ≤ 400000) (h2 : -400000 ≤ g2 ∧ g2 ≤ 400000) (h3 : -400000 ≤ g3 ∧ g3 ≤ 400000) :
    esTo k [r0, r1, r2, r3] 2 = sg k 0 0 * g0 + sg k 0 1 * g1 + sg k 1 0 * g2 + sg k 1 1 * g3 := by
  show W (W (W (W (0 + W (agr r0 * sg k 0 0)) + W (agr r1 * sg k 0 1)) + W (agr r2 * sg k 1 0)) + W (agr r3 * sg k 1 1)) = _
  rw [e0, e1, e2, e3]
  have s0 := sg_pm hk (x := 0) (y := 0) (by omega) (by omega)
  have s1 := sg_pm hk (x := 0) (y := 1) (by omega) (by omega)
  have s2 := sg_pm hk (x := 1) (y := 0) (by omega) (by omega)
  have s3 := sg_pm hk (x := 1) (y := 1) (by omega) (by omega)
  generalize sg k 0 0 = t0 at *
  generalize sg k 0 1 = t1 at *
  generalize sg k 1 0 = t2 at *
  generalize sg k 1 1 = t3 at *
  have p0 : -400000 ≤ t0 * g0 ∧ t0 * g0 ≤ 400000 := by rcases s0 with rfl | rfl <;> omega
  have p1 : -400000 ≤ t1 * g1 ∧ t1 * g1 ≤ 400000 := by rcases s1 with rfl | rfl <;> omega
  have p2 : -400000 ≤ t2 * g2 ∧ t2 * g2 ≤ 400000 := by rcases s2 with rfl | rfl <;> omega
  have p3 : -400000 ≤ t3 * g3 ∧ t3 * g3 ≤ 400000 := by rcases s3 with rfl | rfl <;> omega
  rw [Int.mul_comm g0, Int.mul_comm g1, Int.mul_comm g2, Int.mul_comm g3]
  rw [wS (n := t0 * g0) (by omega) (by omega), wS (n := t1 * g1) (by omega) (by omega), wS (n := t2 * g2) (by omega) (by omega), wS (n := t3 * g3) (by omega) (by omega)]
  rw [wS (n := 0 + t0 * g0) (by omega) (by omega), wS (n := 0 + t0 * g0 + t1 * g1) (by omega) (by omega), wS (n := 0 + t0 * g0 + t1 * g1 + t2 * g2) (by omega) (by omega), wS (by omega) (by omega)]
  omega
theorem esL_get {m : List (List Int)} {k : Nat} (hk : k < 8) : (esL m).getD k 0 = esTo k m 2 := range_getD hk

def eqSg (k x y : Nat) : Bool := (sg k x y == 1 && eqNum k x y 0 0 == 1 && eqNum k x y 0 1 == 0 && eqNum k x y 1 0 == 0 && eqNum k x y 1 1 == 1) || (sg k x y == -1 && eqNum k x y 0 0 == 0 && eqNum k x y 0 1 == 1 && eqNum k x y 1 0 == 1 && eqNum k x y 1 1 == 0)
theorem eq_sg {k x y : Nat} (hk : k < 8) (hx : x < 2) (hy : y < 2) : (sg k x y = 1 ∧ eqNum k x y 0 0 = 1 ∧ eqNum k x y 0 1 = 0 ∧ eqNum k x y 1 0 = 0 ∧ eqNum k x y 1 1 = 1) ∨
      (sg k x y = -1 ∧ eqNum k x y 0 0 = 0 ∧ eqNum k x y 0 1 = 1 ∧ eqNum k x y 1 0 = 1 ∧ eqNum k x y 1 1 = 0) := by
  have : ∀ k : Nat, k < 8 → ∀ x : Nat, x < 2 → ∀ y : Nat, y < 2 → eqSg k x y = true := by decide +kernel
  have h := this k hk x hx y hy
  simp only [eqSg, Bool.or_eq_true, Bool.and_eq_true, beq_iff_eq] at h
  rcases h with ⟨⟨⟨⟨a, b⟩, c⟩, d⟩, e⟩ | ⟨⟨⟨⟨a, b⟩, c⟩, d⟩, e⟩
  · exact .inl ⟨a, b, c, d, e⟩
  · exact .inr ⟨a, b, c, d, e⟩
theorem quiet_2 (a b c d : List Int) : quietF 2 2 [a, b, c, d] = (((one0 b == one0 a)) && ((one0 d == one0 c)) && (((one1 c == one1 a)) && ((one1 d == one1 b)))) := by
  simp [quietF, q0r, q1r, q0, q1, List.range_succ]
theorem bIx_ge (f : Nat → Int) : ∀ n k, k ≤ n → f k ≤ f (bIx f n)
  | 0, k, h => by
    obtain rfl : k = 0 := by omega
    exact Int.le_refl _
  | n + 1, k, h => by
    rw [bIx]
    split
    · rename_i hg
      by_cases hk : k = n + 1
      · subst hk; omega
      · have := bIx_ge f n k (by omega); omega
    · rename_i hg
      by_cases hk : k = n + 1
      · subst hk; omega
      · exact bIx_ge f n k (by omega)
end Go.Proofs.YtkjdplglenjijaaGreat
/- The types of this program, more of them. -/
namespace Go.Aw
theorem FSpec.toldL {P : Program} {f : FuncId} {args : List AVal} {x x' : AVal} {h : List (Nat × ARow)} (hs : FSpec P f args (ex x h)) (hv : vw h [] 0 x x') : FSpec P f args (ex x' []) :=
  hs.view (fun y hr e => by obtain ⟨rfl, rfl⟩ := e; exact ⟨[], x', [], rfl, trivial, hv, rfl, rfl⟩)
end Go.Aw
namespace Go.Proofs.YtkjdplglenjijaaGreat.L
open Go.Aw
def ty : Tys := [
 (3, ⟨.int .i64, 1, 8, [.int .i64 0]⟩),
 (38, ⟨.slice 3, 1, 24, [.slice none 0 0]⟩),
 (24, ⟨.slice 38, 1, 24, [.slice none 0 0]⟩),
 (108, ⟨.int .u64, 1, 8, [.int .u64 0]⟩),
 (26, ⟨.struct [(0, 3), (1, 3), (2, 3), (3, 24)], 4, 48, [.int .i64 0, .int .i64 0, .int .i64 0, .slice none 0 0]⟩),
 (49, ⟨.array 2 3, 2, 16, [.int .i64 0, .int .i64 0]⟩),
 (85, ⟨.slice 49, 1, 24, [.slice none 0 0]⟩),
 (106, ⟨.array 4 3, 4, 32, [.int .i64 0, .int .i64 0, .int .i64 0, .int .i64 0]⟩),
 (79, ⟨.array 2 26, 8, 96, [.int .i64 0, .int .i64 0, .int .i64 0, .slice none 0 0, .int .i64 0, .int .i64 0, .int .i64 0, .slice none 0 0]⟩),
 (70, ⟨.struct [(0, 3), (1, 49), (3, 49), (5, 3), (6, 4)], 7, 56, [.int .i64 0, .int .i64 0, .int .i64 0, .int .i64 0, .int .i64 0, .int .i64 0, .bool false]⟩),
 (5, ⟨.int .u8, 1, 1, [.int .u8 0]⟩),
 (22, ⟨.slice 5, 1, 24, [.slice none 0 0]⟩),
 (43, ⟨.int .u64, 1, 8, [.int .u64 0]⟩),
 (45, ⟨.struct [(0, 22), (1, 3), (2, 43)], 3, 40, [.slice none 0 0, .int .i64 0, .int .u64 0]⟩),
  (4, ⟨.bool, 1, 1, [.bool false]⟩)]
theorem tyOk : TysOk Tryz.prog ty :=
  ⟨TyOk.of (z := .int .i64 0) Tryz.underlying3 (by kernel_rfl) rfl,
     TyOk.of (z := .slice none 0 0) Tryz.underlying38 (by kernel_rfl) rfl,
     TyOk.of (z := .slice none 0 0) Tryz.underlying24 (by kernel_rfl) rfl,
     TyOk.of (z := .int .u64 0) Tryz.underlying108 (by kernel_rfl) rfl,
     TyOk.of (z := .agg #[.int .i64 0, .int .i64 0, .int .i64 0, .slice none 0 0]) ⟨_, Tryz.underlying26, rfl⟩ (by kernel_rfl) rfl,
     TyOk.of (z := .agg #[.int .i64 0, .int .i64 0]) Tryz.underlying49 (by kernel_rfl) rfl,
     TyOk.of (z := .slice none 0 0) Tryz.underlying85 (by kernel_rfl) rfl,
     TyOk.of (z := .agg #[.int .i64 0, .int .i64 0, .int .i64 0, .int .i64 0]) Tryz.underlying106 (by kernel_rfl) rfl,
     TyOk.of (z := .agg #[.int .i64 0, .int .i64 0, .int .i64 0, .slice none 0 0, .int .i64 0, .int .i64 0, .int .i64 0, .slice none 0 0]) Tryz.underlying79 (by kernel_rfl) rfl,
     TyOk.of (z := .agg #[.int .i64 0, .int .i64 0, .int .i64 0, .int .i64 0, .int .i64 0, .int .i64 0, .bool false]) ⟨_, Tryz.underlying70, rfl⟩ (by kernel_rfl) rfl,
     TyOk.of (z := .int .u8 0) Tryz.underlying5 (by kernel_rfl) rfl,
     TyOk.of (z := .slice none 0 0) Tryz.underlying22 (by kernel_rfl) rfl,
     TyOk.of (z := .int .u64 0) Tryz.underlying43 (by kernel_rfl) rfl,
     TyOk.of (z := .agg #[.slice none 0 0, .int .i64 0, .int .u64 0]) ⟨_, Tryz.underlying45, rfl⟩ (by kernel_rfl) rfl,
   TyOk.of (z := .bool false) Tryz.underlying4 (by kernel_rfl) rfl,
   trivial⟩
end Go.Proofs.YtkjdplglenjijaaGreat.L
/- Sums of four agreements: pairs of questions, one sum; reference and program. -/
namespace Go.Aw
/-- the pairs that begin with one number, in order -/
def prRow (a k : Nat) : List (List Int × List (List Int)) := (List.range k).map fun j => ([(a : Int), ((a + 1 + j : Nat) : Int)], [])
/-- the pairs that begin with numbers less than i -/
def prTo (n i : Nat) : List (List Int × List (List Int)) := (List.range i).flatMap fun a => prRow a (n - (a + 1))
def prs (n : Nat) : List (List Int × List (List Int)) := prTo n n
theorem prRow_succ (a k : Nat) : prRow a k ++ [([(a : Int), ((a + 1 + k : Nat) : Int)], [])] = prRow a (k + 1) := by simp [prRow, List.range_succ]
theorem prTo_succ (n i : Nat) : prTo n i ++ prRow i (n - (i + 1)) = prTo n (i + 1) := by simp [prTo, List.range_succ]
theorem prRow_len (a k : Nat) : (prRow a k).length = k := by simp [prRow]
theorem prTo_len (n : Nat) (hn : n ≤ 1000) : ∀ i, i ≤ n → (prTo n i).length ≤ i * 1000
  | 0, _ => by simp [prTo]
  | i + 1, h => by
    rw [← prTo_succ, List.length_append, prRow_len]
    have := prTo_len n hn i (by omega)
    omega
/-- what the pairs are -/
theorem prs_at {n i : Nat} (hn : n ≤ 3) (h : i < (prs n).length) : ∃ a b : Nat, (prs n).getD i ([], []) = ([(a : Int), (b : Int)], []) ∧ a < b ∧ b < n := by
  have h3 : n = 0 ∨ n = 1 ∨ n = 2 ∨ n = 3 := by omega
  rcases h3 with rfl | rfl | rfl | rfl
  · simp [prs, prTo] at h
  · simp [prs, prTo, prRow] at h
  · have hl : (prs 2).length = 1 := by decide
    have : i = 0 := by omega
    subst this; exact ⟨0, 1, rfl, by omega, by omega⟩
  · have hl : (prs 3).length = 3 := by decide
    have : i = 0 ∨ i = 1 ∨ i = 2 := by omega
    rcases this with rfl | rfl | rfl
    · exact ⟨0, 1, rfl, by omega, by omega⟩
    · exact ⟨0, 2, rfl, by omega, by omega⟩
    · exact ⟨1, 2, rfl, by omega, by omega⟩
theorem prs_len {n : Nat} (hn : n ≤ 3) : (prs n).length ≤ 3 := by
  have h3 : n = 0 ∨ n = 1 ∨ n = 2 ∨ n = 3 := by omega
  rcases h3 with rfl | rfl | rfl | rfl <;> decide
/-- each pair is among them -/
theorem prs_all {n a b : Nat} (hn : n ≤ 3) (h1 : a < b) (h2 : b < n) : ∃ i, i < (prs n).length ∧ (prs n).getD i ([], []) = ([(a : Int), (b : Int)], []) := by
  have h3 : n = 2 ∨ n = 3 := by omega
  rcases h3 with rfl | rfl
  · have : a = 0 ∧ b = 1 := by omega
    obtain ⟨rfl, rfl⟩ := this
    exact ⟨0, by decide, rfl⟩
  · have : (a = 0 ∧ b = 1) ∨ (a = 0 ∧ b = 2) ∨ (a = 1 ∧ b = 2) := by omega
    rcases this with ⟨rfl, rfl⟩ | ⟨rfl, rfl⟩ | ⟨rfl, rfl⟩
    · exact ⟨0, by decide, rfl⟩
    · exact ⟨1, by decide, rfl⟩
    · exact ⟨2, by decide, rfl⟩

/-- a sum of four agreements, one with a minus -/
def agAt (m : List (List Int)) (p : Nat) : Int := agr (m.getD p [])
def sgn (k j : Nat) (x : Int) : Int := if j = k then -x else x
def sum4V (ny : Nat) (m : List (List Int)) (a b c d k : Nat) : Int :=
  sgn k 0 (agAt m (a * ny + c)) + sgn k 1 (agAt m (a * ny + d)) + sgn k 2 (agAt m (b * ny + c)) + sgn k 3 (agAt m (b * ny + d))
/-- agreements that are not too great -/
def AgB (m : List (List Int)) : Prop := ∀ p, -1000 ≤ agAt m p ∧ agAt m p ≤ 1000
theorem sgn_bd {m : List (List Int)} (h : AgB m) (k j p : Nat) : -1000 ≤ sgn k j (agAt m p) ∧ sgn k j (agAt m p) ≤ 1000 := by
  have := h p
  unfold sgn; split <;> omega
theorem sum4_bd {m : List (List Int)} (h : AgB m) (ny a b c d k : Nat) : -4000 ≤ sum4V ny m a b c d k ∧ sum4V ny m a b c d k ≤ 4000 := by
  have h0 := sgn_bd h k 0 (a * ny + c)
  have h1 := sgn_bd h k 1 (a * ny + d)
  have h2 := sgn_bd h k 2 (b * ny + c)
  have h3 := sgn_bd h k 3 (b * ny + d)
  unfold sum4V; omega
end Go.Aw
namespace Go.Proofs.YtkjdplglenjijaaGreat.L
open Go.Aw
set_option maxRecDepth 100000
set_option maxHeartbeats 4000000

theorem ag_bd {m : List (List Int)} {z : Int} (hz : z ≤ 1000) (hm : ∀ r, r ∈ m → r.length = 4 ∧ (∀ v, v ∈ r → 0 ≤ v ∧ v ≤ z) ∧ sumF r r.length = z) : AgB m := fun p => by
  unfold agAt
  by_cases hp : p < m.length
  · obtain ⟨h1, h2, h3⟩ := hm _ (getD_mem (d := []) hp)
    obtain ⟨a, b, c, d, e, ha, hb, hc, hd, hs⟩ := row4 hz h1 h2 h3
    rw [e]
    have e1 : agr [a, b, c, d] = W (W (W (a - b) - c) + d) := rfl
    rw [e1, wS (n := a - b) (by omega) (by omega), wS (n := a - b - c) (by omega) (by omega), wS (n := a - b - c + d) (by omega) (by omega)]
    omega
  · have e : m.getD p [] = [] := by rw [List.getD_eq_getElem?_getD, List.getElem?_eq_none (by omega)]; rfl
    rw [e]
    have : agr [] = 0 := rfl
    omega

theorem pairs_spec (n : Nat) (hn : n ≤ 1000) : FSpec Tryz.prog 86 [.c (.int .i64 (n))] (ex (.t (.recs 101 (prs n))) []) := by
  have bd : ∀ i, i ≤ n → i * 1000 ≤ 1000000 := fun i hi => by omega
  have key : FSpec Tryz.prog 86 [.c (.int .i64 (n))] (ex (.own 0) [(0, .recs 49 101 (prs n))]) := by
    refine fspec tyOk mx Tryz.func86 rfl (by kernel_rfl) rfl ?_
    conv => whnf
    refine aloopI tyOk mx (fun i : Nat => (⟨26, [(0, .c (.int .i64 (n))), (3, .own 0), (7, .c (.int .i64 (n))), (8, .c (.int .i64 (i)))], [(0, .recs 49 101 (prTo n i))], 1⟩ : St)) (fun i => i ≤ n) (fun i => n - i) 0 (Nat.zero_le _) none (by refine ⟨rfl, rfl, ?_, ?_⟩ <;> ((repeat' (first | exact trivial | exact rfl | refine And.intro ?_ ?_)) <;> (try ((conv => whnf); first | refine vint ?_ | refine vboo ?_ | refine rint ?_ | refine rrow ?_ | skip)) <;> (try first | omega | (simp; done) | ((repeat rw [flts_closed _ (by assumption)]); exact vws_closed _ (by assumption))))) (fun i hi => ?_)
    refine ⟨fun h => ?_, fun h => ?_⟩
    · have h := ltT h
      conv => whnf
      rw [nat_wrap (by omega)]
      refine aloopI tyOk mx (fun k : Nat => (⟨26, [(0, .c (.int .i64 (n))), (3, .own 0), (4, .c (.int .i64 (i))), (5, .c (.int .i64 ((i + 1 + k : Nat)))), (7, .c (.int .i64 (n))), (8, .c (.int .i64 (i)))], [(0, .recs 49 101 (prTo n i ++ prRow i k))], 1⟩ : St)) (fun k => k ≤ n - (i + 1)) (fun k => n - (i + 1) - k) 0 (Nat.zero_le _) none (by refine ⟨rfl, rfl, ?_, ?_⟩ <;> (repeat' (first | exact trivial | exact rfl | refine And.intro ?_ ?_)) <;> exact congrArg (ARow.recs _ _) (by simp [prRow])) (fun k hk => ?_)
      refine ⟨fun h2 => ?_, fun h2 => ?_⟩
      · have h2 : i + 1 + k < n := ltT h2
        have b1 := prTo_len n hn i hi
        have b2 := bd i hi
        have b3 := prRow_len i k
        conv => whnf
        refine ⟨by simp [room]; omega, ?_⟩
        conv => whnf
        rw [nat_wrap (by omega)]
        refine ⟨k + 1, none, ?_, by omega, by omega⟩
        rw [← prRow_succ, ← List.append_assoc]
        (refine ⟨rfl, rfl, ?_, ?_⟩ <;> ((repeat' (first | exact trivial | exact rfl | refine And.intro ?_ ?_)) <;> (try ((conv => whnf); first | refine vint ?_ | refine vboo ?_ | refine rint ?_ | refine rrow ?_ | skip)) <;> (try first | omega | (simp; done) | ((repeat rw [flts_closed _ (by assumption)]); exact vws_closed _ (by assumption)))))
      · have h2 : ¬ i + 1 + k < n := ltF h2
        obtain rfl : k = n - (i + 1) := by omega
        rw [prTo_succ]
        conv => whnf
        rw [nat_wrap (by omega)]
        exact ⟨i + 1, none, (by refine ⟨rfl, rfl, ?_, ?_⟩ <;> ((repeat' (first | exact trivial | exact rfl | refine And.intro ?_ ?_)) <;> (try ((conv => whnf); first | refine vint ?_ | refine vboo ?_ | refine rint ?_ | refine rrow ?_ | skip)) <;> (try first | omega | (simp; done) | ((repeat rw [flts_closed _ (by assumption)]); exact vws_closed _ (by assumption))))), by omega, by omega⟩
    · have h := ltF h
      obtain rfl : i = n := by omega
      conv => whnf
      exact ⟨rfl, rfl⟩
  exact FSpec.toldL key (x' := .t (.recs 101 (prs n))) ⟨rfl, rfl⟩

theorem l3Pairs_spec (n : Nat) (hn : n ≤ 1000) : FSpec Tryz.prog 76 [.c (.int .i64 (n))] (ex (.t (.recs 101 (prs n))) []) := by
  have bd : ∀ i, i ≤ n → i * 1000 ≤ 1000000 := fun i hi => by omega
  have key : FSpec Tryz.prog 76 [.c (.int .i64 (n))] (ex (.own 0) [(0, .recs 49 101 (prs n))]) := by
    refine fspec tyOk mx Tryz.func76 rfl (by kernel_rfl) rfl ?_
    conv => whnf
    refine aloopI tyOk mx (fun i : Nat => (⟨26, [(0, .c (.int .i64 (n))), (3, .own 0), (4, .c (.int .i64 (i)))], [(0, .recs 49 101 (prTo n i))], 1⟩ : St)) (fun i => i ≤ n) (fun i => n - i) 0 (Nat.zero_le _) none (by refine ⟨rfl, rfl, ?_, ?_⟩ <;> ((repeat' (first | exact trivial | exact rfl | refine And.intro ?_ ?_)) <;> (try ((conv => whnf); first | refine vint ?_ | refine vboo ?_ | refine rint ?_ | refine rrow ?_ | skip)) <;> (try first | omega | (simp; done) | ((repeat rw [flts_closed _ (by assumption)]); exact vws_closed _ (by assumption))))) (fun i hi => ?_)
    refine ⟨fun h => ?_, fun h => ?_⟩
    · have h := ltT h
      conv => whnf
      rw [nat_wrap (by omega)]
      refine aloopI tyOk mx (fun k : Nat => (⟨26, [(0, .c (.int .i64 (n))), (3, .own 0), (4, .c (.int .i64 (i))), (5, .c (.int .i64 ((i + 1 + k : Nat))))], [(0, .recs 49 101 (prTo n i ++ prRow i k))], 1⟩ : St)) (fun k => k ≤ n - (i + 1)) (fun k => n - (i + 1) - k) 0 (Nat.zero_le _) none (by refine ⟨rfl, rfl, ?_, ?_⟩ <;> (repeat' (first | exact trivial | exact rfl | refine And.intro ?_ ?_)) <;> exact congrArg (ARow.recs _ _) (by simp [prRow])) (fun k hk => ?_)
      refine ⟨fun h2 => ?_, fun h2 => ?_⟩
      · have h2 : i + 1 + k < n := ltT h2
        have b1 := prTo_len n hn i hi
        have b2 := bd i hi
        have b3 := prRow_len i k
        conv => whnf
        refine ⟨by simp [room]; omega, ?_⟩
        conv => whnf
        rw [nat_wrap (by omega)]
        refine ⟨k + 1, none, ?_, by omega, by omega⟩
        rw [← prRow_succ, ← List.append_assoc]
        (refine ⟨rfl, rfl, ?_, ?_⟩ <;> ((repeat' (first | exact trivial | exact rfl | refine And.intro ?_ ?_)) <;> (try ((conv => whnf); first | refine vint ?_ | refine vboo ?_ | refine rint ?_ | refine rrow ?_ | skip)) <;> (try first | omega | (simp; done) | ((repeat rw [flts_closed _ (by assumption)]); exact vws_closed _ (by assumption)))))
      · have h2 : ¬ i + 1 + k < n := ltF h2
        obtain rfl : k = n - (i + 1) := by omega
        rw [prTo_succ]
        conv => whnf
        rw [nat_wrap (by omega)]
        exact ⟨i + 1, none, (by refine ⟨rfl, rfl, ?_, ?_⟩ <;> ((repeat' (first | exact trivial | exact rfl | refine And.intro ?_ ?_)) <;> (try ((conv => whnf); first | refine vint ?_ | refine vboo ?_ | refine rint ?_ | refine rrow ?_ | skip)) <;> (try first | omega | (simp; done) | ((repeat rw [flts_closed _ (by assumption)]); exact vws_closed _ (by assumption))))), by omega, by omega⟩
    · have h := ltF h
      obtain rfl : i = n := by omega
      conv => whnf
      exact ⟨rfl, rfl⟩
  exact FSpec.toldL key (x' := .t (.recs 101 (prs n))) ⟨rfl, rfl⟩
theorem four_spec (ny a b c d : Nat) (hy : ny ≤ 3) (ha : a ≤ 3) (hb : b ≤ 3) (hc : c ≤ 3) (hd : d ≤ 3) :
    FSpec Tryz.prog 107 [.c (.int .i64 (ny)), .ag [.c (.int .i64 (a)), .c (.int .i64 (b))], .ag [.c (.int .i64 (c)), .c (.int .i64 (d))]] (ex (.ag [.c (.int .i64 ((a * ny + c : Nat))), .c (.int .i64 ((a * ny + d : Nat))), .c (.int .i64 ((b * ny + c : Nat))), .c (.int .i64 ((b * ny + d : Nat)))]) []) := by
  have m1 : a * ny ≤ 3 * 3 := Nat.mul_le_mul ha hy
  have m2 : b * ny ≤ 3 * 3 := Nat.mul_le_mul hb hy
  refine fspec tyOk mx Tryz.func107 rfl (by kernel_rfl) rfl ?_
  conv => whnf
  refine ⟨0, rfl, by omega, by simp, ?_⟩
  conv => whnf
  refine ⟨0, rfl, by omega, by simp, ?_⟩
  conv => whnf
  refine ⟨0, rfl, by omega, by simp, ?_⟩
  conv => whnf
  refine ⟨1, rfl, by omega, by simp, ?_⟩
  conv => whnf
  refine ⟨1, rfl, by omega, by simp, ?_⟩
  conv => whnf
  refine ⟨0, rfl, by omega, by simp, ?_⟩
  conv => whnf
  refine ⟨1, rfl, by omega, by simp, ?_⟩
  conv => whnf
  refine ⟨1, rfl, by omega, by simp, ?_⟩
  conv => whnf
  rw [natMulAdd (by omega), natMulAdd (by omega), natMulAdd (by omega), natMulAdd (by omega)]
  exact ⟨rfl, rfl⟩
/-- the first terms of a sum -/
def sumT (ny : Nat) (m : List (List Int)) (a b c d k : Nat) : Nat → Int
  | 0 => 0
  | 1 => sgn k 0 (agAt m (a * ny + c))
  | 2 => sgn k 0 (agAt m (a * ny + c)) + sgn k 1 (agAt m (a * ny + d))
  | 3 => sgn k 0 (agAt m (a * ny + c)) + sgn k 1 (agAt m (a * ny + d)) + sgn k 2 (agAt m (b * ny + c))
  | _ => sum4V ny m a b c d k
theorem sgn_sub {k j : Nat} (h : j = k) (s x : Int) : s - x = s + sgn k j x := by rw [sgn, if_pos h]; omega
theorem sgn_add {k j : Nat} (h : ¬ j = k) (s x : Int) : s + x = s + sgn k j x := by rw [sgn, if_neg h]
theorem sum_spec (nx ny a b c d k : Nat) (z : Int) (m : List (List Int)) (hx : nx ≤ 3) (hy : ny ≤ 3) (hab : a < b) (hbx : b < nx) (hcd : c < d) (hdy : d < ny) (hk : k ≤ 4) (hm : m.length = nx * ny) (h4 : ∀ r, r ∈ m → r.length = 4) (hB : AgB m) :
    FSpec Tryz.prog 87 [.ag [.c (.int .i64 (nx)), .c (.int .i64 (ny)), .c (.int .i64 (z)), .t (.rows m)], .ag [.c (.int .i64 (a)), .c (.int .i64 (b))], .ag [.c (.int .i64 (c)), .c (.int .i64 (d))], .c (.int .i64 (k))] (ex (.c (.int .i64 (sum4V ny m a b c d k))) []) := by
  have i0 := ix_lt (show a < nx by omega) (show c < ny by omega)
  have i1 := ix_lt (show a < nx by omega) hdy
  have i2 := ix_lt hbx (show c < ny by omega)
  have i3 := ix_lt hbx hdy
  have s0 := sgn_bd hB k 0 (a * ny + c)
  have s1 := sgn_bd hB k 1 (a * ny + d)
  have s2 := sgn_bd hB k 2 (b * ny + c)
  have s3 := sgn_bd hB k 3 (b * ny + d)
  have e4 : sum4V ny m a b c d k = sgn k 0 (agAt m (a * ny + c)) + sgn k 1 (agAt m (a * ny + d)) + sgn k 2 (agAt m (b * ny + c)) + sgn k 3 (agAt m (b * ny + d)) := rfl
  refine fspec tyOk mx Tryz.func87 rfl (by kernel_rfl) rfl ?_
  conv => whnf
  refine ACall.use (four_spec ny a b c d hy (by omega) (by omega) (by omega) (by omega)) ?_
  conv => whnf
  refine aloopI tyOk mx (fun i : Nat => (⟨42, [(3, .c (.int .i64 (k))), (4, .ptr 0 0), (9, .c (.int .i64 (sumT ny m a b c d k i))), (16, .ag [.c (.int .i64 ((a * ny + c : Nat))), .c (.int .i64 ((a * ny + d : Nat))), .c (.int .i64 ((b * ny + c : Nat))), .c (.int .i64 ((b * ny + d : Nat)))]), (17, .c (.int .i64 (i)))], [(0, .cells 26 [.c (.int .i64 (nx)), .c (.int .i64 (ny)), .c (.int .i64 (z)), .t (.rows m)])], 1⟩ : St)) (fun i => i ≤ 4) (fun i => 4 - i) 0 (by omega) none (by refine ⟨rfl, rfl, ?_, ?_⟩ <;> ((repeat' (first | exact trivial | exact rfl | refine And.intro ?_ ?_)) <;> (try ((conv => whnf); first | refine vint ?_ | refine vboo ?_ | refine rint ?_ | refine rrow ?_ | skip)) <;> (try first | omega | (simp; done) | ((repeat rw [flts_closed _ (by assumption)]); exact vws_closed _ (by assumption))))) (fun i hi => ?_)
  refine ⟨fun h => ?_, fun h => ?_⟩
  · have h : i < 4 := by have := of_decide_eq_true h; omega
    have h4' : i = 0 ∨ i = 1 ∨ i = 2 ∨ i = 3 := by omega
    rcases h4' with rfl | rfl | rfl | rfl
    · conv => whnf
      refine ⟨0, rfl, by omega, ?_⟩
      conv => whnf
      have r4 := h4 _ (getD_mem (d := []) (show a * ny + c < m.length by omega))
      refine ⟨fun h2 => ?_, fun h2 => ?_⟩
      · have h2 : 0 = k := by have := eq_of_beq h2; omega
        have e : IntKind.i64.wrap (sumT ny m a b c d k 0 - agr (m.getD (a * ny + c) [])) = sumT ny m a b c d k 1 := by
          rw [show agr (m.getD (a * ny + c) []) = agAt m (a * ny + c) from rfl, sgn_sub h2]
          simp only [sumT, sum4V]
          rw [w64 (by omega) (by omega)]; try omega
        conv => whnf
        refine ⟨a * ny + c, rfl, by omega, ?_⟩
        conv => whnf
        refine ACall.use (agreement_spec _ r4) ?_
        conv => whnf
        rw [e]
        exact ⟨1, none, (by refine ⟨rfl, rfl, ?_, ?_⟩ <;> ((repeat' (first | exact trivial | exact rfl | refine And.intro ?_ ?_)) <;> (try ((conv => whnf); first | refine vint ?_ | refine vboo ?_ | refine rint ?_ | refine rrow ?_ | skip)) <;> (try first | omega | (simp; done) | ((repeat rw [flts_closed _ (by assumption)]); exact vws_closed _ (by assumption))))), by omega, by omega⟩
      · have h2 : ¬ 0 = k := fun e => by rw [← e] at h2; exact absurd h2 (by decide)
        have e : IntKind.i64.wrap (sumT ny m a b c d k 0 + agr (m.getD (a * ny + c) [])) = sumT ny m a b c d k 1 := by
          rw [show agr (m.getD (a * ny + c) []) = agAt m (a * ny + c) from rfl, sgn_add h2]
          simp only [sumT, sum4V]
          rw [w64 (by omega) (by omega)]; try omega
        conv => whnf
        refine ⟨a * ny + c, rfl, by omega, ?_⟩
        conv => whnf
        refine ACall.use (agreement_spec _ r4) ?_
        conv => whnf
        rw [e]
        exact ⟨1, none, (by refine ⟨rfl, rfl, ?_, ?_⟩ <;> ((repeat' (first | exact trivial | exact rfl | refine And.intro ?_ ?_)) <;> (try ((conv => whnf); first | refine vint ?_ | refine vboo ?_ | refine rint ?_ | refine rrow ?_ | skip)) <;> (try first | omega | (simp; done) | ((repeat rw [flts_closed _ (by assumption)]); exact vws_closed _ (by assumption))))), by omega, by omega⟩
    · conv => whnf
      refine ⟨1, rfl, by omega, ?_⟩
      conv => whnf
      have r4 := h4 _ (getD_mem (d := []) (show a * ny + d < m.length by omega))
      refine ⟨fun h2 => ?_, fun h2 => ?_⟩
      · have h2 : 1 = k := by have := eq_of_beq h2; omega
        have e : IntKind.i64.wrap (sumT ny m a b c d k 1 - agr (m.getD (a * ny + d) [])) = sumT ny m a b c d k 2 := by
          rw [show agr (m.getD (a * ny + d) []) = agAt m (a * ny + d) from rfl, sgn_sub h2]
          simp only [sumT, sum4V]
          rw [w64 (by omega) (by omega)]; try omega
        conv => whnf
        refine ⟨a * ny + d, rfl, by omega, ?_⟩
        conv => whnf
        refine ACall.use (agreement_spec _ r4) ?_
        conv => whnf
        rw [e]
        exact ⟨2, none, (by refine ⟨rfl, rfl, ?_, ?_⟩ <;> ((repeat' (first | exact trivial | exact rfl | refine And.intro ?_ ?_)) <;> (try ((conv => whnf); first | refine vint ?_ | refine vboo ?_ | refine rint ?_ | refine rrow ?_ | skip)) <;> (try first | omega | (simp; done) | ((repeat rw [flts_closed _ (by assumption)]); exact vws_closed _ (by assumption))))), by omega, by omega⟩
      · have h2 : ¬ 1 = k := fun e => by rw [← e] at h2; exact absurd h2 (by decide)
        have e : IntKind.i64.wrap (sumT ny m a b c d k 1 + agr (m.getD (a * ny + d) [])) = sumT ny m a b c d k 2 := by
          rw [show agr (m.getD (a * ny + d) []) = agAt m (a * ny + d) from rfl, sgn_add h2]
          simp only [sumT, sum4V]
          rw [w64 (by omega) (by omega)]; try omega
        conv => whnf
        refine ⟨a * ny + d, rfl, by omega, ?_⟩
        conv => whnf
        refine ACall.use (agreement_spec _ r4) ?_
        conv => whnf
        rw [e]
        exact ⟨2, none, (by refine ⟨rfl, rfl, ?_, ?_⟩ <;> ((repeat' (first | exact trivial | exact rfl | refine And.intro ?_ ?_)) <;> (try ((conv => whnf); first | refine vint ?_ | refine vboo ?_ | refine rint ?_ | refine rrow ?_ | skip)) <;> (try first | omega | (simp; done) | ((repeat rw [flts_closed _ (by assumption)]); exact vws_closed _ (by assumption))))), by omega, by omega⟩
    · conv => whnf
      refine ⟨2, rfl, by omega, ?_⟩
      conv => whnf
      have r4 := h4 _ (getD_mem (d := []) (show b * ny + c < m.length by omega))
      refine ⟨fun h2 => ?_, fun h2 => ?_⟩
      · have h2 : 2 = k := by have := eq_of_beq h2; omega
        have e : IntKind.i64.wrap (sumT ny m a b c d k 2 - agr (m.getD (b * ny + c) [])) = sumT ny m a b c d k 3 := by
          rw [show agr (m.getD (b * ny + c) []) = agAt m (b * ny + c) from rfl, sgn_sub h2]
          simp only [sumT, sum4V]
          rw [w64 (by omega) (by omega)]; try omega
        conv => whnf
        refine ⟨b * ny + c, rfl, by omega, ?_⟩
        conv => whnf
        refine ACall.use (agreement_spec _ r4) ?_
        conv => whnf
        rw [e]
        exact ⟨3, none, (by refine ⟨rfl, rfl, ?_, ?_⟩ <;> ((repeat' (first | exact trivial | exact rfl | refine And.intro ?_ ?_)) <;> (try ((conv => whnf); first | refine vint ?_ | refine vboo ?_ | refine rint ?_ | refine rrow ?_ | skip)) <;> (try first | omega | (simp; done) | ((repeat rw [flts_closed _ (by assumption)]); exact vws_closed _ (by assumption))))), by omega, by omega⟩
      · have h2 : ¬ 2 = k := fun e => by rw [← e] at h2; exact absurd h2 (by decide)
        have e : IntKind.i64.wrap (sumT ny m a b c d k 2 + agr (m.getD (b * ny + c) [])) = sumT ny m a b c d k 3 := by
          rw [show agr (m.getD (b * ny + c) []) = agAt m (b * ny + c) from rfl, sgn_add h2]
          simp only [sumT, sum4V]
          rw [w64 (by omega) (by omega)]; try omega
        conv => whnf
        refine ⟨b * ny + c, rfl, by omega, ?_⟩
        conv => whnf
        refine ACall.use (agreement_spec _ r4) ?_
        conv => whnf
        rw [e]
        exact ⟨3, none, (by refine ⟨rfl, rfl, ?_, ?_⟩ <;> ((repeat' (first | exact trivial | exact rfl | refine And.intro ?_ ?_)) <;> (try ((conv => whnf); first | refine vint ?_ | refine vboo ?_ | refine rint ?_ | refine rrow ?_ | skip)) <;> (try first | omega | (simp; done) | ((repeat rw [flts_closed _ (by assumption)]); exact vws_closed _ (by assumption))))), by omega, by omega⟩
    · conv => whnf
      refine ⟨3, rfl, by omega, ?_⟩
      conv => whnf
      have r4 := h4 _ (getD_mem (d := []) (show b * ny + d < m.length by omega))
      refine ⟨fun h2 => ?_, fun h2 => ?_⟩
      · have h2 : 3 = k := by have := eq_of_beq h2; omega
        have e : IntKind.i64.wrap (sumT ny m a b c d k 3 - agr (m.getD (b * ny + d) [])) = sumT ny m a b c d k 4 := by
          rw [show agr (m.getD (b * ny + d) []) = agAt m (b * ny + d) from rfl, sgn_sub h2]
          simp only [sumT, sum4V]
          rw [w64 (by omega) (by omega)]; try omega
        conv => whnf
        refine ⟨b * ny + d, rfl, by omega, ?_⟩
        conv => whnf
        refine ACall.use (agreement_spec _ r4) ?_
        conv => whnf
        rw [e]
        exact ⟨4, none, (by refine ⟨rfl, rfl, ?_, ?_⟩ <;> ((repeat' (first | exact trivial | exact rfl | refine And.intro ?_ ?_)) <;> (try ((conv => whnf); first | refine vint ?_ | refine vboo ?_ | refine rint ?_ | refine rrow ?_ | skip)) <;> (try first | omega | (simp; done) | ((repeat rw [flts_closed _ (by assumption)]); exact vws_closed _ (by assumption))))), by omega, by omega⟩
      · have h2 : ¬ 3 = k := fun e => by rw [← e] at h2; exact absurd h2 (by decide)
        have e : IntKind.i64.wrap (sumT ny m a b c d k 3 + agr (m.getD (b * ny + d) [])) = sumT ny m a b c d k 4 := by
          rw [show agr (m.getD (b * ny + d) []) = agAt m (b * ny + d) from rfl, sgn_add h2]
          simp only [sumT, sum4V]
          rw [w64 (by omega) (by omega)]; try omega
        conv => whnf
        refine ⟨b * ny + d, rfl, by omega, ?_⟩
        conv => whnf
        refine ACall.use (agreement_spec _ r4) ?_
        conv => whnf
        rw [e]
        exact ⟨4, none, (by refine ⟨rfl, rfl, ?_, ?_⟩ <;> ((repeat' (first | exact trivial | exact rfl | refine And.intro ?_ ?_)) <;> (try ((conv => whnf); first | refine vint ?_ | refine vboo ?_ | refine rint ?_ | refine rrow ?_ | skip)) <;> (try first | omega | (simp; done) | ((repeat rw [flts_closed _ (by assumption)]); exact vws_closed _ (by assumption))))), by omega, by omega⟩
  · have h : ¬ i < 4 := by have := of_decide_eq_false h; omega
    obtain rfl : i = 4 := by omega
    conv => whnf
    exact ⟨rfl, rfl⟩
end Go.Proofs.YtkjdplglenjijaaGreat.L
/- The greatest sum of a box: program. -/
namespace Go.Aw
def abV (t : Int) : Int := if t < 0 then -t else t
theorem abV_bd {t : Int} (h : -4000 ≤ t ∧ t ≤ 4000) : 0 ≤ abV t ∧ abV t ≤ 4000 := by unfold abV; split <;> omega
/-- the greatest sum of a box without its sign, 0 where there is none -/
structure GSum (nx ny : Nat) (m : List (List Int)) (g : Int) : Prop where
  pos : 0 ≤ g
  all : ∀ a b c d k, a < b → b < nx → c < d → d < ny → k < 4 → abV (sum4V ny m a b c d k) ≤ g
  own : g = 0 ∨ ∃ a b c d k, a < b ∧ b < nx ∧ c < d ∧ d < ny ∧ k < 4 ∧ g = abV (sum4V ny m a b c d k)
theorem GSum.one {nx ny : Nat} {m : List (List Int)} {g g' : Int} (h : GSum nx ny m g) (h' : GSum nx ny m g') : g = g' := by
  have key : ∀ {g g' : Int}, GSum nx ny m g → GSum nx ny m g' → g ≤ g' := fun {g g'} h h' => by
    rcases h.own with e | ⟨a, b, c, d, k, h1, h2, h3, h4, h5, e⟩
    · rw [e]; exact h'.pos
    · rw [e]; exact h'.all a b c d k h1 h2 h3 h4 h5
  have := key h h'
  have := key h' h
  omega
/-- the entries of the list of pairs -/
def qa (n i : Nat) : Nat := (((prs n).getD i ([], [])).1.getD 0 0).toNat
def qb (n i : Nat) : Nat := (((prs n).getD i ([], [])).1.getD 1 0).toNat
theorem q_at {n i : Nat} (hn : n ≤ 3) (h : i < (prs n).length) : ((prs n).getD i ([], [])).1.getD 0 0 = (qa n i : Int) ∧ ((prs n).getD i ([], [])).1.getD 1 0 = (qb n i : Int) ∧ qa n i < qb n i ∧ qb n i < n := by
  obtain ⟨a, b, e, h1, h2⟩ := prs_at hn h
  have ea : qa n i = a := by rw [qa, e]; simp
  have eb : qb n i = b := by rw [qb, e]; simp
  rw [ea, eb, e]
  exact ⟨rfl, rfl, h1, h2⟩
theorem q_all {n a b : Nat} (hn : n ≤ 3) (h1 : a < b) (h2 : b < n) : ∃ i, i < (prs n).length ∧ qa n i = a ∧ qb n i = b := by
  obtain ⟨i, hi, e⟩ := prs_all hn h1 h2
  exact ⟨i, hi, by rw [qa, e]; simp, by rw [qb, e]; simp⟩
def sumI (nx ny : Nat) (m : List (List Int)) (i k j : Nat) : Int := sum4V ny m (qa nx i) (qb nx i) (qa ny k) (qb ny k) j
/-- what is done so far -/
structure GTo (nx ny : Nat) (m : List (List Int)) (I K J : Nat) (g : Int) : Prop where
  pos : 0 ≤ g ∧ g ≤ 4000
  all : ∀ i k j, i < (prs nx).length → k < (prs ny).length → j < 4 → (i < I ∨ (i = I ∧ (k < K ∨ (k = K ∧ j < J)))) → abV (sumI nx ny m i k j) ≤ g
  own : g = 0 ∨ ∃ a b c d k, a < b ∧ b < nx ∧ c < d ∧ d < ny ∧ k < 4 ∧ g = abV (sum4V ny m a b c d k)
theorem GTo.zero (nx ny : Nat) (m : List (List Int)) : GTo nx ny m 0 0 0 0 := ⟨by omega, fun i k j _ _ _ h => by omega, .inl rfl⟩
theorem GTo.nextJ {nx ny : Nat} {m : List (List Int)} {I K J : Nat} {g g' : Int} (h : GTo nx ny m I K J g) (hx : nx ≤ 3) (hy : ny ≤ 3) (hI : I < (prs nx).length) (hK : K < (prs ny).length) (hJ : J < 4) (hB : AgB m)
    (hg : (g' = abV (sumI nx ny m I K J) ∧ g ≤ g') ∨ (g' = g ∧ abV (sumI nx ny m I K J) ≤ g)) : GTo nx ny m I K (J + 1) g' := by
  have hb := abV_bd (sum4_bd hB ny (qa nx I) (qb nx I) (qa ny K) (qb ny K) J)
  have hs : abV (sumI nx ny m I K J) ≤ g' := by rcases hg with h | h <;> omega
  have hgg : g ≤ g' := by rcases hg with h | h <;> omega
  obtain ⟨_, _, a1, a2⟩ := q_at hx hI
  obtain ⟨_, _, a3, a4⟩ := q_at hy hK
  refine ⟨?_, fun i k j hi hk hj ho => ?_, ?_⟩
  · have := h.pos
    unfold sumI at hg
    rcases hg with h | h <;> omega
  · by_cases e : i = I ∧ k = K ∧ j = J
    · obtain ⟨rfl, rfl, rfl⟩ := e; exact hs
    · exact Int.le_trans (h.all i k j hi hk hj (by omega)) hgg
  · rcases hg with ⟨h1, _⟩ | ⟨h1, _⟩
    · exact .inr ⟨_, _, _, _, J, a1, a2, a3, a4, hJ, h1⟩
    · rw [h1]; exact h.own
theorem GTo.nextK {nx ny : Nat} {m : List (List Int)} {I K : Nat} {g : Int} (h : GTo nx ny m I K 4 g) : GTo nx ny m I (K + 1) 0 g :=
  ⟨h.pos, fun i k j hi hk hj ho => h.all i k j hi hk hj (by omega), h.own⟩
theorem GTo.nextI {nx ny : Nat} {m : List (List Int)} {I : Nat} {g : Int} (h : GTo nx ny m I (prs ny).length 0 g) : GTo nx ny m (I + 1) 0 0 g :=
  ⟨h.pos, fun i k j hi hk hj ho => h.all i k j hi hk hj (by omega), h.own⟩
theorem GTo.fin {nx ny : Nat} {m : List (List Int)} {g : Int} (hx : nx ≤ 3) (hy : ny ≤ 3) (h : GTo nx ny m (prs nx).length 0 0 g) : GSum nx ny m g :=
  ⟨h.pos.1, fun a b c d k h1 h2 h3 h4 h5 => by
    obtain ⟨i, hi, rfl, rfl⟩ := q_all hx h1 h2
    obtain ⟨j, hj, rfl, rfl⟩ := q_all hy h3 h4
    exact h.all i j k hi hj h5 (by omega), h.own⟩
end Go.Aw
namespace Go.Proofs.YtkjdplglenjijaaGreat.L
open Go.Aw
set_option maxRecDepth 100000
set_option maxHeartbeats 4000000

/-- the greatest sum, and something more -/
def gsP (nx ny : Nat) (m : List (List Int)) : AVal → List (Nat × ARow) → Prop := fun v h => h = [] ∧ ∃ (g p0 p1 q0 q1 k : Int) (t : Bool), GSum nx ny m g ∧ g ≤ 4000 ∧ v = .tu [.c (.int .i64 (g)), .ag [.c (.int .i64 (p0)), .c (.int .i64 (p1))], .ag [.c (.int .i64 (q0)), .c (.int .i64 (q1))], .c (.int .i64 (k)), .c (.bool t)]
theorem greatest_spec (nx ny : Nat) (z : Int) (m : List (List Int)) (hx : nx ≤ 3) (hy : ny ≤ 3) (hm : m.length = nx * ny) (h4 : ∀ r, r ∈ m → r.length = 4) (hB : AgB m) :
    FSpec Tryz.prog 44 [.ag [.c (.int .i64 (nx)), .c (.int .i64 (ny)), .c (.int .i64 (z)), .t (.rows m)]] (gsP nx ny m) := by
  have lx := prs_len hx
  have ly := prs_len hy
  refine fspec tyOk mx Tryz.func44 rfl (by kernel_rfl) rfl ?_
  conv => whnf
  refine ACall.use (pairs_spec nx (by omega)) ?_
  conv => whnf
  refine aloopI tyOk mx (fun i : Nat × Int × Int × Int × Int × Int × Int × Bool => (⟨67, [(1, .ptr 0 0), (2, .c (.int .i64 (0))), (3, .ptr 1 0), (4, .ptr 2 0), (5, .c (.int .i64 (0))), (6, .c (.bool false)), (7, .c (.int .i64 (i.2.1))), (8, .ptr 3 0), (9, .ptr 4 0), (10, .c (.int .i64 (i.2.2.2.2.2.2.1))), (11, .c (.bool i.2.2.2.2.2.2.2)), (22, .t (.recs 101 (prs nx))), (23, .c (.int .i64 ((prs nx).length))), (24, .c (.int .i64 (i.1)))], [(0, .cells 26 [.c (.int .i64 (nx)), .c (.int .i64 (ny)), .c (.int .i64 (z)), .t (.rows m)]), (1, .cells 49 [.c (.int .i64 (0)), .c (.int .i64 (0))]), (2, .cells 49 [.c (.int .i64 (0)), .c (.int .i64 (0))]), (3, .cells 49 [.c (.int .i64 (i.2.2.1)), .c (.int .i64 (i.2.2.2.1))]), (4, .cells 49 [.c (.int .i64 (i.2.2.2.2.1)), .c (.int .i64 (i.2.2.2.2.2.1))])], 5⟩ : St)) (fun i => i.1 ≤ (prs nx).length ∧ GTo nx ny m i.1 0 0 i.2.1 ∧ (i.2.2.2.2.2.2.2 = false → i.2.1 = 0)) (fun i => (prs nx).length - i.1) (0, 0, 0, 0, 0, 0, 0, false) ⟨Nat.zero_le _, GTo.zero nx ny m, fun _ => rfl⟩ none (by refine ⟨rfl, rfl, ?_, ?_⟩ <;> ((repeat' (first | exact trivial | exact rfl | refine And.intro ?_ ?_)) <;> (try ((conv => whnf); first | refine vint ?_ | refine vboo ?_ | refine rint ?_ | refine rrow ?_ | skip)) <;> (try first | omega | (simp; done) | ((repeat rw [flts_closed _ (by assumption)]); exact vws_closed _ (by assumption))))) (fun i hi => ?_)
  obtain ⟨i, g, p0, p1, q0, q1, kk, t⟩ := i
  obtain ⟨i1, i2, i3⟩ := hi
  simp only at i1 i2 i3
  dsimp only
  refine ⟨fun h => ?_, fun h => ?_⟩
  · have h := ltT h
    obtain ⟨ea, eb, x1, x2⟩ := q_at hx h
    conv => whnf
    refine ⟨i, rfl, h, ?_⟩
    conv => whnf
    refine ACall.use (pairs_spec ny (by omega)) ?_
    conv => whnf
    refine aloopI tyOk mx (fun j : Nat × Int × Int × Int × Int × Int × Int × Bool => (⟨67, [(1, .ptr 0 0), (2, .c (.int .i64 (0))), (3, .ptr 1 0), (4, .ptr 2 0), (5, .c (.int .i64 (0))), (6, .c (.bool false)), (7, .c (.int .i64 (j.2.1))), (8, .ptr 3 0), (9, .ptr 4 0), (10, .c (.int .i64 (j.2.2.2.2.2.2.1))), (11, .c (.bool j.2.2.2.2.2.2.2)), (13, .ptr 5 0), (22, .t (.recs 101 (prs nx))), (23, .c (.int .i64 ((prs nx).length))), (24, .c (.int .i64 (i))), (30, .t (.recs 101 (prs ny))), (31, .c (.int .i64 ((prs ny).length))), (32, .c (.int .i64 (j.1)))], [(0, .cells 26 [.c (.int .i64 (nx)), .c (.int .i64 (ny)), .c (.int .i64 (z)), .t (.rows m)]), (1, .cells 49 [.c (.int .i64 (0)), .c (.int .i64 (0))]), (2, .cells 49 [.c (.int .i64 (0)), .c (.int .i64 (0))]), (3, .cells 49 [.c (.int .i64 (j.2.2.1)), .c (.int .i64 (j.2.2.2.1))]), (4, .cells 49 [.c (.int .i64 (j.2.2.2.2.1)), .c (.int .i64 (j.2.2.2.2.2.1))]), (5, .cells 49 [.c (.int .i64 (qa nx i)), .c (.int .i64 (qb nx i))])], 6⟩ : St)) (fun j => j.1 ≤ (prs ny).length ∧ GTo nx ny m i j.1 0 j.2.1 ∧ (j.2.2.2.2.2.2.2 = false → j.2.1 = 0)) (fun j => (prs ny).length - j.1) (0, g, p0, p1, q0, q1, kk, t) ⟨Nat.zero_le _, i2, i3⟩ none (by refine ⟨rfl, rfl, ?_, ?_⟩ <;> ((repeat' (first | exact trivial | exact rfl | refine And.intro ?_ ?_)) <;> (try ((conv => whnf); first | refine vint ?_ | refine vboo ?_ | refine rint ?_ | refine rrow ?_ | skip)) <;> (try first | omega | (simp; done) | ((repeat rw [flts_closed _ (by assumption)]); exact vws_closed _ (by assumption))))) (fun j hj => ?_)
    obtain ⟨j, g, p0, p1, q0, q1, kk, t⟩ := j
    obtain ⟨j1, j2, j3⟩ := hj
    simp only at j1 j2 j3
    dsimp only
    refine ⟨fun h2 => ?_, fun h2 => ?_⟩
    · have h2 := ltT h2
      obtain ⟨ec, ed, y1, y2⟩ := q_at hy h2
      conv => whnf
      refine ⟨j, rfl, h2, ?_⟩
      conv => whnf
      refine aloopI tyOk mx (fun u : Nat × Int × Int × Int × Int × Int × Int × Bool => (⟨67, [(1, .ptr 0 0), (2, .c (.int .i64 (0))), (3, .ptr 1 0), (4, .ptr 2 0), (5, .c (.int .i64 (0))), (6, .c (.bool false)), (7, .c (.int .i64 (u.2.1))), (8, .ptr 3 0), (9, .ptr 4 0), (10, .c (.int .i64 (u.2.2.2.2.2.2.1))), (11, .c (.bool u.2.2.2.2.2.2.2)), (13, .ptr 5 0), (15, .ptr 6 0), (22, .t (.recs 101 (prs nx))), (23, .c (.int .i64 ((prs nx).length))), (24, .c (.int .i64 (i))), (30, .t (.recs 101 (prs ny))), (31, .c (.int .i64 ((prs ny).length))), (32, .c (.int .i64 (j))), (36, .c (.int .i64 (u.1)))], [(0, .cells 26 [.c (.int .i64 (nx)), .c (.int .i64 (ny)), .c (.int .i64 (z)), .t (.rows m)]), (1, .cells 49 [.c (.int .i64 (0)), .c (.int .i64 (0))]), (2, .cells 49 [.c (.int .i64 (0)), .c (.int .i64 (0))]), (3, .cells 49 [.c (.int .i64 (u.2.2.1)), .c (.int .i64 (u.2.2.2.1))]), (4, .cells 49 [.c (.int .i64 (u.2.2.2.2.1)), .c (.int .i64 (u.2.2.2.2.2.1))]), (5, .cells 49 [.c (.int .i64 (qa nx i)), .c (.int .i64 (qb nx i))]), (6, .cells 49 [.c (.int .i64 (qa ny j)), .c (.int .i64 (qb ny j))])], 7⟩ : St)) (fun u => u.1 ≤ 4 ∧ GTo nx ny m i j u.1 u.2.1 ∧ (u.2.2.2.2.2.2.2 = false → u.2.1 = 0)) (fun u => 4 - u.1) (0, g, p0, p1, q0, q1, kk, t) ⟨Nat.zero_le _, j2, j3⟩ none (by refine ⟨rfl, rfl, ?_, ?_⟩ <;> ((repeat' (first | exact trivial | exact rfl | refine And.intro ?_ ?_)) <;> (try ((conv => whnf); first | refine vint ?_ | refine vboo ?_ | refine rint ?_ | refine rrow ?_ | skip)) <;> (try first | omega | (simp; done) | ((repeat rw [flts_closed _ (by assumption)]); exact vws_closed _ (by assumption))))) (fun u hu => ?_)
      obtain ⟨u, g, p0, p1, q0, q1, kk, t⟩ := u
      obtain ⟨u1, u2, u3⟩ := hu
      simp only at u1 u2 u3
      dsimp only
      refine ⟨fun h3 => ?_, fun h3 => ?_⟩
      · have h3 : u < 4 := by have := of_decide_eq_true h3; omega
        have sb := sum4_bd hB ny (qa nx i) (qb nx i) (qa ny j) (qb ny j) u
        conv => whnf
        refine ACall.use (sum_spec nx ny (qa nx i) (qb nx i) (qa ny j) (qb ny j) u z m hx hy x1 x2 y1 y2 (by omega) hm h4 hB) ?_
        conv => whnf
        have ew : (if IntKind.i64.wrap (0 - sum4V ny m (qa nx i) (qb nx i) (qa ny j) (qb ny j) u) > sum4V ny m (qa nx i) (qb nx i) (qa ny j) (qb ny j) u then IntKind.i64.wrap (0 - sum4V ny m (qa nx i) (qb nx i) (qa ny j) (qb ny j) u) else sum4V ny m (qa nx i) (qb nx i) (qa ny j) (qb ny j) u) = abV (sumI nx ny m i j u) := by
          rw [w64 (by omega) (by omega)]
          unfold abV sumI
          split <;> split <;> omega
        rw [ew]
        dsimp only
        have eN : IntKind.i64.wrap ((u : Int) + 1) = ((u + 1 : Nat) : Int) := nat_wrap (by omega)
        refine ⟨fun ht => ?_, fun ht => ?_⟩
        · conv => whnf
          refine ⟨fun h5 => ?_, fun h5 => ?_⟩
          · have h5 : abV (sumI nx ny m i j u) > g := of_decide_eq_true h5
            refine ADraw.plan tyOk mx (.q 0 (.q 1 (.q 3 (.q 4 (.alt 2 (.last 5 (.last 6 (.q 7 (.q 8 (.done))))) (.last 5 (.last 2 (.last 6 (.q 7 (.q 8 (.done)))))))))) : Plan) (by kernel_rfl) ?_
            conv => whnf
            repeat' (first | (refine And.intro ?_ ?_ <;> (conv => whnf)))
            all_goals
              rw [eN]
              refine ⟨(u + 1, abV (sumI nx ny m i j u), (qa nx i : Int), (qb nx i : Int), (qa ny j : Int), (qb ny j : Int), (u : Int), true), none, ?_, ⟨by simp only; omega, u2.nextJ hx hy h h2 h3 hB (.inl ⟨rfl, by show g ≤ abV (sumI nx ny m i j u); omega⟩), fun h => by simp at h⟩, by simp only; omega⟩
              (refine ⟨rfl, rfl, ?_, ?_⟩ <;> ((repeat' (first | exact trivial | exact rfl | refine And.intro ?_ ?_)) <;> (try ((conv => whnf); first | refine vint ?_ | refine vboo ?_ | refine rint ?_ | refine rrow ?_ | skip)) <;> (try first | omega | (simp; done) | ((repeat rw [flts_closed _ (by assumption)]); exact vws_closed _ (by assumption)))))
          · have h5 : ¬ abV (sumI nx ny m i j u) > g := of_decide_eq_false h5
            conv => whnf
            rw [eN]
            exact ⟨(u + 1, g, p0, p1, q0, q1, kk, t), none, (by refine ⟨rfl, rfl, ?_, ?_⟩ <;> ((repeat' (first | exact trivial | exact rfl | refine And.intro ?_ ?_)) <;> (try ((conv => whnf); first | refine vint ?_ | refine vboo ?_ | refine rint ?_ | refine rrow ?_ | skip)) <;> (try first | omega | (simp; done) | ((repeat rw [flts_closed _ (by assumption)]); exact vws_closed _ (by assumption))))), ⟨by simp only; omega, u2.nextJ hx hy h h2 h3 hB (.inr ⟨rfl, by show abV (sumI nx ny m i j u) ≤ g; omega⟩), u3⟩, by simp only; omega⟩
        · have hg0 : g = 0 := u3 (by simpa using ht)
          have hab := abV_bd sb
          have hab : 0 ≤ abV (sumI nx ny m i j u) := hab.1
          clear ew
          (repeat (conv => whnf); (first | refine ⟨fun h => absurd h (by decide), fun _ => ?_⟩ | refine ⟨fun _ => ?_, fun h => absurd h (by decide)⟩)); conv => whnf
          refine ADraw.plan tyOk mx (.q 0 (.q 1 (.q 3 (.q 4 (.alt 2 (.last 5 (.last 6 (.q 7 (.q 8 (.done))))) (.last 5 (.last 2 (.last 6 (.q 7 (.q 8 (.done)))))))))) : Plan) (by kernel_rfl) ?_
          conv => whnf
          repeat' (first | (refine And.intro ?_ ?_ <;> (conv => whnf)))
          all_goals
            rw [eN]
            refine ⟨(u + 1, abV (sumI nx ny m i j u), (qa nx i : Int), (qb nx i : Int), (qa ny j : Int), (qb ny j : Int), (u : Int), true), none, ?_, ⟨by simp only; omega, u2.nextJ hx hy h h2 h3 hB (.inl ⟨rfl, by show g ≤ abV (sumI nx ny m i j u); omega⟩), fun h => by simp at h⟩, by simp only; omega⟩
            (refine ⟨rfl, rfl, ?_, ?_⟩ <;> ((repeat' (first | exact trivial | exact rfl | refine And.intro ?_ ?_)) <;> (try ((conv => whnf); first | refine vint ?_ | refine vboo ?_ | refine rint ?_ | refine rrow ?_ | skip)) <;> (try first | omega | (simp; done) | ((repeat rw [flts_closed _ (by assumption)]); exact vws_closed _ (by assumption)))))
      · have h3 : ¬ u < 4 := by have := of_decide_eq_false h3; omega
        obtain rfl : u = 4 := by omega
        conv => whnf
        rw [nat_wrap (by omega)]
        exact ⟨(j + 1, g, p0, p1, q0, q1, kk, t), none, (by refine ⟨rfl, rfl, ?_, ?_⟩ <;> ((repeat' (first | exact trivial | exact rfl | refine And.intro ?_ ?_)) <;> (try ((conv => whnf); first | refine vint ?_ | refine vboo ?_ | refine rint ?_ | refine rrow ?_ | skip)) <;> (try first | omega | (simp; done) | ((repeat rw [flts_closed _ (by assumption)]); exact vws_closed _ (by assumption))))), ⟨by simp only; omega, u2.nextK, u3⟩, by simp only; omega⟩
    · have h2 := ltF h2
      obtain rfl : j = (prs ny).length := by omega
      conv => whnf
      rw [nat_wrap (by omega)]
      exact ⟨(i + 1, g, p0, p1, q0, q1, kk, t), none, (by refine ⟨rfl, rfl, ?_, ?_⟩ <;> ((repeat' (first | exact trivial | exact rfl | refine And.intro ?_ ?_)) <;> (try ((conv => whnf); first | refine vint ?_ | refine vboo ?_ | refine rint ?_ | refine rrow ?_ | skip)) <;> (try first | omega | (simp; done) | ((repeat rw [flts_closed _ (by assumption)]); exact vws_closed _ (by assumption))))), ⟨by simp only; omega, j2.nextI, j3⟩, by simp only; omega⟩
  · have h := ltF h
    obtain rfl : i = (prs nx).length := by omega
    have hf := i2.fin hx hy
    have hb := i2.pos
    refine ADraw.plan tyOk mx (.q 0 (.q 1 (.q 3 (.q 4 (.q 5 (.alt 2 (.last 6 (.last 7 (.q 8 (.q 9 (.done))))) (.last 6 (.last 2 (.last 7 (.q 8 (.q 9 (.done))))))))))) : Plan) (by kernel_rfl) ?_
    conv => whnf
    repeat' (first
      | (exact ⟨rfl, g, p0, p1, q0, q1, kk, t, hf, hb.2, rfl⟩)
      | (refine And.intro ?_ ?_ <;> (conv => whnf)))
end Go.Proofs.YtkjdplglenjijaaGreat.L
