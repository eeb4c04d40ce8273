/- What a function hands back; the contract of a whole function. -/
import Derived.Test.YtkomndcehdneaaaM1
import Derived.Test.YtkomndcehdneaaaProg
namespace Go.Aw
open Go.RowKit

mutual
/-- the rows that a result leads to, in their order (an inner row by its place) -/
def refs : AVal → List (Nat × Option Nat)
  | .own k => [(k, none)]
  | .sub k i => [(k, some i)]
  | .ag l | .tu l => refsAll l
  | _ => []
def refsAll : List AVal → List (Nat × Option Nat)
  | [] => []
  | a :: r => refs a ++ refsAll r
end

mutual
/-- the result with its rows numbered from n on -/
def canon (n : Nat) : AVal → Option (AVal × Nat)
  | .c v => some (.c v, n)
  | .nul => some (.nul, n)
  | .t t => some (.t t, n)
  | .own _ | .sub _ _ => some (.own n, n + 1)
  | .ag l => match canons n l with
    | some (l', m) => some (.ag l', m)
    | none => none
  | .tu l => match canons n l with
    | some (l', m) => some (.tu l', m)
    | none => none
  | _ => none
def canons (n : Nat) : List AVal → Option (List AVal × Nat)
  | [] => some ([], n)
  | a :: r => match canon n a with
    | none => none
    | some (a', m) => match canons m r with
      | none => none
      | some (r', q) => some (a' :: r', q)
end

def rowOf (hp : List (Nat × ARow)) (p : Nat × Option Nat) : Option ARow :=
  match look hp p.1 with
  | some (.cells ..) => none
  | some r => match p.2 with
    | none => some r
    | some i => match r with
      | .rows _ e1 true m => some (.ints e1 .i64 (m.getD i []))
      | _ => none
  | none => none

def rowsOf (hp : List (Nat × ARow)) (n : Nat) : List (Nat × Option Nat) → Option (List (Nat × ARow))
  | [] => some []
  | p :: r => match rowOf hp p with
    | none => none
    | some x => match rowsOf hp (n + 1) r with
      | none => none
      | some l => some ((n, x) :: l)

def fresh (k : Nat) : List (Nat × Option Nat) → Bool
  | [] => true
  | (j, _) :: r => match Nat.beq j k with | true => false | false => fresh k r

def differ : List (Nat × Option Nat) → Bool
  | [] => true
  | (k, _) :: r => match fresh k r with | true => differ r | false => false

def afin (st : St) (x : AVal) (post : AVal → List (Nat × ARow) → Prop) : Prop :=
  match canon 0 x with
  | none => False
  | some (x', _) => match differ (refs x) with
    | false => False
    | true => match rowsOf st.hp 0 (refs x) with
      | none => False
      | some h => post x' h

def ares (Γ : Tys) (st : St) : List ResultVar → (List AVal → Prop) → Prop
  | [], K => K []
  | .tmp t :: r, K => match lk st t with
    | some x => ares Γ st r fun l => K (x :: l)
    | none => False
  | .cell p t :: r, K => match lk st p with
    | some y => match isKey st.hp (match y with | .ptr k _ => k | _ => st.nx) with
      | true => aload Γ st t y fun x => ares Γ st r fun l => K (x :: l)
      | false => False
    | none => False

def aret (Γ : Tys) (st : St) (rs : List ResultVar) (post : AVal → List (Nat × ARow) → Prop) : Prop :=
  ares Γ st rs fun l => match l with
    | [x] => afin st x post
    | l => afin st (.tu l) post

section
variable {P : Program} {Γ : Tys} {w0 : Base} {w w' : World} {ob : Nat → Prop} {st : St} {a : Act} {η : Env}

def valOf (η : Env) (p : Nat × Option Nat) : Value :=
  match p.2 with
  | none => η.val p.1
  | some i => (η.cel p.1).getD i undef

def celOf (hp : List (Nat × ARow)) (η : Env) (p : Nat × Option Nat) : List Value :=
  match p.2 with
  | none => η.cel p.1
  | some i => match look hp p.1 with
    | some (.rows _ _ _ m) => (m.getD i []).map (Value.int .i64)
    | _ => []

def ηret (hp : List (Nat × ARow)) (η : Env) (R : List (Nat × Option Nat)) : Env := ⟨fun j => valOf η (R.getD j (0, none)), fun j => celOf hp η (R.getD j (0, none))⟩

theorem rowsOf_spec {hp : List (Nat × ARow)} : ∀ {R : List (Nat × Option Nat)} {n : Nat} {h : List (Nat × ARow)}, rowsOf hp n R = some h →
    h.length = R.length ∧ (∀ j, j < n → look h j = none) ∧ ∀ j, look h (n + j) = (R[j]?).bind (rowOf hp)
  | [], n, h, hr => by simp only [rowsOf, Option.some.injEq] at hr; subst hr; exact ⟨rfl, fun _ _ => rfl, fun j => by simp [look]⟩
  | p :: R, n, h, hr => by
    simp only [rowsOf] at hr
    cases hp1 : rowOf hp p with
    | none => rw [hp1] at hr; cases hr
    | some x =>
      rw [hp1] at hr
      simp only at hr
      cases hl : rowsOf hp (n + 1) R with
      | none => rw [hl] at hr; cases hr
      | some l =>
        rw [hl] at hr
        simp only [Option.some.injEq] at hr
        subst hr
        obtain ⟨h1, h2, h3⟩ := rowsOf_spec hl
        refine ⟨by simp [h1], fun j hj => ?_, fun j => ?_⟩
        · rw [look_cons, if_neg (by omega)]; exact h2 j (by omega)
        · rw [look_cons]
          match j with
          | 0 => simp [hp1]
          | j + 1 =>
            rw [if_neg (by omega)]
            have := h3 j
            rw [show n + (j + 1) = n + 1 + j by omega, this]
            simp

theorem fresh_spec {k : Nat} : ∀ {R : List (Nat × Option Nat)}, fresh k R = true → ∀ p, p ∈ R → p.1 ≠ k
  | [], _, p, hp => by simp at hp
  | (j, o) :: R, h, p, hp => by
    simp only [fresh] at h
    split at h
    case h_1 => cases h
    case h_2 hb =>
      rcases List.mem_cons.1 hp with rfl | hp
      · exact fun e => by simp only at e; rw [e, Nat.beq_refl] at hb; cases hb
      · exact fresh_spec h p hp

theorem differ_spec : ∀ {R : List (Nat × Option Nat)}, differ R = true → ∀ (i j : Nat) (p q : Nat × Option Nat), R[i]? = some p → R[j]? = some q → i ≠ j → p.1 ≠ q.1
  | [], _, i, j, p, q, hi, _, _ => by simp at hi
  | (k, o) :: R, h, i, j, p, q, hi, hj, hne => by
    simp only [differ] at h
    split at h
    case h_2 => cases h
    case h_1 hf =>
      match i, j with
      | 0, 0 => exact absurd rfl hne
      | 0, j + 1 => simp at hi hj; subst hi; exact Ne.symm (fresh_spec hf q (List.mem_of_getElem? hj))
      | i + 1, 0 => simp at hi hj; subst hj; exact fresh_spec hf p (List.mem_of_getElem? hi)
      | i + 1, j + 1 => simp at hi hj; exact differ_spec h i j p q hi hj (by omega)

/-- an inner row's place is within the row -/
def inOk (η : Env) (p : Nat × Option Nat) : Prop := ∀ i, p.2 = some i → i < (η.cel p.1).length

theorem rowOf_rep {B : Nat} {hp : List (Nat × ARow)} {nx : Nat} (hh : HRep w B ob hp nx η) {R : List (Nat × Option Nat)} {j : Nat} {p : Nat × Option Nat} (hj : R[j]? = some p) {r : ARow} (hr : rowOf hp p = some r) (hin : inOk η p)
    {bad' : Nat → Prop} (hk : Keeps w (badOf ob hp η) w bad') {hp' : List (Nat × ARow)} {nx' : Nat} :
    RowRep w B bad' hp' nx' (ηret hp η R) j r ∧ (∃ r0, look hp p.1 = some r0 ∧ (∀ b, b ∈ bsOf (ηret hp η R) j r → b ∈ bsOf η p.1 r0)) ∧ (bsOf (ηret hp η R) j r).Nodup ∧ r.kind < 4 := by
  have hR : R.getD j (0, none) = p := getD_of hj
  have hv : (ηret hp η R).val j = valOf η p := by simp [ηret, hj]
  have hc : (ηret hp η R).cel j = celOf hp η p := by simp [ηret, hj]
  obtain ⟨k, o⟩ := p
  unfold rowOf at hr
  split at hr
  case h_1 => cases hr
  case h_3 => cases hr
  case h_2 r0 hnc hlk0 =>
    have hlk : look hp k = some r0 := hlk0
    have hrow := hh.row k r0 hlk
    have hnd := hh.nodup k r0 hlk
    split at hr
    case h_1 ho =>
      simp only at ho
      subst ho
      simp only [Option.some.injEq] at hr
      subst hr
      have hbs : bsOf (ηret hp η R) j r0 = bsOf η k r0 := by simp only [bsOf, hv, hc, valOf, celOf]
      refine ⟨?_, ⟨r0, hlk, fun b hb => by rwa [hbs] at hb⟩, by rw [hbs]; exact hnd, ?_⟩
      · match r0 with
        | .ints e kd l => simp only [RowRep, OwnInts, hv, hc]; exact hrow
        | .rows e e1 true m => simp only [RowRep, hv, hc]; exact hrow
        | .rows e e1 false m => simp only [RowRep, hv, hc]; exact ⟨hrow.1, F2.imp (fun _ _ _ ho => ho.keeps hk) hrow.2⟩
        | .cells e l => exact (hnc e l rfl).elim
        | .recs e s L =>
          obtain ⟨g1, css, g2, g3⟩ := hrow
          simp only [RowRep, hv, hc]
          exact ⟨g1, css, g2, F2.imp (fun _ _ _ ho => ho.keeps hk) g3⟩
      · match r0 with
        | .ints .. => simp [ARow.kind]
        | .rows _ _ true _ => simp [ARow.kind]
        | .rows _ _ false _ => simp [ARow.kind]
        | .recs .. => simp [ARow.kind]
        | .cells e l => exact (hnc e l rfl).elim
    case h_2 i ho =>
      simp only at ho
      subst ho
      split at hr
      case h_2 => cases hr
      case h_1 e e1 m =>
        simp only [Option.some.injEq] at hr
        subst hr
        have hi := hin i rfl
        simp only at hi
        obtain ⟨v, hvi⟩ : ∃ v, (η.cel k)[i]? = some v := ⟨_, List.getElem?_eq_getElem hi⟩
        obtain ⟨l, hl, ho⟩ := F2.at' hrow.2 hvi
        have hv' : (ηret hp η R).val j = v := by rw [hv]; exact getD_of hvi
        have hc' : (ηret hp η R).cel j = l.map (Value.int .i64) := by rw [hc]; simp only [celOf, hlk]; rw [getD_of hl]
        rw [getD_of hl]
        have hbs : bsOf (ηret hp η R) j (.ints e1 .i64 l) = blk v := by simp [bsOf, ARow.kind, hv']
        refine ⟨?_, ⟨_, hlk, fun b hb => ?_⟩, ?_, by simp [ARow.kind]⟩
        · simp only [RowRep, hv', hc']; exact ⟨ho, trivial⟩
        · rw [hbs] at hb
          simp only [bsOf, ARow.kind, if_true]
          exact List.mem_append.2 (.inr (List.mem_flatMap.2 ⟨v, List.mem_of_getElem? hvi, hb⟩))
        · rw [hbs]
          have hflat : ((η.cel k).flatMap blk).Nodup := by
            simp only [bsOf, ARow.kind, if_true] at hnd
            exact (List.nodup_append.1 hnd).2.1
          have hsub : (blk v).Sublist ((η.cel k).flatMap blk) := by
            obtain ⟨s, t, hst⟩ := List.append_of_mem (List.mem_of_getElem? hvi)
            rw [hst]
            simp only [List.flatMap_append, List.flatMap_cons]
            exact (List.sublist_append_left _ _).trans (List.sublist_append_right _ _)
          exact hflat.sublist hsub

mutual
theorem canon_rep {hp h : List (Nat × ARow)} {nx : Nat} {bad' : Nat → Prop} (hk : Keeps w (badOf ob hp η) w bad') {R : List (Nat × Option Nat)} (hlen : h.length = R.length) (hrows : ∀ j, look h j = (R[j]?).bind (rowOf hp))
    (hkind : ∀ (j : Nat) (p : Nat × Option Nat) (r : ARow), R[j]? = some p → rowOf hp p = some r → r.kind < 4) : ∀ (x : AVal) {n n' : Nat} {x' : AVal} {v : Value}, canon n x = some (x', n') → (∀ j, j < (refs x).length → R[n + j]? = (refs x)[j]?) → (∀ p, p ∈ refs x → ∃ r, rowOf hp p = some r) →
      VRep w (badOf ob hp η) hp nx η x v → n' = n + (refs x).length ∧ VRep w bad' h h.length (ηret hp η R) x' v
  | .c y, n, n', x', v, hc, _, _, hv => by simp only [canon, Option.some.injEq, Prod.mk.injEq] at hc; obtain ⟨rfl, rfl⟩ := hc; exact ⟨by simp [refs], hv⟩
  | .t t, n, n', x', v, hc, _, _, hv => by simp only [canon, Option.some.injEq, Prod.mk.injEq] at hc; obtain ⟨rfl, rfl⟩ := hc; exact ⟨by simp [refs], TRep.keeps hk hv⟩
  | .nul, n, n', x', v, hc, _, _, hv => by simp only [canon, Option.some.injEq, Prod.mk.injEq] at hc; obtain ⟨rfl, rfl⟩ := hc; exact ⟨by simp [refs], hv⟩
  | .own k, n, n', x', v, hc, hR, hro, hv => by
    simp only [canon, Option.some.injEq, Prod.mk.injEq] at hc
    obtain ⟨rfl, rfl⟩ := hc
    have h0 : R[n]? = some (k, none) := by simpa [refs] using hR 0 (by simp [refs])
    refine ⟨by simp [refs], ?_, fun r hr => ?_⟩
    · rw [hlen]; exact (List.getElem?_eq_some_iff.1 h0).1
    · rw [hrows, h0] at hr
      simp only [Option.bind_some] at hr
      refine ⟨hkind n _ r h0 hr, ?_⟩
      obtain ⟨r1, h1⟩ := hro (k, none) (by simp [refs])
      have : ∃ r0, look hp k = some r0 := by
        unfold rowOf at h1
        cases hl : look hp k with
        | none => rw [hl] at h1; cases h1
        | some r0 => exact ⟨r0, rfl⟩
      obtain ⟨r0, hr0⟩ := this
      rw [(hv.2 r0 hr0).2]
      simp [ηret, h0, valOf]
  | .sub k i, n, n', x', v, hc, hR, hro, hv => by
    simp only [canon, Option.some.injEq, Prod.mk.injEq] at hc
    obtain ⟨rfl, rfl⟩ := hc
    have h0 : R[n]? = some (k, some i) := by simpa [refs] using hR 0 (by simp [refs])
    refine ⟨by simp [refs], ?_, fun r hr => ?_⟩
    · rw [hlen]; exact (List.getElem?_eq_some_iff.1 h0).1
    · rw [hrows, h0] at hr
      simp only [Option.bind_some] at hr
      refine ⟨hkind n _ r h0 hr, ?_⟩
      obtain ⟨r1, h1⟩ := hro (k, some i) (by simp [refs])
      have : ∃ r0, look hp k = some r0 := by
        unfold rowOf at h1
        cases hl : look hp k with
        | none => rw [hl] at h1; cases h1
        | some r0 => exact ⟨r0, rfl⟩
      obtain ⟨r0, hr0⟩ := this
      have := (hv.2 r0 hr0).2
      simp [ηret, h0, valOf, this]
  | .ag l, n, n', x', v, hc, hR, hro, hv => by
    simp only [canon] at hc
    cases hcs : canons n l with
    | none => rw [hcs] at hc; cases hc
    | some q =>
      obtain ⟨l', m⟩ := q
      rw [hcs] at hc
      simp only [Option.some.injEq, Prod.mk.injEq] at hc
      obtain ⟨rfl, rfl⟩ := hc
      obtain ⟨cs, rfl, hr⟩ := hv
      obtain ⟨h1, h2⟩ := canons_rep hk hlen hrows hkind l hcs (by simpa [refs] using hR) (by simpa [refs] using hro) hr
      exact ⟨by simpa [refs] using h1, cs, rfl, h2⟩
  | .tu l, n, n', x', v, hc, hR, hro, hv => by
    simp only [canon] at hc
    cases hcs : canons n l with
    | none => rw [hcs] at hc; cases hc
    | some q =>
      obtain ⟨l', m⟩ := q
      rw [hcs] at hc
      simp only [Option.some.injEq, Prod.mk.injEq] at hc
      obtain ⟨rfl, rfl⟩ := hc
      obtain ⟨cs, rfl, hr⟩ := hv
      obtain ⟨h1, h2⟩ := canons_rep hk hlen hrows hkind l hcs (by simpa [refs] using hR) (by simpa [refs] using hro) hr
      exact ⟨by simpa [refs] using h1, cs, rfl, h2⟩
  | .un, _, _, _, _, hc, _, _, _ => by simp [canon] at hc
  | .ptr _ _, _, _, _, _, hc, _, _, _ => by simp [canon] at hc
  | .subp _ _ _, _, _, _, _, hc, _, _, _ => by simp [canon] at hc
  | .adr _ _, _, _, _, _, hc, _, _, _ => by simp [canon] at hc
  | .rp _ _, _, _, _, _, hc, _, _, _ => by simp [canon] at hc
  | .clo _ _, _, _, _, _, hc, _, _, _ => by simp [canon] at hc
theorem canons_rep {hp h : List (Nat × ARow)} {nx : Nat} {bad' : Nat → Prop} (hk : Keeps w (badOf ob hp η) w bad') {R : List (Nat × Option Nat)} (hlen : h.length = R.length) (hrows : ∀ j, look h j = (R[j]?).bind (rowOf hp))
    (hkind : ∀ (j : Nat) (p : Nat × Option Nat) (r : ARow), R[j]? = some p → rowOf hp p = some r → r.kind < 4) : ∀ (l : List AVal) {n n' : Nat} {l' : List AVal} {vs : List Value}, canons n l = some (l', n') → (∀ j, j < (refsAll l).length → R[n + j]? = (refsAll l)[j]?) → (∀ p, p ∈ refsAll l → ∃ r, rowOf hp p = some r) →
      VReps w (badOf ob hp η) hp nx η l vs → n' = n + (refsAll l).length ∧ VReps w bad' h h.length (ηret hp η R) l' vs
  | [], n, n', l', [], hc, _, _, _ => by simp only [canons, Option.some.injEq, Prod.mk.injEq] at hc; obtain ⟨rfl, rfl⟩ := hc; exact ⟨by simp [refsAll], trivial⟩
  | x :: l, n, n', l', v :: vs, hc, hR, hro, hv => by
    simp only [canons] at hc
    cases hcx : canon n x with
    | none => rw [hcx] at hc; cases hc
    | some q =>
      obtain ⟨x', m⟩ := q
      rw [hcx] at hc
      simp only at hc
      cases hcs : canons m l with
      | none => rw [hcs] at hc; cases hc
      | some q2 =>
        obtain ⟨r', q⟩ := q2
        rw [hcs] at hc
        simp only [Option.some.injEq, Prod.mk.injEq] at hc
        obtain ⟨rfl, rfl⟩ := hc
        simp only [refsAll] at hR hro
        obtain ⟨h1, h2⟩ := canon_rep hk hlen hrows hkind x hcx (fun j hj => by rw [hR j (by simp; omega), List.getElem?_append_left hj]) (fun p hp => hro p (by simp [hp])) hv.1
        subst h1
        obtain ⟨h3, h4⟩ := canons_rep hk hlen hrows hkind l hcs (fun j hj => by
          have := hR ((refs x).length + j) (by simp; omega)
          rw [List.getElem?_append_right (by omega)] at this
          rw [Nat.add_assoc, this]; simp) (fun p hp => hro p (by simp [hp])) hv.2
        exact ⟨by simp only [refsAll, List.length_append]; omega, h2, h4⟩
  | [], _, _, _, _ :: _, _, _, _, hv => hv.elim
  | _ :: _, _, _, _, [], _, _, _, hv => hv.elim
end

mutual
theorem refs_in {hp : List (Nat × ARow)} {nx : Nat} {bad : Nat → Prop} : ∀ (x : AVal) {v : Value}, VRep w bad hp nx η x v → ∀ p, p ∈ refs x → (∃ r, look hp p.1 = some r) → inOk η p
  | .own k, v, hv, p, hp, _ => by simp only [refs, List.mem_singleton] at hp; subst hp; intro i hi; cases hi
  | .sub k i, v, hv, p, hp, ⟨r, hr⟩ => by
    simp only [refs, List.mem_singleton] at hp
    subst hp
    intro j hj
    simp only [Option.some.injEq] at hj
    subst hj
    exact (List.getElem?_eq_some_iff.1 (hv.2 r hr).2).1
  | .ag l, v, ⟨cs, _, hr⟩, p, hp, hl => refsAll_in l hr p (by simpa [refs] using hp) hl
  | .tu l, v, ⟨cs, _, hr⟩, p, hp, hl => refsAll_in l hr p (by simpa [refs] using hp) hl
  | .un, _, _, p, hp, _ => by simp [refs] at hp
  | .c _, _, _, p, hp, _ => by simp [refs] at hp
  | .t _, _, _, p, hp, _ => by simp [refs] at hp
  | .ptr _ _, _, _, p, hp, _ => by simp [refs] at hp
  | .subp _ _ _, _, _, p, hp, _ => by simp [refs] at hp
  | .adr _ _, _, _, p, hp, _ => by simp [refs] at hp
  | .rp _ _, _, _, p, hp, _ => by simp [refs] at hp
  | .clo _ _, _, _, p, hp, _ => by simp [refs] at hp
theorem refsAll_in {hp : List (Nat × ARow)} {nx : Nat} {bad : Nat → Prop} : ∀ (l : List AVal) {vs : List Value}, VReps w bad hp nx η l vs → ∀ p, p ∈ refsAll l → (∃ r, look hp p.1 = some r) → inOk η p
  | [], [], _, p, hp, _ => by simp [refsAll] at hp
  | x :: l, v :: vs, h, p, hp, hl => by
    simp only [refsAll, List.mem_append] at hp
    rcases hp with hp | hp
    · exact refs_in x h.1 p hp hl
    · exact refsAll_in l h.2 p hp hl
  | [], _ :: _, h, _, _, _ => h.elim
  | _ :: _, [], h, _, _, _ => h.elim
end

theorem rowOf_look {hp : List (Nat × ARow)} {p : Nat × Option Nat} {r : ARow} (h : rowOf hp p = some r) : ∃ r0, look hp p.1 = some r0 := by
  unfold rowOf at h
  cases hl : look hp p.1 with
  | none => rw [hl] at h; cases h
  | some r0 => exact ⟨r0, rfl⟩

theorem rowsOf_all {hp : List (Nat × ARow)} : ∀ {R : List (Nat × Option Nat)} {n : Nat} {h : List (Nat × ARow)}, rowsOf hp n R = some h → ∀ p, p ∈ R → ∃ r, rowOf hp p = some r
  | [], _, _, _, p, hm => by simp at hm
  | q :: R, n, h, hr, p, hm => by
    simp only [rowsOf] at hr
    cases hq : rowOf hp q with
    | none => rw [hq] at hr; cases hr
    | some x =>
      rw [hq] at hr
      simp only at hr
      cases hl : rowsOf hp (n + 1) R with
      | none => rw [hl] at hr; cases hr
      | some l =>
        rcases List.mem_cons.1 hm with rfl | hm
        · exact ⟨x, hq⟩
        · exact rowsOf_all hl p hm

theorem rowOf_nc {hp : List (Nat × ARow)} {p : Nat × Option Nat} {r r0 : ARow} (h : rowOf hp p = some r) (h0 : look hp p.1 = some r0) (e : Nat) (l : List AVal) : r0 ≠ .cells e l := by
  rintro rfl
  unfold rowOf at h
  rw [h0] at h
  cases h

/-- what is handed back -/
theorem afin_sound' (h : SRep w0 ob st a w η) {x : AVal} {v : Value} (hv : VR w ob st η x v) {post : AVal → List (Nat × ARow) → Prop} (hk : afin st x post) :
    ∃ x' hr ηr, post x' hr ∧ HRep w w0.B ob hr hr.length ηr ∧ VRep w (fun b => ob b ∨ ownB hr ηr b) hr hr.length ηr x' v ∧
      ∀ b, ownB hr ηr b → ∃ k r, look st.hp k = some r ∧ (∀ e l, r ≠ .cells e l) ∧ b ∈ bsOf η k r := by
  unfold afin at hk
  split at hk
  case h_1 => exact hk.elim
  case h_2 x' m hc =>
    split at hk
    case h_1 => exact hk.elim
    case h_2 hd =>
      split at hk
      case h_1 => exact hk.elim
      case h_2 hr hrs =>
        obtain ⟨hlen, _, hlk⟩ := rowsOf_spec hrs
        have hlk' : ∀ j, look hr j = ((refs x)[j]?).bind (rowOf st.hp) := fun j => by simpa using hlk j
        have hall := rowsOf_all hrs
        have hin : ∀ p, p ∈ refs x → inOk η p := fun p hp => by
          obtain ⟨r, h1⟩ := hall p hp
          exact refs_in x hv p hp (rowOf_look h1)
        have hget : ∀ j r, look hr j = some r → ∃ p, (refs x)[j]? = some p ∧ rowOf st.hp p = some r := fun j r hj => by
          rw [hlk'] at hj
          exact Option.bind_eq_some_iff.1 hj
        have hkeep0 : ∀ bad', (∀ b, bad' b → badOf ob st.hp η b) → Keeps w (badOf ob st.hp η) w bad' := fun bad' hs b o y hb hcell => ⟨fun h1 => hb (hs b h1), hcell⟩
        -- the result's rows are rows of the call's own
        have hown : ∀ b, ownB hr (ηret st.hp η (refs x)) b → ownB st.hp η b := fun b ⟨j, r, hj, hb⟩ => by
          obtain ⟨p, h1, h2⟩ := hget j r hj
          obtain ⟨_, ⟨r0, h3, h4⟩, _, _⟩ := rowOf_rep (bad' := fun _ => False) (hp' := []) (nx' := 0) h.heap h1 h2 (hin p (List.mem_of_getElem? h1)) (Keeps.none w _)
          exact ⟨p.1, r0, h3, h4 b hb⟩
        have hown2 : ∀ b, ownB hr (ηret st.hp η (refs x)) b → ∃ k r, look st.hp k = some r ∧ (∀ e l, r ≠ .cells e l) ∧ b ∈ bsOf η k r := fun b ⟨j, r, hj, hb⟩ => by
          obtain ⟨p, h1, h2⟩ := hget j r hj
          obtain ⟨_, ⟨r0, h3, h4⟩, _, _⟩ := rowOf_rep (bad' := fun _ => False) (hp' := []) (nx' := 0) h.heap h1 h2 (hin p (List.mem_of_getElem? h1)) (Keeps.none w _)
          exact ⟨p.1, r0, h3, rowOf_nc h2 h3, h4 b hb⟩
        have hkeep := hkeep0 (fun b => ob b ∨ ownB hr (ηret st.hp η (refs x)) b) (fun b hb => hb.imp id (hown b))
        have hrep : ∀ j r, look hr j = some r → ∃ p, (refs x)[j]? = some p ∧ RowRep w w0.B (fun b => ob b ∨ ownB hr (ηret st.hp η (refs x)) b) hr hr.length (ηret st.hp η (refs x)) j r ∧
            (∃ r0, look st.hp p.1 = some r0 ∧ (∀ b, b ∈ bsOf (ηret st.hp η (refs x)) j r → b ∈ bsOf η p.1 r0)) ∧ (bsOf (ηret st.hp η (refs x)) j r).Nodup := fun j r hj => by
          obtain ⟨p, h1, h2⟩ := hget j r hj
          obtain ⟨g1, g2, g3, _⟩ := rowOf_rep (hp' := hr) (nx' := hr.length) h.heap h1 h2 (hin p (List.mem_of_getElem? h1)) hkeep
          exact ⟨p, h1, g1, g2, g3⟩
        refine ⟨x', hr, ηret st.hp η (refs x), hk, ⟨fun j r hj => ?_, fun j r hj => ?_, fun j r j' r' hj hj' hne b hb hm => ?_, fun j r hj => ?_⟩, ?_, hown2⟩
        · obtain ⟨_, _, g, _⟩ := hrep j r hj; exact g
        · obtain ⟨_, _, _, _, g⟩ := hrep j r hj; exact g
        · obtain ⟨p, h1, _, ⟨r0, h2, h3⟩, _⟩ := hrep j r hj
          obtain ⟨p', h1', _, ⟨r0', h2', h3'⟩, _⟩ := hrep j' r' hj'
          exact h.heap.apart p.1 r0 p'.1 r0' h2 h2' (differ_spec hd j j' p p' h1 h1' hne) b (h3 b hb) (h3' b hm)
        · obtain ⟨p, h1, _⟩ := hget j r hj
          rw [hlen]; exact (List.getElem?_eq_some_iff.1 h1).1
        · refine (canon_rep hkeep hlen hlk' (fun j p r h1 h2 => ?_) x hc (fun j _ => by rw [Nat.zero_add]) hall hv).2
          exact (rowOf_rep (bad' := fun _ => False) (hp' := []) (nx' := 0) h.heap h1 h2 (hin p (List.mem_of_getElem? h1)) (Keeps.none w _)).2.2.2

theorem afin_sound (h : SRep w0 ob st a w η) {x : AVal} {v : Value} (hv : VR w ob st η x v) {post : AVal → List (Nat × ARow) → Prop} (hk : afin st x post) :
    ∃ x' hr ηr, post x' hr ∧ HRep w w0.B ob hr hr.length ηr ∧ VRep w (fun b => ob b ∨ ownB hr ηr b) hr hr.length ηr x' v := by
  obtain ⟨x', hr, ηr, h1, h2, h3, _⟩ := afin_sound' h hv hk
  exact ⟨x', hr, ηr, h1, h2, h3⟩

def resOf (tmps : Array Value) (r : ResultVar) : Sem Value :=
  match r with
  | .tmp t => Pure.pure (tmps.getD t undef)
  | .cell p t => do loadVar t (← asAddr (tmps.getD p undef))

theorem ares_sound (hΓ : TysOk P Γ) (h : SRep w0 ob st a w η) : ∀ {rs : List ResultVar} {K : List AVal → Prop}, ares Γ st rs K →
    ∃ xs vs, K xs ∧ VRs w ob st η xs vs ∧ (rs.mapM (resOf a.tmps)).run P w = .ok vs w
  | [], K, hk => ⟨[], [], hk, trivial, by simp⟩
  | .tmp t :: rs, K, hk => by
    simp only [ares] at hk
    cases hx : lk st t with
    | none => rw [hx] at hk; exact hk.elim
    | some x =>
      rw [hx] at hk
      obtain ⟨xs, vs, h1, h2, h3⟩ := ares_sound hΓ h hk
      exact ⟨x :: xs, _ :: vs, h1, ⟨h.tmp hx, h2⟩, by simp [List.mapM_cons, resOf, h3]⟩
  | .cell p t :: rs, K, hk => by
    simp only [ares] at hk
    cases hy : lk st p with
    | none => rw [hy] at hk; exact hk.elim
    | some y =>
      rw [hy] at hk
      simp only at hk
      split at hk
      case h_2 => exact hk.elim
      case h_1 hkey =>
        have hyv := h.tmp hy
        obtain ⟨v, x, hx, hv, hrun⟩ := aload_sound hΓ h hyv hk
        obtain ⟨xs, vs, h1, h2, h3⟩ := ares_sound hΓ h hx
        -- the slot holds an address
        have hptr : ∃ ad, a.tmps.getD p undef = .pointer (some ad) := by
          cases y with
          | ptr k off =>
            simp only at hkey
            unfold isKey at hkey
            cases hr : look st.hp k with
            | none => rw [hr] at hkey; cases hkey
            | some r => obtain ⟨_, b, _, he⟩ := hyv.2 r hr; exact ⟨_, he⟩
          | _ =>
            simp only at hkey
            unfold isKey at hkey
            cases hr : look st.hp st.nx with
            | none => rw [hr] at hkey; cases hkey
            | some r => have := h.heap.lt _ r hr; omega
        obtain ⟨ad, had⟩ := hptr
        have hrun' := hrun w (Below.refl _ _)
        rw [had, run_loadAt] at hrun'
        exact ⟨x :: xs, v :: vs, h1, ⟨hv, h2⟩, by simp [List.mapM_cons, resOf, had, asAddr, hrun', h3]⟩

theorem aret_sound (hΓ : TysOk P Γ) (h : SRep w0 ob st a w η) {fn : Func} {post : AVal → List (Nat × ARow) → Prop} (hk : aret Γ st fn.results.toList post) :
    ∃ v x' hr ηr, (results fn a.tmps).run P w = .ok v w ∧ post x' hr ∧ HRep w w0.B ob hr hr.length ηr ∧ VRep w (fun b => ob b ∨ ownB hr ηr b) hr hr.length ηr x' v := by
  obtain ⟨xs, vs, h1, h2, h3⟩ := ares_sound hΓ h hk
  have hres : (results fn a.tmps).run P w = .ok (if hh : vs.toArray.size = 1 then vs.toArray[0] else .tuple vs.toArray) w := by
    have e : results fn a.tmps = (do
        let vs ← fn.results.mapM (resOf a.tmps)
        Pure.pure (if h : vs.size = 1 then vs[0] else .tuple vs)) := rfl
    rw [e, Array.mapM_eq_mapM_toList]
    simp only [Sem.run_bind, Sem.run_map, h3, Result.andThen_ok, Sem.run_pure]
  have two : ∀ {xs : List AVal} {vs : List Value}, VRs w ob st η xs vs → vs.length ≠ 1 → afin st (.tu xs) post → (results fn a.tmps).run P w = .ok (if hh : vs.toArray.size = 1 then vs.toArray[0] else .tuple vs.toArray) w →
      ∃ v x' hr ηr, (results fn a.tmps).run P w = .ok v w ∧ post x' hr ∧ HRep w w0.B ob hr hr.length ηr ∧ VRep w (fun b => ob b ∨ ownB hr ηr b) hr hr.length ηr x' v := by
    intro xs vs h2 hne hf hres
    obtain ⟨x', hr, ηr, g1, g2, g3⟩ := afin_sound h (x := .tu xs) (v := .tuple vs.toArray) ⟨vs, rfl, h2⟩ hf
    exact ⟨_, x', hr, ηr, by rw [hres, dif_neg (by simpa using hne)], g1, g2, g3⟩
  clear h3
  match xs, vs, h2, h1, hres with
  | [x], [v], h2, h1, hres =>
    obtain ⟨x', hr, ηr, g1, g2, g3⟩ := afin_sound h h2.1 h1
    exact ⟨v, x', hr, ηr, by rw [hres]; rfl, g1, g2, g3⟩
  | [], [], h2, h1, hres => exact two h2 (by simp) h1 hres
  | x :: y :: xs, u :: v :: vs, h2, h1, hres => exact two h2 (by simp) h1 hres

def initSl : Nat → List AVal → List (Nat × AVal)
  | _, [] => []
  | i, a :: r => (i, a) :: initSl (i + 1) r

theorem init_look {bad : Nat → Prop} : ∀ {l : List AVal} {vs : List Value} {n : Nat}, VReps w bad [] 0 η0 l vs → ∀ i x, look (initSl n l) i = some x → ∃ v, n ≤ i ∧ vs[i - n]? = some v ∧ VRep w bad [] 0 η0 x v
  | [], [], n, _, i, x, h => by simp [initSl, look] at h
  | y :: l, v :: vs, n, hr, i, x, h => by
    simp only [initSl] at h
    rw [look_cons] at h
    split at h
    · rename_i hni
      simp only [Option.some.injEq] at h
      subst hni h
      exact ⟨v, Nat.le_refl _, by simp, hr.1⟩
    · obtain ⟨u, h1, h2, h3⟩ := init_look hr.2 i x h
      refine ⟨u, by omega, ?_, h3⟩
      rw [show i - n = (i - (n + 1)) + 1 by omega]
      simpa using h2
  | [], _ :: _, _, h, _, _, _ => h.elim
  | _ :: _, [], _, h, _, _, _ => h.elim

def aend (Γ : Tys) (rs : List ResultVar) (post : AVal → List (Nat × ARow) → Prop) : Exit → St → Prop
  | .ret, st => aret Γ st rs post
  | .normal, st => aret Γ st rs post
  | _, _ => False

/-- THE CONTRACT OF A FUNCTION, by its text -/
theorem fspec (hΓ : TysOk P Γ) (hm : P.follows .mixedOrders = true) {f : FuncId} {fn : Func} {c : Code} {args : List AVal} {post : AVal → List (Nat × ARow) → Prop} (hf : P.funcs[f]? = some fn) (hb : fn.body = some c)
    (hname : (fn.name == "runtime.NumGoroutine") = false) (hn : Nat.ble args.length fn.ntmps = true)
    (h : acode P Γ c ⟨fn.ntmps, initSl 0 args, [], 0⟩ (aend Γ fn.results.toList post)) : FSpec P f args post := by
  refine ⟨⟨fn, hf, hname, by rw [hb]; rfl⟩, fun w bad vs hbl hvs => ?_⟩
  refine calls_of_wp hf hb ?_
  have hle := Nat.le_of_ble_eq_true hn
  have hlen := VReps.length hvs
  have hs : SRep ⟨w, w.heap.size, fun _ => False, fun _ => undef⟩ bad ⟨fn.ntmps, initSl 0 args, [], 0⟩ { tmps := vs.toArray ++ Array.replicate (fn.ntmps - vs.toArray.size) undef, defers := [] } w η0 := by
    refine ⟨rfl, by simp; omega, Below.refl _ _, ⟨Nat.le_refl _, hbl, fun _ h => h.elim⟩, fun _ _ _ => rfl, fun b ⟨k, r, hk, _⟩ => by simp [look] at hk, ⟨fun k r hk => by simp [look] at hk, fun k r hk => by simp [look] at hk, fun k r k' r' hk => by simp [look] at hk, fun k r hk => by simp [look] at hk⟩, fun i x hi => ?_⟩
    obtain ⟨v, _, h2, h3⟩ := init_look hvs i x hi
    simp only [Nat.sub_zero] at h2
    have hlt : i < vs.length := (List.getElem?_eq_some_iff.1 h2).1
    have : (vs.toArray ++ Array.replicate (fn.ntmps - vs.toArray.size) undef).getD i undef = v := by
      rw [Array.getD_eq_getD_getElem?, Array.getElem?_append_left (by simpa using hlt)]
      simp [h2]
    simp only [this]
    refine VRep.frame (fun b o y hb hc => ⟨?_, hc⟩) (Nat.le_refl _) (fun k _ => OwnOk.refl _ _ k) (fun k _ => SubOk.refl _ _ k) h3
    rintro (h1 | ⟨j, r, hj, _⟩)
    · exact hb h1
    · simp [look] at hj
  refine wp_mono (acode_sound (w0 := ⟨w, w.heap.size, fun _ => False, fun _ => undef⟩) hΓ hm c _ _ _ w h ⟨η0, hs⟩) (fun e a' w' hl => ?_)
  obtain ⟨st', hk, η', hs'⟩ := hl
  have fin : aret Γ st' fn.results.toList post → ∃ v, (results fn a'.tmps).run P w' = .ok v w' ∧ ∃ v' x h η, Ending.returned v = .returned v' ∧ post x h ∧ Below w.heap.size w w' ∧
      HRep w' w.heap.size bad h h.length η ∧ VRep w' (fun b => bad b ∨ ownB h η b) h h.length η x v' := fun hk => by
    obtain ⟨v, x', hr, ηr, g1, g2, g3, g4⟩ := aret_sound hΓ hs' hk
    exact ⟨v, g1, v, x', hr, ηr, rfl, g2, hs'.below, g3, g4⟩
  cases e with
  | ret => exact ⟨hs'.defers, fin hk⟩
  | normal => exact ⟨hs'.defers, fin hk⟩
  | _ => exact hk.elim
end
end Go.Aw
/- The types of this program, for the engine; small facts. -/
namespace Go.Aw
theorem TyOk.of {P : Program} {t : Nat} {d : TD} {size bytes : Nat} {z : Value} {zero : List Value} (h1 : d.is P t)
    (h2 : (P.info? t).map (fun i => (i.zero, i.size, i.bytes)) = some (some z, size, bytes)) (h3 : z.cells = zero.toArray) : TyOk P t ⟨d, size, bytes, zero⟩ := by
  refine ⟨h1, ?_⟩
  obtain ⟨i, hi, he⟩ := Option.map_eq_some_iff.1 h2
  simp only [Prod.mk.injEq] at he
  exact ⟨i, z, hi, he.2.1, he.2.2, he.1, h3⟩

theorem w64 {n : Int} (h1 : -9223372036854775808 ≤ n) (h2 : n ≤ 9223372036854775807) : IntKind.i64.wrap n = n := by rw [IntKind.wrap_i64]; omega

theorem vint {k : IntKind} {a b : Int} (h : a = b) : Value.int k a = Value.int k b := by rw [h]
theorem vboo {a b : Bool} (h : a = b) : Value.bool a = Value.bool b := by rw [h]
theorem rint {e : Nat} {k : IntKind} {a b : List Int} (h : a = b) : ARow.ints e k a = ARow.ints e k b := by rw [h]
theorem rrow {e e1 : Nat} {u : Bool} {a b : List (List Int)} (h : a = b) : ARow.rows e e1 u a = ARow.rows e e1 u b := by rw [h]
theorem ltT {a b : Nat} (h : decide ((a : Int) < (b : Int)) = true) : a < b := Int.ofNat_lt.1 (of_decide_eq_true h)
theorem ltF {a b : Nat} (h : decide ((a : Int) < (b : Int)) = false) : ¬ a < b := fun hh => of_decide_eq_false h (Int.ofNat_lt.2 hh)
theorem nat_of {n : Int} {len : Nat} (h0 : 0 ≤ n) (h1 : n < len) : ∃ i : Nat, n = (i : Int) ∧ i < len := ⟨n.toNat, by omega, by omega⟩
section
variable {hp : List (Nat × ARow)} {R : List (Nat × Org)} {nx : Nat}
mutual
/-- what is closed is seen as itself -/
theorem vw_closed : ∀ (x : AVal), clo1 (fun _ _ => none) [] x = some x → vw hp R nx x x
  | .c _, _ => rfl
  | .t _, _ => rfl
  | .ag l, h => by
    simp only [clo1] at h
    split at h
    · rename_i l2 hl
      have e : l2 = l := by simpa using h
      exact vws_closed l (e ▸ hl)
    · cases h
  | .rp l o, h => by
    simp only [clo1] at h
    split at h
    · rename_i l2 hl
      have e : l2 = l := by simpa using h
      exact ⟨rfl, vws_closed l (e ▸ hl)⟩
    · cases h
  | .clo f l, h => by
    simp only [clo1] at h
    split at h
    · rename_i l2 hl
      have e : l2 = l := by simpa using h
      exact ⟨rfl, vws_closed l (e ▸ hl)⟩
    · cases h
  | .knot f l n, h => by
    simp only [clo1] at h
    split at h
    · rename_i l2 hl
      have e : l2 = l := by simpa using h
      exact ⟨rfl, rfl, vws_closed l (e ▸ hl)⟩
    · cases h
  | .nul, h => by simp [clo1] at h
  | .un, h => by simp [clo1] at h
  | .tu _, h => by simp [clo1] at h
  | .adr _ _, h => by simp [clo1] at h
  | .subp _ _ _, h => by simp [clo1] at h
  | .own _, h => by simp [clo1, look] at h
  | .sub _ _, h => by simp [clo1, look] at h
  | .ptr _ _, h => by simp [clo1] at h
theorem vws_closed : ∀ (l : List AVal), clos (fun _ _ => none) [] l = some l → vws hp R nx l l
  | [], _ => trivial
  | a :: l, h => by
    simp only [clos] at h
    split at h
    · cases h
    · rename_i b hb
      split at h
      · cases h
      · rename_i l' hl
        simp only [Option.some.injEq, List.cons.injEq] at h
        exact ⟨vw_closed a (hb.trans (congrArg some h.1)), vws_closed l (hl.trans (congrArg some h.2))⟩
end
end
section
variable {f g : Nat → Bool}
mutual
theorem flt_closed : ∀ (x : AVal), clo1 (fun _ _ => none) [] x = some x → x.flt f g = x
  | .c _, _ => rfl
  | .t _, _ => rfl
  | .ag l, h => by
    simp only [clo1] at h
    split at h
    · rename_i l2 hl
      have e : l2 = l := by simpa using h
      rw [AVal.flt, flts_closed l (e ▸ hl)]
    · cases h
  | .rp l o, h => by
    simp only [clo1] at h
    split at h
    · rename_i l2 hl
      have e : l2 = l := by simpa using h
      rw [AVal.flt, flts_closed l (e ▸ hl)]
    · cases h
  | .clo _ l, h => by
    simp only [clo1] at h
    split at h
    · rename_i l2 hl
      have e : l2 = l := by simpa using h
      rw [AVal.flt, flts_closed l (e ▸ hl)]
    · cases h
  | .knot _ l _, h => by
    simp only [clo1] at h
    split at h
    · rename_i l2 hl
      have e : l2 = l := by simpa using h
      rw [AVal.flt, flts_closed l (e ▸ hl)]
    · cases h
  | .nul, h => by simp [clo1] at h
  | .un, h => by simp [clo1] at h
  | .tu _, h => by simp [clo1] at h
  | .adr _ _, h => by simp [clo1] at h
  | .subp _ _ _, h => by simp [clo1] at h
  | .own _, h => by simp [clo1, look] at h
  | .sub _ _, h => by simp [clo1, look] at h
  | .ptr _ _, h => by simp [clo1] at h
theorem flts_closed : ∀ (l : List AVal), clos (fun _ _ => none) [] l = some l → flts f g l = l
  | [], _ => rfl
  | a :: l, h => by
    simp only [clos] at h
    split at h
    · cases h
    · rename_i b hb
      split at h
      · cases h
      · rename_i l' hl
        simp only [Option.some.injEq, List.cons.injEq] at h
        rw [flts, flt_closed a (hb.trans (congrArg some h.1)), flts_closed l (hl.trans (congrArg some h.2))]
end
end
end Go.Aw
namespace Go.Proofs.Ytkomndcehdneaaa
open Go.Aw
def ty : Tys := [
 (3, ⟨.int .i64, 1, 8, [.int .i64 0]⟩),
 (25, ⟨.slice 3, 1, 24, [.slice none 0 0]⟩),
 (24, ⟨.slice 25, 1, 24, [.slice none 0 0]⟩),
 (176, ⟨.int .u64, 1, 8, [.int .u64 0]⟩),
 (53, ⟨.struct [(0, 3), (1, 3), (2, 3), (3, 24)], 4, 48, [.int .i64 0, .int .i64 0, .int .i64 0, .slice none 0 0]⟩),
 (84, ⟨.struct [(0, 3), (1, 3), (2, 25), (3, 24)], 4, 64, [.int .i64 0, .int .i64 0, .slice none 0 0, .slice none 0 0]⟩),
 (158, ⟨.array 2 3, 2, 16, [.int .i64 0, .int .i64 0]⟩),
 (177, ⟨.slice 24, 1, 24, [.slice none 0 0]⟩),
 (163, ⟨.slice 53, 1, 24, [.slice none 0 0]⟩),
 (179, ⟨.other, 1, 8, [.nilFunc]⟩),
 (5, ⟨.int .u8, 1, 1, [.int .u8 0]⟩),
 (22, ⟨.slice 5, 1, 24, [.slice none 0 0]⟩),
 (105, ⟨.int .u64, 1, 8, [.int .u64 0]⟩),
 (107, ⟨.struct [(0, 22), (1, 3), (2, 105)], 3, 40, [.slice none 0 0, .int .i64 0, .int .u64 0]⟩),
  (4, ⟨.bool, 1, 1, [.bool false]⟩)]
theorem tyOk : TysOk Try.prog ty :=
  ⟨TyOk.of (z := .int .i64 0) Try.underlying3 (by kernel_rfl) rfl,
     TyOk.of (z := .slice none 0 0) Try.underlying25 (by kernel_rfl) rfl,
     TyOk.of (z := .slice none 0 0) Try.underlying24 (by kernel_rfl) rfl,
     TyOk.of (z := .int .u64 0) Try.underlying176 (by kernel_rfl) rfl,
     TyOk.of (z := .agg #[.int .i64 0, .int .i64 0, .int .i64 0, .slice none 0 0]) ⟨_, Try.underlying53, rfl⟩ (by kernel_rfl) rfl,
     TyOk.of (z := .agg #[.int .i64 0, .int .i64 0, .slice none 0 0, .slice none 0 0]) ⟨_, Try.underlying84, rfl⟩ (by kernel_rfl) rfl,
     TyOk.of (z := .agg #[.int .i64 0, .int .i64 0]) Try.underlying158 (by kernel_rfl) rfl,
     TyOk.of (z := .slice none 0 0) Try.underlying177 (by kernel_rfl) rfl,
     TyOk.of (z := .slice none 0 0) Try.underlying163 (by kernel_rfl) rfl,
     TyOk.of (z := .nilFunc) ⟨_, Try.underlying179, trivial⟩ (by kernel_rfl) rfl,
     TyOk.of (z := .int .u8 0) Try.underlying5 (by kernel_rfl) rfl,
     TyOk.of (z := .slice none 0 0) Try.underlying22 (by kernel_rfl) rfl,
     TyOk.of (z := .int .u64 0) Try.underlying105 (by kernel_rfl) rfl,
     TyOk.of (z := .agg #[.slice none 0 0, .int .i64 0, .int .u64 0]) ⟨_, Try.underlying107, rfl⟩ (by kernel_rfl) rfl,
   TyOk.of (z := .bool false) Try.underlying4 (by kernel_rfl) rfl,
   trivial⟩
theorem mx : Try.prog.follows .mixedOrders = true := by kernel_rfl
end Go.Proofs.Ytkomndcehdneaaa
/- Contracts of the leaves: sizes, copies, comparisons. -/
namespace Go.Proofs.Ytkomndcehdneaaa
open Go.Aw

theorem getD_mem {α : Type} {l : List α} {d : α} {k : Nat} (h : k < l.length) : l.getD k d ∈ l := by
  rw [List.getD_eq_getElem?_getD, List.getElem?_eq_getElem h]; exact List.getElem_mem h

/-- the tail of a size reckoning -/
def szS (l : List Int) (left : Int) : Int := if left - l.length < 0 then -1 else left - l.length



theorem set_take {α : Type} (l : List α) (d z : α) (k : Nat) (h : k < l.length) :
    (l.take k ++ List.replicate (l.length - k) z).set k (l.getD k d) = l.take (k + 1) ++ List.replicate (l.length - (k + 1)) z := by
  rw [List.set_append_right _ _ (by simp; omega)]
  rw [List.length_take, Nat.min_eq_left (by omega), Nat.sub_self]
  rw [show l.length - k = (l.length - (k + 1)) + 1 by omega, List.replicate_succ, List.set_cons_zero, List.take_succ_eq_append_getElem h]
  rw [List.getD_eq_getElem?_getD, List.getElem?_eq_getElem h, List.append_assoc]
  rfl




def szGo : List (List Int) → Int → Int
  | [], left => left
  | r :: m, left => if left - r.length < 0 then -1 else szGo m (left - r.length)

def szSS (m : List (List Int)) (left : Int) : Int := if left - m.length < 0 then -1 else szGo m (left - m.length)

theorem szGo_pos : ∀ (m : List (List Int)) (left : Int), 0 ≤ left → 0 ≤ szGo m left → (∀ r, r ∈ m → (r.length : Int) ≤ left) ∧ szGo m left ≤ left
  | [], left, _, _ => ⟨by simp, Int.le_refl _⟩
  | r :: m, left, h0, h => by
    simp only [szGo] at h ⊢
    split at h
    · omega
    · rename_i hn
      rw [if_neg hn]
      obtain ⟨h1, h2⟩ := szGo_pos m _ (by omega) h
      refine ⟨fun r' hr => ?_, by omega⟩
      rcases List.mem_cons.1 hr with rfl | hr
      · omega
      · have := h1 r' hr; omega

theorem szSS_pos {m : List (List Int)} {left : Int} (h : 0 ≤ szSS m left) : (m.length : Int) ≤ left ∧ (∀ r, r ∈ m → (r.length : Int) ≤ left) ∧ szSS m left ≤ left := by
  unfold szSS at h ⊢
  split at h
  · omega
  · rename_i hn
    rw [if_neg hn]
    obtain ⟨h1, h2⟩ := szGo_pos m _ (by omega) h
    exact ⟨by omega, fun r hr => by have := h1 r hr; omega, by omega⟩


end Go.Proofs.Ytkomndcehdneaaa
/- Calls that write one row of their caller; calls that are walked into. -/
namespace Go.Aw
open Go.RowKit

def plainC : List AVal → Bool
  | [] => true
  | .c _ :: r => plainC r
  | _ => false

/-- a row that leads to no other memory -/
def plainRow : ARow → Bool
  | .ints .. => true
  | .rows _ _ true _ => true
  | .cells _ l => plainC l
  | _ => false

section
variable {P : Program} {Γ : Tys} {w0 : Base} {w w' : World} {ob : Nat → Prop} {st : St} {a : Act} {η : Env}

theorem plainC_rep {bad bad' : Nat → Prop} {hp hp' : List (Nat × ARow)} {nx nx' : Nat} {η η' : Env} : ∀ {l : List AVal} {vs : List Value}, plainC l = true → VReps w bad hp nx η l vs → VReps w' bad' hp' nx' η' l vs
  | [], [], _, _ => trivial
  | .c _ :: l, _ :: vs, h, hv => ⟨hv.1, plainC_rep (l := l) (by simpa [plainC] using h) hv.2⟩
  | [], _ :: _, _, h => h.elim
  | .c _ :: _, [], _, h => h.elim
  | .un :: _, _, h, _ => by simp [plainC] at h
  | .t _ :: _, _, h, _ => by simp [plainC] at h
  | .ag _ :: _, _, h, _ => by simp [plainC] at h
  | .tu _ :: _, _, h, _ => by simp [plainC] at h
  | .own _ :: _, _, h, _ => by simp [plainC] at h
  | .sub _ _ :: _, _, h, _ => by simp [plainC] at h
  | .ptr _ _ :: _, _, h, _ => by simp [plainC] at h
  | .subp _ _ _ :: _, _, h, _ => by simp [plainC] at h
  | .adr _ _ :: _, _, h, _ => by simp [plainC] at h
  | .rp _ _ :: _, _, h, _ => by simp [plainC] at h
  | .clo _ _ :: _, _, h, _ => by simp [plainC] at h
  | .knot _ _ _ :: _, _, h, _ => by simp [plainC] at h
  | .nul :: _, _, h, _ => by simp [plainC] at h

theorem plain_rep {B : Nat} {bad bad' : Nat → Prop} {hp hp' : List (Nat × ARow)} {nx nx' k k' : Nat} {η η' : Env} : ∀ {r : ARow}, plainRow r = true → RowRep w B bad hp nx η k r → η'.val k' = η.val k → η'.cel k' = η.cel k → RowRep w B bad' hp' nx' η' k' r
  | .ints .., _, h, hv, hc => by simp only [RowRep, hv, hc]; exact h
  | .rows _ _ true _, _, h, hv, hc => by simp only [RowRep, hv, hc]; exact h
  | .rows _ _ false _, hp, _, _, _ => by simp [plainRow] at hp
  | .recs .., hp, _, _, _ => by simp [plainRow] at hp
  | .cells _ l, hp, ⟨b, h1, h2, h3, h4⟩, hv, hc => ⟨b, by rw [hv]; exact h1, h2, by rw [hc]; exact h3, by rw [hc]; exact plainC_rep (by simpa [plainRow] using hp) h4⟩

/-- A FUNCTION THAT WRITES A ROW OF ITS CALLER (key 0): it hands back a plain value, and the row holds something else -/
def MSpec (P : Program) (f : FuncId) (r0 : ARow) (args : List AVal) (post : Value → ARow → Prop) : Prop := FOk P f ∧
  ∀ (w : World) (B : Nat) (ob : Nat → Prop) (η : Env) (vs : List Value), B ≤ w.heap.size → (∀ b, ob b → b < w.heap.size) → (∀ b, b ∈ bsOf η 0 r0 → ¬ ob b) →
    HRep w B ob [(0, r0)] 1 η → VReps w (badOf ob [(0, r0)] η) [(0, r0)] 1 η args vs →
    Calls P f vs.toArray w fun e w' => ∃ v r' η', e = .returned v ∧ v.oneCell' = true ∧ post v r' ∧ Below B w w' ∧
      (∀ b, b < w.heap.size → b ∉ bsOf η 0 r0 → w'.heap[b]? = w.heap[b]?) ∧ plainRow r' = true ∧ RowRep w' B (fun _ => False) [] 0 η' 0 r' ∧ (bsOf η' 0 r').Nodup ∧
      (∀ b, b ∈ bsOf η' 0 r' → b ∈ bsOf η 0 r0 ∨ w.heap.size ≤ b) ∧ r'.kind = r0.kind ∧ η'.val 0 = η.val 0 ∧ (η'.cel 0).length = (η.cel 0).length

def exM (v0 : Value) (r1 : ARow) : Value → ARow → Prop := fun v r => v = v0 ∧ r = r1

def ghostOf : ARow → AVal
  | .cells .. => .ptr 0 0
  | _ => .own 0

def ghostOk : ARow → Bool
  | .cells _ [] => false
  | .rows _ _ false _ => false
  | .recs .. => false
  | _ => true

def isGhost (r : ARow) (x : AVal) : Bool :=
  match r, x with
  | .cells .., .ptr 0 0 => true
  | .ints .., .own 0 => true
  | .rows .., .own 0 => true
  | _, _ => false

def sameLen : ARow → ARow → Bool
  | .cells _ l, .cells _ l' => Nat.beq l.length l'.length
  | _, _ => true

def mfin (sz : Nat) (r0 : ARow) (post : Value → ARow → Prop) (st : St) (l : List AVal) : Prop :=
  match l with
  | [.c v] => match look st.sl sz with
    | some g => match look st.hp 0 with
      | some r' => match Nat.beq r'.kind r0.kind && isGhost r' g && plainRow r' && sameLen r0 r' && Nat.beq st.sz sz with
        | true => post v r'
        | false => False
      | none => False
    | none => False
  | _ => False

def mend (Γ : Tys) (rs : List ResultVar) (sz : Nat) (r0 : ARow) (post : Value → ARow → Prop) : Exit → St → Prop
  | .ret, st => ares Γ st rs (mfin sz r0 post st)
  | .normal, st => ares Γ st rs (mfin sz r0 post st)
  | _, _ => False

theorem init_look' {bad : Nat → Prop} {hp : List (Nat × ARow)} {nx : Nat} : ∀ {l : List AVal} {vs : List Value} {n : Nat}, VReps w bad hp nx η l vs → ∀ i x, look (initSl n l) i = some x → ∃ v, n ≤ i ∧ vs[i - n]? = some v ∧ VRep w bad hp nx η x v
  | [], [], n, _, i, x, h => by simp [initSl, look] at h
  | y :: l, v :: vs, n, hr, i, x, h => by
    simp only [initSl] at h
    rw [look_cons] at h
    split at h
    · rename_i hni
      simp only [Option.some.injEq] at h
      subst hni h
      exact ⟨v, Nat.le_refl _, by simp, hr.1⟩
    · obtain ⟨u, h1, h2, h3⟩ := init_look' hr.2 i x h
      refine ⟨u, by omega, ?_, h3⟩
      rw [show i - n = (i - (n + 1)) + 1 by omega]
      simpa using h2
  | [], _ :: _, _, h, _, _, _ => h.elim
  | _ :: _, [], _, h, _, _, _ => h.elim

theorem ownsRow_len {B B' e e' n n' : Nat} {v : Value} {xs xs' : List Value} (h : w.ownsRow B e 1 v n xs) (h' : w'.ownsRow B' e' 1 v n' xs') : xs'.length = xs.length := by
  have h1 := h.1
  have h1' := h'.1
  rcases h.2 with ⟨rfl, h2⟩ | ⟨g, cap, cur, rfl, _⟩ <;> rcases h'.2 with ⟨e2, h2'⟩ | ⟨g', cap', cur', e2, _⟩
  · omega
  · cases e2
  · cases e2
  · simp only [Value.slice.injEq] at e2
    omega

theorem results_run {fn : Func} {tmps : Array Value} {vs : List Value} (h3 : (fn.results.toList.mapM (resOf tmps)).run P w = .ok vs w) :
    (results fn tmps).run P w = .ok (if hh : vs.toArray.size = 1 then vs.toArray[0] else .tuple vs.toArray) w := by
  have e : results fn tmps = (do
      let vs ← fn.results.mapM (resOf tmps)
      Pure.pure (if h : vs.size = 1 then vs[0] else .tuple vs)) := rfl
  rw [e, Array.mapM_eq_mapM_toList]
  simp only [Sem.run_bind, Sem.run_map, h3, Result.andThen_ok, Sem.run_pure]

theorem ptr_blk {b : Nat} : blk (.pointer (some ⟨b, 0, none⟩)) = [b] := rfl

/-- THE CONTRACT OF SUCH A FUNCTION, by its text -/
theorem mspec (hΓ : TysOk P Γ) (hm : P.follows .mixedOrders = true) {f : FuncId} {fn : Func} {c : Code} {r0 : ARow} {args : List AVal} {post : Value → ARow → Prop} (hf : P.funcs[f]? = some fn) (hb : fn.body = some c)
    (hname : (fn.name == "runtime.NumGoroutine") = false) (hn : Nat.ble args.length fn.ntmps = true) (hg : ghostOk r0 = true)
    (h : acode P Γ c ⟨fn.ntmps, (fn.ntmps, ghostOf r0) :: initSl 0 args, [(0, r0)], 1⟩ (mend Γ fn.results.toList fn.ntmps r0 post)) : MSpec P f r0 args post := by
  refine ⟨⟨fn, hf, hname, by rw [hb]; rfl⟩, fun w B ob η vs hB hobl hfree hh hvs => ?_⟩
  refine calls_of_wp hf hb ?_
  have hle := Nat.le_of_ble_eq_true hn
  have hlen := VReps.length hvs
  have hr0 : look [(0, r0)] 0 = some r0 := rfl
  have hrow0 := hh.row 0 r0 hr0
  have hone : ∀ k r, look [(0, r0)] k = some r → k = 0 ∧ r = r0 := fun k r hk => by
    rw [look_cons] at hk
    split at hk
    · rename_i h0; exact ⟨h0.symm, (Option.some.inj hk).symm⟩
    · cases hk
  let γ : Nat → Value := fun i => if i = fn.ntmps then η.val 0 else undef
  let W0 : Base := ⟨w, B, fun b => b ∈ bsOf η 0 r0, γ⟩
  have hs : SRep W0 ob ⟨fn.ntmps, (fn.ntmps, ghostOf r0) :: initSl 0 args, [(0, r0)], 1⟩ { tmps := vs.toArray ++ Array.replicate (fn.ntmps - vs.toArray.size) undef, defers := [] } w η := by
    have hsz : (vs.toArray ++ Array.replicate (fn.ntmps - vs.toArray.size) undef).size = fn.ntmps := by simp; omega
    refine ⟨rfl, hsz, Below.refl _ _, ⟨hB, hobl, hfree⟩, fun _ _ _ => rfl, fun b ⟨k, r, hk, hb⟩ => ?_, hh, fun i x hi => ?_⟩
    · obtain ⟨rfl, rfl⟩ := hone k r hk; exact .inl hb
    · simp only at hi
      rw [look_cons] at hi
      split at hi
      · rename_i hni
        subst hni
        have hx := Option.some.inj hi
        subst hx
        have hget : (vs.toArray ++ Array.replicate (fn.ntmps - vs.toArray.size) undef).getD fn.ntmps (W0.γ fn.ntmps) = η.val 0 := by
          have : W0.γ fn.ntmps = η.val 0 := if_pos rfl
          rw [Array.getD_eq_getD_getElem?, Array.getElem?_eq_none (by rw [hsz]; exact Nat.le_refl _), this]; rfl
        rw [hget]
        match r0, hg, hrow0, hone with
        | .ints .., _, _, hone => exact ⟨Nat.one_pos, fun r hk => by obtain ⟨_, rfl⟩ := hone 0 r hk; exact ⟨by simp [ARow.kind], rfl⟩⟩
        | .rows _ _ true _, _, _, hone => exact ⟨Nat.one_pos, fun r hk => by obtain ⟨_, rfl⟩ := hone 0 r hk; exact ⟨by simp [ARow.kind], rfl⟩⟩
        | .rows _ _ false _, hg, _, _ => simp [ghostOk] at hg
        | .cells _ [], hg, _, _ => simp [ghostOk] at hg
        | .recs .., hg, _, _ => simp [ghostOk] at hg
        | .cells _ (y :: l), _, hrow0, _ =>
          obtain ⟨b, h1, _, _, h4⟩ := hrow0
          have := VReps.length h4
          exact ⟨Nat.one_pos, fun r _ => ⟨by rw [← this]; simp, b, by rw [h1]; rfl, h1⟩⟩
      · rename_i hni
        obtain ⟨v, _, h2, h3⟩ := init_look' hvs i x hi
        simp only [Nat.sub_zero] at h2
        have hlt : i < vs.length := (List.getElem?_eq_some_iff.1 h2).1
        have : (vs.toArray ++ Array.replicate (fn.ntmps - vs.toArray.size) undef).getD i (W0.γ i) = v := by
          rw [Array.getD_eq_getD_getElem?, Array.getElem?_append_left (by simpa using hlt)]
          simp [h2]
        rw [this]
        exact h3
  refine wp_mono (acode_sound (w0 := W0) hΓ hm c _ _ _ w h ⟨η, hs⟩) (fun e a' w' hl => ?_)
  obtain ⟨st', hk, η', hs'⟩ := hl
  have fin : ares Γ st' fn.results.toList (mfin fn.ntmps r0 post st') → ∃ v, (results fn a'.tmps).run P w' = .ok v w' ∧ ∃ v' r' η', Ending.returned v = .returned v' ∧ v'.oneCell' = true ∧ post v' r' ∧ Below B w w' ∧
      (∀ b, b < w.heap.size → b ∉ bsOf η 0 r0 → w'.heap[b]? = w.heap[b]?) ∧ plainRow r' = true ∧ RowRep w' B (fun _ => False) [] 0 η' 0 r' ∧ (bsOf η' 0 r').Nodup ∧
      (∀ b, b ∈ bsOf η' 0 r' → b ∈ bsOf η 0 r0 ∨ w.heap.size ≤ b) ∧ r'.kind = r0.kind ∧ η'.val 0 = η.val 0 ∧ (η'.cel 0).length = (η.cel 0).length   := fun hk => by
    obtain ⟨xs, us, h1, h2, h3⟩ := ares_sound hΓ hs' hk
    have hres := results_run h3
    unfold mfin at h1
    split at h1
    case h_2 => exact h1.elim
    case h_1 v =>
      split at h1
      case h_2 => exact h1.elim
      case h_1 g hgl =>
        split at h1
        case h_2 => exact h1.elim
        case h_1 r' hr' =>
          split at h1
          case h_2 => exact h1.elim
          case h_1 hc =>
            simp only [Bool.and_eq_true] at hc
            obtain ⟨⟨⟨⟨c1, c2⟩, c3⟩, c4⟩, c5⟩ := hc
            have hsz' := Nat.eq_of_beq_eq_true c5
            have hkind := Nat.eq_of_beq_eq_true c1
            match us, h2 with
            | [u], h2 =>
              obtain ⟨rfl, hone'⟩ := h2.1
              have hrow' := hs'.heap.row 0 r' hr'
              have hval : η'.val 0 = η.val 0 := by
                have hslot := hs'.slot _ _ hgl
                have hget : a'.tmps.getD fn.ntmps (W0.γ fn.ntmps) = η.val 0 := by
                  have e1 : W0.γ fn.ntmps = η.val 0 := if_pos rfl
                  rw [Array.getD_eq_getD_getElem?, Array.getElem?_eq_none (by rw [hs'.size, hsz']; exact Nat.le_refl _), e1]; rfl
                rw [hget] at hslot
                clear hgl
                match r', g, c2, hrow', hslot, hr' with
                | .ints .., .own 0, _, _, hslot, hr' => exact ((hslot.2 _ hr').2).symm
                | .rows .., .own 0, _, _, hslot, hr' => exact ((hslot.2 _ hr').2).symm
                | .cells .., .ptr 0 0, _, ⟨b, e1, _⟩, hslot, hr' =>
                  obtain ⟨_, b', e2, e3⟩ := hslot.2 _ hr'
                  rw [e1, ptr_blk] at e2
                  simp only [List.cons.injEq, and_true] at e2
                  rw [e1, e3, e2]
              have hlen' : (η'.cel 0).length = (η.cel 0).length := by
                have l1 := row_len hrow'
                have l0 := row_len hrow0
                clear hs hs' hr' hgl h
                match r0, r', hkind, c4, hrow0, hrow', l0, l1 with
                | .recs .., .recs .., _, _, g0, g1, l0, l1 =>
                  have c3' := c3; simp [plainRow] at c3'
                | .recs .., .ints .., hk, _, _, _, _, _ => simp [ARow.kind] at hk
                | .recs .., .rows _ _ true _, hk, _, _, _, _, _ => simp [ARow.kind] at hk
                | .recs .., .rows _ _ false _, hk, _, _, _, _, _ => simp [ARow.kind] at hk
                | .recs .., .cells .., hk, _, _, _, _, _ => simp [ARow.kind] at hk
                | .ints .., .recs .., hk, _, _, _, _, _ => simp [ARow.kind] at hk
                | .rows _ _ true _, .recs .., hk, _, _, _, _, _ => simp [ARow.kind] at hk
                | .rows _ _ false _, .recs .., hk, _, _, _, _, _ => simp [ARow.kind] at hk
                | .cells .., .recs .., hk, _, _, _, _, _ => simp [ARow.kind] at hk
                | .ints .., .ints .., _, _, g0, g1, l0, l1 =>
                  have q0 := g0.1; have q1 := g1.1
                  rw [hval] at q1
                  have := ownsRow_len q0 q1
                  simp only [List.length_map] at this
                  simp only at l0 l1
                  omega
                | .rows _ _ true _, .rows _ _ true _, _, _, g0, g1, l0, l1 =>
                  have q0 := g0.1; have q1 := g1.1
                  rw [hval] at q1
                  exact ownsRow_len q0 q1
                | .rows _ _ false _, .rows _ _ false _, _, _, g0, g1, l0, l1 =>
                  have q0 := g0.1; have q1 := g1.1
                  rw [hval] at q1
                  exact ownsRow_len q0 q1
                | .cells _ l, .cells _ l', _, c4, g0, g1, l0, l1 =>
                  have := Nat.eq_of_beq_eq_true c4
                  simp only at l0 l1
                  omega
                | .ints .., .rows _ _ true _, hk, _, _, _, _, _ => simp [ARow.kind] at hk
                | .ints .., .rows _ _ false _, hk, _, _, _, _, _ => simp [ARow.kind] at hk
                | .ints .., .cells .., hk, _, _, _, _, _ => simp [ARow.kind] at hk
                | .rows _ _ true _, .ints .., hk, _, _, _, _, _ => simp [ARow.kind] at hk
                | .rows _ _ true _, .rows _ _ false _, hk, _, _, _, _, _ => simp [ARow.kind] at hk
                | .rows _ _ true _, .cells .., hk, _, _, _, _, _ => simp [ARow.kind] at hk
                | .rows _ _ false _, .ints .., hk, _, _, _, _, _ => simp [ARow.kind] at hk
                | .rows _ _ false _, .rows _ _ true _, hk, _, _, _, _, _ => simp [ARow.kind] at hk
                | .rows _ _ false _, .cells .., hk, _, _, _, _, _ => simp [ARow.kind] at hk
                | .cells .., .ints .., hk, _, _, _, _, _ => simp [ARow.kind] at hk
                | .cells .., .rows _ _ true _, hk, _, _, _, _, _ => simp [ARow.kind] at hk
                | .cells .., .rows _ _ false _, hk, _, _, _, _, _ => simp [ARow.kind] at hk
              refine ⟨_, by rw [hres]; rfl, u, r', η', rfl, hone', h1, hs'.below, fun b hb hnb => hs'.frame b hb hnb, c3, plain_rep c3 hrow' rfl rfl, hs'.heap.nodup 0 r' hr', fun b hb => hs'.src b ⟨0, r', hr', hb⟩, hkind, hval, hlen'⟩
  cases e with
  | ret => exact ⟨hs'.defers, fin hk⟩
  | normal => exact ⟨hs'.defers, fin hk⟩
  | _ => exact hk.elim
end
end Go.Aw
/- Calls that write one row of their caller, at the caller; calls that are walked into. -/
namespace Go.Aw
open Go.RowKit

section
variable {P : Program} {Γ : Tys} {w0 : Base} {w w' : World} {ob : Nat → Prop} {st : St} {a : Act} {η : Env}

/-- a row has become another of its kind -/
theorem SRep.mut (h : SRep w0 ob st a w η) {k : Nat} {r r' : ARow} {cs' : List Value} (hr : look st.hp k = some r) (hkind : r'.kind = r.kind) (hlen : (η.cel k).length ≤ cs'.length)
    (hw : ∀ b, b < w.heap.size → b ∉ bsOf η k r → w'.heap[b]? = w.heap[b]?) (hB : Below w0.B w w')
    (hnd : (bsOf (η.upd k (η.val k) cs') k r').Nodup) (hfr : ∀ b, b ∈ bsOf (η.upd k (η.val k) cs') k r' → b ∈ bsOf η k r ∨ w.heap.size ≤ b)
    (hrow : ∀ bad hp nx, RowRep w' w0.B bad hp nx (η.upd k (η.val k) cs') k r') :
    SRep w0 ob ((st.killSub k).upd k r') a w' (η.upd k (η.val k) cs') := by
  have hoth : ∀ j r1, j ≠ k → look ((st.killSub k).upd k r').hp j = some r1 → ∃ r, look st.hp j = some r ∧ r1 = r.flt (fun _ => true) (ne k) := fun j r1 hj h1 => by
    simp only [St.upd, St.killSub, look_upd, if_neg (Ne.symm hj), look_fltH] at h1
    obtain ⟨r, h2, rfl⟩ := Option.map_eq_some_iff.1 h1
    exact ⟨r, h2, rfl⟩
  have hk' : look ((st.killSub k).upd k r').hp k = some r' := by simp only [St.upd, look_upd, if_true]
  have hok : ∀ j, j < st.nx → OwnOk st.hp η ((st.killSub k).upd k r').hp (η.upd k (η.val k) cs') j := fun j _ => by
    by_cases hjk : j = k
    · subst hjk
      exact ⟨fun r1 h1 => by rw [hk'] at h1; obtain rfl := Option.some.inj h1; exact ⟨r, hr, hkind.symm, upd_val _ _ _ _, by rw [upd_cel]; exact hlen⟩⟩
    · exact OwnOk.of (fun r1 h1 => by obtain ⟨r, h2, rfl⟩ := hoth j r1 hjk h1; exact ⟨r, h2, (kind_flt _ _ r).symm⟩) (upd_ne _ _ _ _ j hjk).1 (upd_ne _ _ _ _ j hjk).2
  have hsk : ∀ j, j < st.nx → ne k j = true → SubOk st.hp η ((st.killSub k).upd k r').hp (η.upd k (η.val k) cs') j := fun j _ hj => by
    have hjk := (ne_spec k j).1 hj
    exact SubOk.of (fun r1 h1 => by obtain ⟨r, h2, rfl⟩ := hoth j r1 hjk h1; exact ⟨r, h2, (kind_flt _ _ r).symm⟩) (upd_ne _ _ _ _ j hjk).2
  obtain ⟨hh, hkp⟩ := HRep.step (k := k) (hp' := ((st.killSub k).upd k r').hp) (nx' := st.nx) (η' := η.upd k (η.val k) cs') (w' := w') h.heap (fun _ => true) (ne k) r' (h.heap.lt k r hr) (Nat.le_refl _)
    (fun j r1 hj h1 => hoth j r1 hj h1) hk' (fun j hj => upd_ne _ _ _ _ j hj)
    (fun b hb hn => hw b hb (hn r hr)) (fun j hj _ => hok j hj) hsk hnd
    (fun b hb => (hfr b hb).imp (fun h1 => ⟨k, r, hr, h1, .inl rfl⟩) id) (fun _ => hrow _ _ _)
  exact h.heapStep (fun _ => true) (ne k) hB hh hkp (Nat.le_refl _) (fun j hj _ => hok j hj) hsk

/-- what becomes of the caller's row -/
def backRow (st : St) (s : Org) (r' : ARow) : Option (Nat × ARow) :=
  match s with
  | .row k => some (k, r')
  | .sub k i => match look st.hp k with
    | some (.rows e e1 true m) => match r' with
      | .ints e2 .i64 l => match Nat.beq e2 e1 with
        | true => some (k, .rows e e1 true (m.set i l))
        | false => none
      | _ => none
    | _ => none
  | .nil => none

theorem distinct_one (s : Org) : distinct [(0, s)] = true := by cases s <;> rfl

theorem ACallS.mutK {f : FuncId} {args args0 : List AVal} {r0 : ARow} {K : AVal → St → Prop} {post : Value → ARow → Prop} (s : Org) (hs : MSpec P f r0 args0 post)
    (hv : vws st.hp [(0, s)] 1 args args0) (hr : rowVw st.hp [(0, s)] 1 s r0)
    (hk : ∀ v r', post v r' → match backRow st s r' with | some (k, r1) => K (.c v) ((st.killSub k).upd k r1) | none => False) : ACallS P st f args K := by
  refine ⟨hs.1, fun w0 ob a w η h vs hvs => ?_⟩
  have hrv : rowsVw st.hp [(0, s)] 1 [(0, r0)] := ⟨rfl, hr, trivial⟩
  have hfree : ∀ b, ownB st.hp η b → ¬ ob b := fun b hb => h.free hb
  have hh0 := View.heap (R := [(0, s)]) (nx' := 1) h.heap hfree (distinct_one s) hrv
  have ha0 := vws_sound (R := [(0, s)]) (nx' := 1) h.heap hfree hrv args args0 hv hvs
  have hs0 : look [((0 : Nat), s)] 0 = some s := rfl
  obtain ⟨hb0, _⟩ := vw_blocks (R := [(0, s)]) (j := 0) h.heap hs0 hr
  refine (hs.2 w w0.B ob (ηV st.hp η [(0, s)]) vs (wB h) (fun b hb => h.badlt (.inl hb)) (fun b hb => ?_) hh0 ha0).mono ?_
  · obtain ⟨k, r, _, h2, h3⟩ := hb0 b hb
    exact hfree b ⟨k, r, h2, h3⟩
  · rintro e w' ⟨v, r', η', rfl, hone, hp, hbel, hfrm, hplain, hrow, hnd, hsrc, hkind, hval, hlen⟩
    have hk' := hk v r' hp
    cases s with
    | nil => exact hk'.elim
    | row k =>
      obtain ⟨r, h1, h2⟩ := rowVw_kind (hp := st.hp) (R := [(0, .row k)]) (nx' := 1) hr
      have hv0 : (ηV st.hp η [(0, Org.row k)]).val 0 = η.val k := rfl
      have hc0 : (ηV st.hp η [(0, Org.row k)]).cel 0 = η.cel k := rfl
      have hbs : bsOf (ηV st.hp η [(0, Org.row k)]) 0 r0 = bsOf η k r := by simp only [bsOf, hv0, hc0, h2]
      have hu : (η.upd k (η.val k) (η'.cel 0)).val k = η'.val 0 := by rw [upd_val, hval, hv0]
      have hbs' : bsOf (η.upd k (η.val k) (η'.cel 0)) k r' = bsOf η' 0 r' := by simp only [bsOf, hu, upd_cel]
      have hs' := SRep.mut (w' := w') h (cs' := η'.cel 0) h1 (by rw [hkind, h2]) (by rw [hlen, hc0]; exact Nat.le_refl _) (fun b hb hn => hfrm b hb (by rw [hbs]; exact hn)) hbel
        (by rw [hbs']; exact hnd) (fun b hb => by rw [hbs'] at hb; rw [← hbs]; exact hsrc b hb) (fun bad hp nx => plain_rep hplain hrow hu (upd_cel _ _ _ _))
      exact ⟨v, .c v, _, _, rfl, hk', rfl, hs', rfl, hone⟩
    | sub k i =>
      simp only [backRow] at hk'
      unfold rowVw at hr
      simp only at hr
      split at hr
      case h_2 => exact hr.elim
      case h_1 e e1 m hl =>
        obtain ⟨hi, rfl⟩ := hr
        rw [hl] at hk'
        simp only at hk'
        split at hk'
        case h_2 => exact hk'.elim
        case h_1 heq =>
          split at heq
          case h_2 => cases heq
          case h_1 e2 l =>
            split at heq
            case h_2 => cases heq
            case h_1 hbe =>
              obtain rfl := Nat.eq_of_beq_eq_true hbe
              simp only [Option.some.injEq, Prod.mk.injEq] at heq
              obtain ⟨rfl, rfl⟩ := heq
              have hrow0 := h.heap.row k _ hl
              have hnd0 := h.heap.nodup k _ hl
              obtain ⟨u, hui, ho⟩ := F2.at hrow0.2 (List.getElem?_eq_getElem hi)
              have hv0 : (ηV st.hp η [(0, Org.sub k i)]).val 0 = u := getD_of hui
              have hbs0 : bsOf (ηV st.hp η [(0, Org.sub k i)]) 0 (.ints e2 .i64 (m.getD i [])) = blk u := by simp only [bsOf, ARow.kind, hv0]; simp
              have hb1 : ∀ m', bsOf η k (.rows e e2 true m') = blk (η.val k) ++ (η.cel k).flatMap blk := fun m' => by simp [bsOf, ARow.kind]
              have hin : ∀ b, b ∈ blk u → b ∈ bsOf η k (.rows e e2 true m) := fun b hb => by
                rw [hb1]; exact List.mem_append.2 (.inr (List.mem_flatMap.2 ⟨u, List.mem_of_getElem? hui, hb⟩))
              have hu : ∀ j, (η.upd k (η.val k) (η.cel k)).val j = η.val j := fun j => by by_cases hj : j = k <;> simp [Env.upd, hj]
              have hc : ∀ j, (η.upd k (η.val k) (η.cel k)).cel j = η.cel j := fun j => by by_cases hj : j = k <;> simp [Env.upd, hj]
              have hb2 : ∀ r, bsOf (η.upd k (η.val k) (η.cel k)) k r = bsOf η k r := fun r => by simp only [bsOf, hu, hc]
              rw [hb1] at hnd0
              obtain ⟨n1, n2, n3⟩ := List.nodup_append.1 hnd0
              have hrl : OwnInts w' w0.B e2 .i64 l (η'.val 0) := hrow.1
              rw [hval, hv0] at hrl
              have hs' := SRep.mut (w' := w') h (k := k) (r := .rows e e2 true m) (r' := .rows e e2 true (m.set i l)) (cs' := η.cel k) hl rfl (Nat.le_refl _)
                (fun b hb hn => hfrm b hb (by rw [hbs0]; exact fun hm => hn (hin b hm))) hbel
                (by rw [hb2, hb1]; exact hnd0) (fun b hb => by rw [hb2, hb1] at hb; exact .inl (by rw [hb1]; exact hb)) (fun bad hp nx => ?_)
              · exact ⟨v, .c v, _, _, rfl, hk', rfl, hs', rfl, hone⟩
              · refine ⟨?_, ?_⟩
                · rw [hu, hc, List.length_set]
                  refine ownsRow_same hrow0.1 (fun b hb => ?_)
                  have hlt : b < w.heap.size := (hrow0.lt b (by rw [hb1]; exact List.mem_append.2 (.inl hb))).2
                  refine hfrm b hlt ?_
                  rw [hbs0]; intro hm
                  exact n3 b hb b (List.mem_flatMap.2 ⟨u, List.mem_of_getElem? hui, hm⟩) rfl
                · rw [hc]
                  refine F2.intro (by rw [List.length_set]; exact F2.length hrow0.2) (fun j l1 u1 hj1 hj2 => ?_)
                  by_cases hji : j = i
                  · subst hji
                    rw [List.getElem?_set_self hi] at hj1
                    rw [hui] at hj2
                    obtain rfl := Option.some.inj hj1
                    obtain rfl := Option.some.inj hj2
                    exact hrl
                  · rw [List.getElem?_set_ne (Ne.symm hji)] at hj1
                    obtain ⟨u2, hu2, ho2⟩ := F2.at hrow0.2 hj1
                    rw [hj2] at hu2
                    obtain rfl := Option.some.inj hu2
                    refine ownsRow_same ho2 (fun b hb => ?_)
                    have hlt : b < w.heap.size := (hrow0.lt b (by rw [hb1]; exact List.mem_append.2 (.inr (List.mem_flatMap.2 ⟨u1, List.mem_of_getElem? hj2, hb⟩)))).2
                    refine hfrm b hlt ?_
                    rw [hbs0]; intro hm
                    exact flat_apart n2 hj2 hui hji b hb hm

theorem ACallS.mut {f : FuncId} {args args0 : List AVal} {r0 r1 : ARow} {v : Value} {K : AVal → St → Prop} (s : Org) (hs : MSpec P f r0 args0 (exM v r1))
    (hk : match backRow st s r1 with | some (k, r2) => K (.c v) ((st.killSub k).upd k r2) | none => False)
    (hv : vws st.hp [(0, s)] 1 args args0) (hr : rowVw st.hp [(0, s)] 1 s r0) : ACallS P st f args K :=
  ACallS.mutK s hs hv hr (fun _ _ e => by obtain ⟨rfl, rfl⟩ := e; exact hk)

/-! ### a call that is walked into -/
def ghosts (d : Nat) : List (Nat × AVal) → List (Nat × AVal)
  | [] => []
  | (i, x) :: r => (d + i, x) :: ghosts d r

def unghost (d : Nat) : List (Nat × AVal) → List (Nat × AVal)
  | [] => []
  | (i, x) :: r => match Nat.ble d i with
    | true => (i - d, x) :: unghost d r
    | false => unghost d r

theorem look_ghosts (d : Nat) : ∀ (l : List (Nat × AVal)) (i : Nat), look (ghosts d l) i = if d ≤ i then look l (i - d) else none
  | [], i => by simp [ghosts, look]
  | (j, x) :: r, i => by
    simp only [ghosts, look_cons, look_ghosts d r i]
    by_cases h1 : d ≤ i
    · simp only [h1, if_true]
      by_cases h2 : d + j = i
      · rw [if_pos h2, if_pos (by omega)]
      · rw [if_neg h2, if_neg (by omega)]
    · simp only [h1, if_false]
      rw [if_neg (by omega)]

theorem look_unghost (d : Nat) : ∀ (l : List (Nat × AVal)) (i : Nat), look (unghost d l) i = look l (d + i)
  | [], i => by simp [unghost, look]
  | (j, x) :: r, i => by
    simp only [unghost, look_cons]
    cases hb : Nat.ble d j with
    | true =>
      have := Nat.le_of_ble_eq_true hb
      simp only [look_cons, look_unghost d r i]
      by_cases h2 : j = d + i
      · rw [if_pos (by omega), if_pos h2]
      · rw [if_neg (by omega), if_neg h2]
    | false =>
      have : ¬ d ≤ j := fun h => by rw [Nat.ble_eq_true_of_le h] at hb; cases hb
      simp only [look_unghost d r i]
      rw [if_neg (by omega)]

def iend (Γ : Tys) (rs : List ResultVar) (sz sz0 : Nat) (K : AVal → St → Prop) : Exit → St → Prop
  | .ret, st => Nat.beq st.sz sz = true ∧ ares Γ st rs fun l => frG (unghost sz st.sl) fun sl => K (match l with | [x] => x | l => .tu l) ⟨sz0, sl, st.hp, st.nx⟩
  | .normal, st => Nat.beq st.sz sz = true ∧ ares Γ st rs fun l => frG (unghost sz st.sl) fun sl => K (match l with | [x] => x | l => .tu l) ⟨sz0, sl, st.hp, st.nx⟩
  | _, _ => False

def iend' (Γ : Tys) (rs : List ResultVar) (sz sz0 : Nat) (K : AVal → St → Prop) : Exit → St → Prop
  | .ret, st => Nat.beq st.sz sz = true ∧ ares Γ st rs fun l => K (match l with | [x] => x | l => .tu l) ⟨sz0, unghost sz st.sl, st.hp, st.nx⟩
  | .normal, st => Nat.beq st.sz sz = true ∧ ares Γ st rs fun l => K (match l with | [x] => x | l => .tu l) ⟨sz0, unghost sz st.sl, st.hp, st.nx⟩
  | _, _ => False

theorem look_app (l r : List (Nat × AVal)) (i : Nat) : look (l ++ r) i = match look l i with | some x => some x | none => look r i := by rw [look_append]; cases look l i <;> rfl

theorem ACallS.inline (hΓ : TysOk P Γ) (hm : P.follows .mixedOrders = true) {f : FuncId} {fn : Func} {c : Code} {args : List AVal} {K : AVal → St → Prop} (hf : P.funcs[f]? = some fn) (hb : fn.body = some c)
    (hname : (fn.name == "runtime.NumGoroutine") = false) (hn : Nat.ble args.length fn.ntmps = true)
    (h : frG (initSl 0 args ++ ghosts fn.ntmps st.sl) fun sl => acode P Γ c ⟨fn.ntmps, sl, st.hp, st.nx⟩ (iend Γ fn.results.toList fn.ntmps st.sz K)) : ACallS P st f args K := by
  rw [frG_eq] at h
  refine ⟨⟨fn, hf, hname, by rw [hb]; rfl⟩, fun w0 ob a w η hsr vs hvs => ?_⟩
  refine calls_of_wp hf hb ?_
  have hle := Nat.le_of_ble_eq_true hn
  have hlen := VReps.length hvs
  let γ : Nat → Value := fun i => a.tmps.getD (i - fn.ntmps) (w0.γ (i - fn.ntmps))
  let W0 : Base := ⟨w0.w, w0.B, w0.may, γ⟩
  have hsz : (vs.toArray ++ Array.replicate (fn.ntmps - vs.toArray.size) undef).size = fn.ntmps := by simp; omega
  have hs : SRep W0 ob ⟨fn.ntmps, initSl 0 args ++ ghosts fn.ntmps st.sl, st.hp, st.nx⟩ { tmps := vs.toArray ++ Array.replicate (fn.ntmps - vs.toArray.size) undef, defers := [] } w η := by
    refine ⟨rfl, hsz, hsr.below, ⟨hsr.base.le, hsr.base.obl, hsr.base.may⟩, hsr.frame, hsr.src, hsr.heap, fun i x hi => ?_⟩
    simp only at hi
    rw [look_app] at hi
    cases hl : look (initSl 0 args) i with
    | some y =>
      rw [hl] at hi
      simp only [Option.some.injEq] at hi
      subst hi
      obtain ⟨v, _, h2, h3⟩ := init_look' hvs i y hl
      simp only [Nat.sub_zero] at h2
      have hlt : i < vs.length := (List.getElem?_eq_some_iff.1 h2).1
      have : (vs.toArray ++ Array.replicate (fn.ntmps - vs.toArray.size) undef).getD i (W0.γ i) = v := by
        rw [Array.getD_eq_getD_getElem?, Array.getElem?_append_left (by simpa using hlt)]
        simp [h2]
      rw [this]
      exact h3
    | none =>
      rw [hl] at hi
      simp only [look_ghosts] at hi
      split at hi
      case isFalse => cases hi
      case isTrue hge =>
        have : (vs.toArray ++ Array.replicate (fn.ntmps - vs.toArray.size) undef).getD i (W0.γ i) = a.tmps.getD (i - fn.ntmps) (w0.γ (i - fn.ntmps)) := by
          rw [Array.getD_eq_getD_getElem?, Array.getElem?_eq_none (by rw [hsz]; exact hge)]; rfl
        rw [this]
        exact hsr.slot _ _ hi
  refine wp_mono (acode_sound (w0 := W0) hΓ hm c _ _ _ w h ⟨η, hs⟩) (fun e a' w' hl => ?_)
  obtain ⟨st', hk, η', hs'⟩ := hl
  have hk : iend' Γ fn.results.toList fn.ntmps st.sz K e st' := by
    cases e <;> simp only [iend, frG_eq] at hk <;> exact hk
  have fin : Nat.beq st'.sz fn.ntmps = true ∧ ares Γ st' fn.results.toList (fun l => K (match l with | [x] => x | l => .tu l) ⟨st.sz, unghost fn.ntmps st'.sl, st'.hp, st'.nx⟩) → ∃ v, (results fn a'.tmps).run P w' = .ok v w' ∧
      ∃ v' x st' η', Ending.returned v = .returned v' ∧ K x st' ∧ st'.sz = st.sz ∧ SRep w0 ob st' a w' η' ∧ VRep w' (fun b => ob b ∨ ownB st'.hp η' b) st'.hp st'.nx η' x v' := fun ⟨he, hk⟩ => by
    have hsz' := Nat.eq_of_beq_eq_true he
    obtain ⟨xs, us, h1, h2, h3⟩ := ares_sound hΓ hs' hk
    have hres := results_run h3
    have back : SRep w0 ob ⟨st.sz, unghost fn.ntmps st'.sl, st'.hp, st'.nx⟩ a w' η' := by
      refine ⟨hsr.defers, hsr.size, hs'.below, hsr.base, hs'.frame, hs'.src, hs'.heap, fun i x hi => ?_⟩
      simp only [look_unghost] at hi
      have := hs'.slot _ x hi
      have hg : a'.tmps.getD (fn.ntmps + i) (W0.γ (fn.ntmps + i)) = a.tmps.getD i (w0.γ i) := by
        rw [Array.getD_eq_getD_getElem?, Array.getElem?_eq_none (by rw [hs'.size, hsz']; omega)]
        show γ (fn.ntmps + i) = _
        simp only [γ, Nat.add_sub_cancel_left]
      rw [hg] at this
      exact this
    have two : ∀ {xs : List AVal} {us : List Value}, VRs w' ob st' η' xs us → us.length ≠ 1 → K (.tu xs) ⟨st.sz, unghost fn.ntmps st'.sl, st'.hp, st'.nx⟩ → (results fn a'.tmps).run P w' = .ok (if hh : us.toArray.size = 1 then us.toArray[0] else .tuple us.toArray) w' →
        ∃ v, (results fn a'.tmps).run P w' = .ok v w' ∧
      ∃ v' x st' η', Ending.returned v = .returned v' ∧ K x st' ∧ st'.sz = st.sz ∧ SRep w0 ob st' a w' η' ∧ VRep w' (fun b => ob b ∨ ownB st'.hp η' b) st'.hp st'.nx η' x v' := by
      intro xs us h2 hne hK hres
      exact ⟨_, by rw [hres, dif_neg (by simpa using hne)], _, .tu xs, _, η', rfl, hK, rfl, back, us, rfl, h2⟩
    clear h3
    match xs, us, h2, h1, hres with
    | [x], [u], h2, h1, hres => exact ⟨u, by rw [hres]; rfl, u, x, _, η', rfl, h1, rfl, back, h2.1⟩
    | [], [], h2, h1, hres => exact two h2 (by simp) h1 hres
    | x :: y :: xs, u :: v :: us, h2, h1, hres => exact two h2 (by simp) h1 hres
  cases e with
  | ret => exact ⟨hs'.defers, fin hk⟩
  | normal => exact ⟨hs'.defers, fin hk⟩
  | _ => exact hk.elim

/-- what is there, told otherwise ahead of a call -/
theorem ACallS.view {f : FuncId} {args args' : List AVal} {K : AVal → St → Prop} {R : List (Nat × Org)} {st' : St} (hs : View R st st') (hv : vws st.hp R st'.nx args args') (h : ACallS P st' f args' K) : ACallS P st f args K := by
  refine ⟨h.fok, fun w0 ob a w η hr vs hvs => (h.run w0 ob a w _ (hs.rep hr) vs (vws_sound hr.heap (fun b hb => hr.free hb) hs.hp args args' hv hvs)).mono ?_⟩
  rintro e w' ⟨v, x, st2, η', rfl, hk, hsz, hs', hx⟩
  exact ⟨v, x, st2, η', rfl, hk, by rw [hsz, hs.sz], hs', hx⟩

/-- what is handed back, told otherwise -/
theorem FSpec.view {f : FuncId} {args : List AVal} {post post' : AVal → List (Nat × ARow) → Prop} (h : FSpec P f args post)
    (hv : ∀ x hr, post x hr → ∃ R x' hr', distinct R = true ∧ rowsVw hr R hr'.length hr' ∧ vw hr R hr'.length x x' ∧ post' x' hr') : FSpec P f args post' := by
  refine ⟨h.1, fun w bad vs hbl hvs => (h.2 w bad vs hbl hvs).mono ?_⟩
  rintro e w' ⟨v, x, hr, η, rfl, hp, hb, hh, hx⟩
  obtain ⟨R, x', hr', h1, h2, h3, h4⟩ := hv x hr hp
  have hfree : ∀ b, ownB hr η b → ¬ bad b := fun b ⟨k, r, hk, hm⟩ hbad => by
    have := ((hh.row k r hk).lt b hm).1
    have := hbl b hbad
    omega
  exact ⟨v, x', hr', ηV hr η R, rfl, h4, hb, View.heap hh hfree h1 h2, vw_sound hh hfree h2 x x' h3 hx⟩
end
end Go.Aw
/- Marks: what the laws write into what they were handed. -/
namespace Go.Aw
def marks (k : Int) (n : Nat) : List Int := (List.range n).map fun i : Nat => k + (i : Int)
def marksR : Int → List (List Int) → List (List Int)
  | _, [] => []
  | k, r :: m => marks k r.length :: marksR (k + r.length) m
def tot : List (List Int) → Nat
  | [] => 0
  | r :: m => r.length + tot m
theorem marksR_length : ∀ (k : Int) (m : List (List Int)), (marksR k m).length = m.length
  | _, [] => rfl
  | k, _ :: m => by simp [marksR, marksR_length _ m]
theorem tot_append : ∀ (m m' : List (List Int)), tot (m ++ m') = tot m + tot m'
  | [], _ => by simp [tot]
  | r :: m, m' => by simp [tot, tot_append m m', Nat.add_assoc]
theorem tot_take_le : ∀ (m : List (List Int)) (i : Nat), tot (m.take i) ≤ tot m
  | [], _ => by simp [tot]
  | _ :: _, 0 => by simp [tot]
  | r :: m, i + 1 => by have := tot_take_le m i; simp [tot]; exact this
theorem tot_take_succ : ∀ (m : List (List Int)) (i : Nat), i < m.length → tot (m.take (i + 1)) = tot (m.take i) + (m.getD i []).length
  | [], _, h => by simp at h
  | r :: m, 0, _ => by simp [tot]
  | r :: m, i + 1, h => by have := tot_take_succ m i (by simpa using h); simp [tot] at this ⊢; omega
theorem marksR_append : ∀ (k : Int) (m m' : List (List Int)), marksR k (m ++ m') = marksR k m ++ marksR (k + tot m) m'
  | _, [], _ => by simp [marksR, tot]
  | k, r :: m, m' => by simp [marksR, marksR_append _ m m', tot, Int.add_assoc]
theorem marksR_take_succ (k : Int) (m : List (List Int)) (i : Nat) (h : i < m.length) : marksR k (m.take (i + 1)) = marksR k (m.take i) ++ [marks (k + tot (m.take i)) (m.getD i []).length] := by
  rw [List.take_succ_eq_append_getElem h, marksR_append]
  simp [marksR, List.getD, h]
theorem marksR_get : ∀ (k : Int) (m : List (List Int)) (i : Nat), i < m.length → (marksR k m).getD i [] = marks (k + tot (m.take i)) (m.getD i []).length
  | _, [], _, h => by simp at h
  | k, r :: m, 0, _ => by simp [marksR, tot]
  | k, r :: m, i + 1, h => by
    have := marksR_get (k + r.length) m i (by simpa using h)
    simp only [marksR, List.getD_cons_succ, List.take_succ_cons, tot]
    rw [this, Int.add_assoc]; simp
theorem marks_length (k : Int) (n : Nat) : (marks k n).length = n := by simp [marks]
theorem marks_get {k : Int} {n i : Nat} (h : i < n) : (marks k n).getD i 0 = k + i := by simp [marks, List.getD, h]
theorem tot_mem : ∀ {m : List (List Int)} {r : List Int}, r ∈ m → r.length ≤ tot m
  | [], _, h => by simp at h
  | q :: m, r, h => by
    rcases List.mem_cons.1 h with rfl | h
    · simp [tot]
    · have := tot_mem h; simp [tot]; omega
def InR (n : Int) : Prop := -9223372036854775808 ≤ n ∧ n ≤ 9223372036854775807
def OkI (l : List Int) : Prop := l.length ≤ 9223372036854775807 ∧ ∀ x, x ∈ l → InR x
def OkM (m : List (List Int)) : Prop := m.length ≤ 9223372036854775807 ∧ ∀ r, r ∈ m → OkI r
theorem OkM.len {m : List (List Int)} (h : OkM m) : ∀ r, r ∈ m → r.length ≤ 9223372036854775807 := fun r hr => (h.2 r hr).1
def SzI (l : List Int) : Prop := l.length ≤ 1048576
def SzM (m : List (List Int)) : Prop := m.length + tot m ≤ 1048576
theorem SzM.all {m : List (List Int)} (h : SzM m) : m.length ≤ 1048576 ∧ (∀ r, r ∈ m → r.length ≤ 1048576) ∧ tot m ≤ 1048576 := by
  unfold SzM at h
  exact ⟨by omega, fun r hr => by have := tot_mem hr; omega, by omega⟩
end Go.Aw
namespace Go.Proofs.Ytkomndcehdneaaa
open Go.Aw
theorem szGo_tot : ∀ {m : List (List Int)} {left : Int}, 0 ≤ szGo m left → szGo m left = left - tot m
  | [], left, _ => by simp [szGo, tot]
  | r :: m, left, h => by
    simp only [szGo] at h ⊢
    split at h
    · omega
    · rename_i hn
      rw [if_neg hn, szGo_tot h]
      simp [tot]
      omega
theorem szSS_tot {m : List (List Int)} {left : Int} (h : 0 ≤ szSS m left) : 0 ≤ szSS m left ∧ szSS m left = left - m.length - tot m := by
  refine ⟨h, ?_⟩
  unfold szSS at h ⊢
  split at h
  · omega
  · rename_i hn
    rw [if_neg hn, szGo_tot h]

theorem marks_step (l : List Int) (k : Int) (i : Nat) (h : i < l.length) : (marks k i ++ l.drop i).set i (k + i) = marks k (i + 1) ++ l.drop (i + 1) := by
  rw [List.set_append_right _ _ (by simp [marks]), marks_length, Nat.sub_self, List.drop_eq_getElem_cons h, List.set_cons_zero]
  simp [marks, List.range_succ]




end Go.Proofs.Ytkomndcehdneaaa
/- Small facts and small functions that many texts use. -/
namespace Go.Aw
abbrev W (n : Int) : Int := IntKind.i64.wrap n
def fo {α : Type} (f : α → Nat → α) (a : α) : Nat → α
  | 0 => a
  | n + 1 => f (fo f a n) n
theorem fo_congr {α : Type} {f g : α → Nat → α} {a : α} : ∀ {n : Nat}, (∀ b k, k < n → f b k = g b k) → fo f a n = fo g a n
  | 0, _ => rfl
  | n + 1, h => by rw [fo, fo, fo_congr (fun b k hk => h b k (by omega)), h _ n (by omega)]
theorem nat_wrap {k : Nat} (h : k ≤ 9223372036854775806) : IntKind.i64.wrap ((k : Int) + 1) = ((k + 1 : Nat) : Int) := by rw [w64 (by omega) (by omega)]; omega
theorem map_range_succ {α : Type} (f : Nat → α) (k : Nat) : (List.range k).map f ++ [f k] = (List.range (k + 1)).map f := by rw [List.range_succ, List.map_append]; rfl
theorem shl_one {n : Nat} (h : n ≤ 12) : shl .i64 1 n = ((2 ^ n : Nat) : Int) := by
  have : n = 0 ∨ n = 1 ∨ n = 2 ∨ n = 3 ∨ n = 4 ∨ n = 5 ∨ n = 6 ∨ n = 7 ∨ n = 8 ∨ n = 9 ∨ n = 10 ∨ n = 11 ∨ n = 12 := by omega
  rcases this with h | h | h | h | h | h | h | h | h | h | h | h | h <;> subst h <;> rfl
theorem two_pow_le {n : Nat} (h : n ≤ 12) : 2 ^ n ≤ 4096 := by
  have := Nat.pow_le_pow_right (n := 2) (by omega) h
  simpa using this
end Go.Aw
namespace Go.Aw
section
variable {P : Program}
/-- (slice, bool): nil where it is false -/
def nilOr (ok : Bool) (r : ARow) : AVal → List (Nat × ARow) → Prop := fun x h =>
  (ok = false ∧ x = .tu [.c (.slice none 0 0), .c (.bool false)] ∧ h = []) ∨ (ok = true ∧ x = .tu [.own 0, .c (.bool true)] ∧ h = [(0, r)])

theorem view_rows {f : FuncId} {args : List AVal} {ok : Bool} {e e1 : Nat} {m : List (List Int)} (h : FSpec P f args (nilOr ok (.rows e e1 true m))) :
    FSpec P f args (ex (.tu [.own 0, .c (.bool ok)]) [(0, .rows e e1 true (if ok then m else []))]) := by
  refine FSpec.view h ?_
  rintro x hr (⟨rfl, rfl, rfl⟩ | ⟨rfl, rfl, rfl⟩)
  · exact ⟨[(0, .nil)], .tu [.own 0, .c (.bool false)], [(0, .rows e e1 true [])], rfl, ⟨rfl, trivial, trivial⟩, ⟨⟨rfl, rfl, rfl⟩, rfl, trivial⟩, rfl, rfl⟩
  · exact ⟨[(0, .row 0)], .tu [.own 0, .c (.bool true)], [(0, .rows e e1 true m)], rfl, ⟨rfl, rfl, trivial⟩, ⟨⟨rfl, rfl⟩, rfl, trivial⟩, rfl, rfl⟩

theorem view_ints {f : FuncId} {args : List AVal} {ok : Bool} {e : Nat} {k : IntKind} {l : List Int} (h : FSpec P f args (nilOr ok (.ints e k l))) :
    FSpec P f args (ex (.tu [.own 0, .c (.bool ok)]) [(0, .ints e k (if ok then l else []))]) := by
  refine FSpec.view h ?_
  rintro x hr (⟨rfl, rfl, rfl⟩ | ⟨rfl, rfl, rfl⟩)
  · exact ⟨[(0, .nil)], .tu [.own 0, .c (.bool false)], [(0, .ints e k [])], rfl, ⟨rfl, trivial, trivial⟩, ⟨⟨rfl, rfl, rfl⟩, rfl, trivial⟩, rfl, rfl⟩
  · exact ⟨[(0, .row 0)], .tu [.own 0, .c (.bool true)], [(0, .ints e k l)], rfl, ⟨rfl, rfl, trivial⟩, ⟨⟨rfl, rfl⟩, rfl, trivial⟩, rfl, rfl⟩
end
theorem tot_le_mul {m : List (List Int)} {n : Nat} (h : ∀ r, r ∈ m → r.length ≤ n) : tot m ≤ m.length * n := by
  induction m with
  | nil => simp [tot]
  | cons r m ih =>
    have h1 := h r (by simp)
    have h2 := ih (fun q hq => h q (by simp [hq]))
    simp only [tot, List.length_cons, Nat.succ_mul]
    omega
end Go.Aw
namespace Go.Aw
theorem map_getD {α β : Type} {f : α → β} {l : List α} {i : Nat} {d : α} {e : β} (h : i < l.length) : (l.map f).getD i e = f (l.getD i d) := by
  simp [List.getD, h]
theorem range_getD {β : Type} {f : Nat → β} {n i : Nat} {e : β} (h : i < n) : ((List.range n).map f).getD i e = f i := by
  simp [List.getD, h]
theorem rall_succ {p : Nat → Bool} {k : Nat} (h1 : (List.range k).all p = true) (h2 : p k = true) : (List.range (k + 1)).all p = true := by
  rw [List.range_succ, List.all_append, h1]; simp [h2]
theorem rall_false {p : Nat → Bool} {k n : Nat} (h : k < n) (h2 : p k = false) : (List.range n).all p = false := by
  rw [List.all_eq_false]
  exact ⟨k, by simpa using h, by simp [h2]⟩
end Go.Aw
namespace Go.Proofs.Ytkomndcehdneaaa
open Go.Aw
set_option maxRecDepth 100000

theorem getD_lt {α : Type} {l : List α} {d : α} {i : Nat} (h : i < l.length) : l.getD i d = l[i] := by rw [List.getD_eq_getElem?_getD, List.getElem?_eq_getElem h]; rfl

def inR (x a b : Int) : Bool := decide (a ≤ x ∧ x ≤ b)
def rowIn (r : List Int) (a b : Int) : Bool := r.all (fun x => inR x a b)
theorem all_take_succ {α : Type} {m : List α} {d : α} {p : α → Bool} {k : Nat} (h : k < m.length) (h1 : (m.take k).all p = true) (h2 : p (m.getD k d) = true) : (m.take (k + 1)).all p = true := by
  rw [List.take_succ_eq_append_getElem h, List.all_append, h1]
  rw [List.getD_eq_getElem?_getD, List.getElem?_eq_getElem h] at h2
  simpa using h2

theorem all_false {α : Type} {m : List α} {d : α} {p : α → Bool} {k : Nat} (h : k < m.length) (h2 : p (m.getD k d) = false) : m.all p = false := by
  rw [List.all_eq_false]
  exact ⟨m.getD k d, getD_mem h, by simpa using h2⟩

theorem all_end {α : Type} {m : List α} {p : α → Bool} {k : Nat} (h : ¬ k < m.length) (h1 : (m.take k).all p = true) : m.all p = true := by
  rwa [List.take_of_length_le (by omega)] at h1

theorem l1In_spec (x a b : Int) : FSpec Try.prog 124 [.c (.int .i64 x), .c (.int .i64 a), .c (.int .i64 b)] (ex (.c (.bool (inR x a b))) []) := by
  refine fspec tyOk mx Try.func124 rfl (by kernel_rfl) rfl ?_
  refine ⟨fun h => ?_, fun h => ?_⟩ <;> (conv => whnf) <;> refine ⟨?_, rfl⟩ <;> simp only [inR, decide_eq_true_eq, decide_eq_false_iff_not] at h ⊢
  · simp [h]
  · simp [show ¬ a ≤ x by omega]

theorem within_spec (x a b : Int) : FSpec Try.prog 121 [.c (.int .i64 x), .c (.int .i64 a), .c (.int .i64 b)] (ex (.c (.bool (inR x a b))) []) := by
  refine fspec tyOk mx Try.func121 rfl (by kernel_rfl) rfl ?_
  refine ⟨fun h => ?_, fun h => ?_⟩ <;> (conv => whnf) <;> refine ⟨?_, rfl⟩ <;> simp only [inR, decide_eq_true_eq, decide_eq_false_iff_not] at h ⊢
  · simp [h]
  · simp [show ¬ a ≤ x by omega]

theorem allWithin_spec (r : List Int) (a b : Int) (hl : r.length ≤ 9223372036854775807) :
    FSpec Try.prog 131 [.t (.ints .i64 r), .c (.int .i64 a), .c (.int .i64 b)] (ex (.c (.bool (rowIn r a b))) []) := by
  refine fspec tyOk mx Try.func131 rfl (by kernel_rfl) rfl ?_
  conv => whnf
  refine aloopI tyOk mx (fun k : Nat => (⟨21, [(0, .t (.ints .i64 r)), (1, .c (.int .i64 a)), (2, .c (.int .i64 b)), (9, .t (.ints .i64 r)), (10, .c (.int .i64 r.length)), (11, .c (.int .i64 (k : Int)))], [], 0⟩ : St)) (fun k => k ≤ r.length ∧ (r.take k).all (fun x => inR x a b) = true) (fun k => r.length - k)
    0 ⟨by omega, rfl⟩ none (by refine ⟨rfl, rfl, ?_, ?_⟩ <;> ((repeat' (first | exact trivial | exact rfl | refine And.intro ?_ ?_)) <;> (try ((conv => whnf); first | refine vint ?_ | refine vboo ?_ | refine rint ?_ | refine rrow ?_ | skip)) <;> (try first | omega | (simp; done) | ((repeat rw [flts_closed _ (by assumption)]); exact vws_closed _ (by assumption))))) (fun k hI => ?_)
  obtain ⟨hk, hp⟩ := hI
  refine ⟨fun h => ?_, fun h => ?_⟩
  · have hk1 : k < r.length := by simpa using h
    conv => whnf
    refine ⟨k, rfl, hk1, ?_⟩
    conv => whnf
    refine ACall.use (within_spec _ _ _) ?_
    refine ⟨fun h => ?_, fun h => ?_⟩
    · conv => whnf
      refine ⟨?_, rfl⟩
      rw [rowIn, all_false (d := 0) hk1 (by simpa using h)]
    · conv => whnf
      rw [w64 (by omega) (by omega)]
      exact ⟨k + 1, none, (by refine ⟨rfl, rfl, ?_, ?_⟩ <;> ((repeat' (first | exact trivial | exact rfl | refine And.intro ?_ ?_)) <;> (try ((conv => whnf); first | refine vint ?_ | refine vboo ?_ | refine rint ?_ | refine rrow ?_ | skip)) <;> (try first | omega | (simp; done) | ((repeat rw [flts_closed _ (by assumption)]); exact vws_closed _ (by assumption))))), ⟨by omega, all_take_succ (d := 0) hk1 hp (by simpa using h)⟩, by omega⟩
  · have hk1 : ¬ k < r.length := by simpa using h
    conv => whnf
    refine ⟨?_, rfl⟩
    rw [rowIn, all_end hk1 hp]

end Go.Proofs.Ytkomndcehdneaaa
/- Boxes that are told by a function. -/
namespace Go.Aw
theorem ACall.use4 {P : Program} {st : St} {f : FuncId} {a b c d v : Value} {caps : List AVal} {K : AVal → St → Prop} (hcl : ∀ g hp, clos g hp caps = some caps) (ho : hasOwns caps = false)
    (hs : FSpec P f (.c a :: .c b :: .c c :: .c d :: caps) (ex (.c v) [])) (hk : K (.c v) (st.add [])) : ACallS P st f (.c a :: .c b :: .c c :: .c d :: caps) K := by
  refine ACallS.useK hs (fun x h e => ?_) ?_
  · obtain ⟨rfl, rfl⟩ := e
    have : hasOwns (.c a :: .c b :: .c c :: .c d :: caps) = false := by simp [hasOwns, hasOwn, ho]
    rw [this]
    exact hk
  · simp [closeArgs, clos, clo1, hcl]

/-- the rows of a box, by a function of questions and answers -/
def boxRow (num : Nat → Nat → Nat → Nat → Int) (i k : Nat) : List Int := (List.range 4).map fun p => num i k (p / 2) (p % 2)
def boxTo (num : Nat → Nat → Nat → Nat → Int) (ny i k : Nat) : List (List Int) := (List.range i).flatMap (fun i => (List.range ny).map (boxRow num i)) ++ (List.range k).map (boxRow num i)
def boxRows (num : Nat → Nat → Nat → Nat → Int) (nx ny : Nat) : List (List Int) := (List.range nx).flatMap fun i => (List.range ny).map (boxRow num i)
theorem boxTo_row (num : Nat → Nat → Nat → Nat → Int) (ny i k : Nat) : boxTo num ny i k ++ [boxRow num i k] = boxTo num ny i (k + 1) := by
  unfold boxTo
  rw [List.append_assoc, map_range_succ]
theorem boxTo_end (num : Nat → Nat → Nat → Nat → Int) (ny i : Nat) : boxTo num ny i ny = boxTo num ny (i + 1) 0 := by
  simp [boxTo, List.range_succ]
theorem boxTo_all (num : Nat → Nat → Nat → Nat → Int) (nx ny : Nat) : boxTo num ny nx 0 = boxRows num nx ny := by
  simp [boxTo, boxRows]
theorem boxTo_len (num : Nat → Nat → Nat → Nat → Int) (ny i k : Nat) : (boxTo num ny i k).length = i * ny + k := by
  unfold boxTo
  rw [List.length_append, List.length_map, List.length_range, List.length_flatMap]
  congr 1
  induction i with
  | zero => simp
  | succ i ih => rw [List.range_succ, List.map_append, List.sum_append, ih]; simp [Nat.succ_mul]
theorem boxRows_len (num : Nat → Nat → Nat → Nat → Int) (nx ny : Nat) : (boxRows num nx ny).length = nx * ny := by
  rw [← boxTo_all, boxTo_len]; rfl
end Go.Aw
namespace Go.Proofs.Ytkomndcehdneaaa
open Go.Aw
set_option maxRecDepth 100000
theorem half_nat {p : Nat} (h : p < 4) : IntKind.i64.wrap (Int.tdiv (p : Int) 2) = ((p / 2 : Nat) : Int) := by
  have : p = 0 ∨ p = 1 ∨ p = 2 ∨ p = 3 := by omega
  rcases this with rfl | rfl | rfl | rfl <;> rfl
theorem mod_nat {p : Nat} (h : p < 4) : Int.tmod (p : Int) 2 = ((p % 2 : Nat) : Int) := by
  have : p = 0 ∨ p = 1 ∨ p = 2 ∨ p = 3 := by omega
  rcases this with rfl | rfl | rfl | rfl <;> rfl

theorem newBox_spec (nx ny : Nat) (z : Int) (g : FuncId) (caps : List AVal) (num : Nat → Nat → Nat → Nat → Int) (hx : nx ≤ 1000) (hy : ny ≤ 1000)
    (hcl : ∀ g hp, clos g hp caps = some caps) (ho : hasOwns caps = false)
    (hg : ∀ i k a b : Nat, i < nx → k < ny → a < 2 → b < 2 → FSpec Try.prog g (.c (.int .i64 (i)) :: .c (.int .i64 (k)) :: .c (.int .i64 (a)) :: .c (.int .i64 (b)) :: caps) (ex (.c (.int .i64 (num i k a b))) [])) :
    FSpec Try.prog 167 [.c (.int .i64 (nx)), .c (.int .i64 (ny)), .c (.int .i64 (z)), .clo g caps] (ex (.ag [.c (.int .i64 (nx)), .c (.int .i64 (ny)), .c (.int .i64 (z)), .own 0]) [(0, .rows 25 3 true (boxRows num nx ny))]) := by
  have hm : ∀ i, i ≤ nx → i * ny ≤ 1000000 := fun i hi => Nat.mul_le_mul (show i ≤ 1000 by omega) hy
  have hcl' := hcl (fun _ _ => none) []
  refine fspec tyOk mx Try.func167 rfl (by kernel_rfl) rfl ?_
  conv => whnf
  refine aloopI tyOk mx (fun i : Nat => (⟨51, [(1, .c (.int .i64 (ny))), (3, .clo g caps), (8, .ptr 0 0), (9, .ptr 1 0), (18, .c (.int .i64 (nx))), (19, .c (.int .i64 (i)))], [(0, .cells 53 [.c (.int .i64 (0)), .c (.int .i64 (0)), .c (.int .i64 (0)), .c (.slice none 0 0)]), (1, .cells 53 [.c (.int .i64 (nx)), .c (.int .i64 (ny)), .c (.int .i64 (z)), .own 2]), (2, .rows 25 3 true (boxTo num ny i 0))], 3⟩ : St)) (fun i => i ≤ nx) (fun i => nx - i) 0 (by omega) (some [(0, .row 0), (1, .row 1), (2, .nil)]) (by refine ⟨rfl, rfl, ?_, ?_⟩ <;> ((repeat' (first | exact trivial | exact rfl | refine And.intro ?_ ?_)) <;> (try ((conv => whnf); first | refine vint ?_ | refine vboo ?_ | refine rint ?_ | refine rrow ?_ | skip)) <;> (try first | omega | (simp; done) | ((repeat rw [flts_closed _ (by assumption)]); exact vws_closed _ (by assumption))))) (fun i hi => ?_)
  refine ⟨fun h => ?_, fun h => ?_⟩
  · have h := ltT h
    conv => whnf
    refine aloopI tyOk mx (fun k : Nat => (⟨51, [(1, .c (.int .i64 (ny))), (3, .clo g caps), (8, .ptr 0 0), (9, .ptr 1 0), (10, .c (.int .i64 (i))), (18, .c (.int .i64 (nx))), (19, .c (.int .i64 (i))), (22, .c (.int .i64 (ny))), (23, .c (.int .i64 (k)))], [(0, .cells 53 [.c (.int .i64 (0)), .c (.int .i64 (0)), .c (.int .i64 (0)), .c (.slice none 0 0)]), (1, .cells 53 [.c (.int .i64 (nx)), .c (.int .i64 (ny)), .c (.int .i64 (z)), .own 2]), (2, .rows 25 3 true (boxTo num ny i k))], 3⟩ : St)) (fun k => k ≤ ny) (fun k => ny - k) 0 (by omega) none (by refine ⟨rfl, rfl, ?_, ?_⟩ <;> ((repeat' (first | exact trivial | exact rfl | refine And.intro ?_ ?_)) <;> (try ((conv => whnf); first | refine vint ?_ | refine vboo ?_ | refine rint ?_ | refine rrow ?_ | skip)) <;> (try first | omega | (simp; done) | ((repeat rw [flts_closed _ (by assumption)]); exact vws_closed _ (by assumption))))) (fun k hk => ?_)
    have hlen := boxTo_len num ny i k
    have hm' := hm i hi
    refine ⟨fun h2 => ?_, fun h2 => ?_⟩
    · have h2 := ltT h2
      conv => whnf
      refine aloopI tyOk mx (fun p : Nat => (⟨51, [(1, .c (.int .i64 (ny))), (3, .clo g caps), (8, .ptr 0 0), (9, .ptr 1 0), (10, .c (.int .i64 (i))), (11, .c (.int .i64 (k))), (12, .own 3), (18, .c (.int .i64 (nx))), (19, .c (.int .i64 (i))), (22, .c (.int .i64 (ny))), (23, .c (.int .i64 (k))), (27, .c (.int .i64 (p)))], [(0, .cells 53 [.c (.int .i64 (0)), .c (.int .i64 (0)), .c (.int .i64 (0)), .c (.slice none 0 0)]), (1, .cells 53 [.c (.int .i64 (nx)), .c (.int .i64 (ny)), .c (.int .i64 (z)), .own 2]), (2, .rows 25 3 true (boxTo num ny i k)), (3, .ints 3 .i64 ((List.range p).map fun p => num i k (p / 2) (p % 2)))], 4⟩ : St)) (fun p => p ≤ 4) (fun p => 4 - p) 0 (by omega) none (by refine ⟨rfl, rfl, ?_, ?_⟩ <;> ((repeat' (first | exact trivial | exact rfl | refine And.intro ?_ ?_)) <;> (try ((conv => whnf); first | refine vint ?_ | refine vboo ?_ | refine rint ?_ | refine rrow ?_ | skip)) <;> (try first | omega | (simp; done) | ((repeat rw [flts_closed _ (by assumption)]); exact vws_closed _ (by assumption))))) (fun p hp => ?_)
      refine ⟨fun h3 => ?_, fun h3 => ?_⟩
      · have h3 : p < 4 := by have := of_decide_eq_true h3; omega
        conv => whnf
        refine ⟨by decide, ?_⟩
        conv => whnf
        refine ⟨by decide, ?_⟩
        rw [half_nat h3, mod_nat h3]
        conv => whnf
        refine cast (frL_eq caps).symm ?_
        refine ACall.use4 hcl ho (hg i k (p / 2) (p % 2) h h2 (by omega) (by omega)) ?_
        conv => whnf
        refine ⟨by simp [room]; omega, ?_⟩
        conv => whnf
        rw [nat_wrap (by omega)]
        refine ⟨p + 1, none, ?_, by omega, by omega⟩
        (refine ⟨rfl, rfl, ?_, ?_⟩ <;> ((repeat' (first | exact trivial | exact rfl | refine And.intro ?_ ?_)) <;> (try ((conv => whnf); first | refine vint ?_ | refine vboo ?_ | refine rint ?_ | refine rrow ?_ | skip)) <;> (try first | omega | (simp; done) | ((repeat rw [flts_closed _ (by assumption)]); exact vws_closed _ (by assumption)))))
        rw [← map_range_succ]; rfl
      · have h3 : ¬ p < 4 := by have := of_decide_eq_false h3; omega
        obtain rfl : p = 4 := by omega
        conv => whnf
        refine ⟨by simp [room]; omega, ?_⟩
        conv => whnf
        rw [nat_wrap (by omega)]
        refine ⟨k + 1, none, ?_, by omega, by omega⟩
        (refine ⟨rfl, rfl, ?_, ?_⟩ <;> ((repeat' (first | exact trivial | exact rfl | refine And.intro ?_ ?_)) <;> (try ((conv => whnf); first | refine vint ?_ | refine vboo ?_ | refine rint ?_ | refine rrow ?_ | skip)) <;> (try first | omega | (simp; done) | ((repeat rw [flts_closed _ (by assumption)]); exact vws_closed _ (by assumption)))))
        rw [← boxTo_row]; rfl
    · have h2 := ltF h2
      obtain rfl : k = ny := by omega
      conv => whnf
      rw [nat_wrap (by omega)]
      refine ⟨i + 1, none, ?_, by omega, by omega⟩
      (refine ⟨rfl, rfl, ?_, ?_⟩ <;> ((repeat' (first | exact trivial | exact rfl | refine And.intro ?_ ?_)) <;> (try ((conv => whnf); first | refine vint ?_ | refine vboo ?_ | refine rint ?_ | refine rrow ?_ | skip)) <;> (try first | omega | (simp; done) | ((repeat rw [flts_closed _ (by assumption)]); exact vws_closed _ (by assumption)))))
      exact boxTo_end num k i
  · have h := ltF h
    obtain rfl : i = nx := by omega
    conv => whnf
    exact ⟨rfl, by rw [boxTo_all]⟩
end Go.Proofs.Ytkomndcehdneaaa
/- Whether the sum of the answers is odd: reference and program. -/
namespace Go.Proofs.Ytkomndcehdneaaa
open Go.Aw
set_option maxRecDepth 100000

/-- whether the sum of the answers is odd -/
def oddAt (k : Int) (x y : Nat) : Int := Int.tmod (W (W (W (W ((x : Int) * y) + W (bits .and .i64 (shr .i64 k 2) 1 * x)) + W (bits .and .i64 (shr .i64 k 1) 1 * y)) + bits .and .i64 k 1)) 2
def oddS (k : Int) (x y : Nat) : Int := Int.tmod (W (W (W (W ((x : Int) * y) + W (shr .i64 k 2 * x)) + W (bits .and .i64 (shr .i64 k 1) 1 * y)) + bits .and .i64 k 1)) 2
theorem odd_eq {k x y : Nat} (hk : k < 8) (hx : x < 2) (hy : y < 2) : oddS k x y = oddAt k x y := by
  have : ∀ k : Nat, k < 8 → ∀ x : Nat, x < 2 → ∀ y : Nat, y < 2 → oddS k x y = oddAt k x y := by decide +kernel
  exact this k hk x hx y hy

theorem differ_spec (k : Int) (x y : Nat) : FSpec Try.prog 248 [.c (.int .i64 k), .c (.int .i64 (x)), .c (.int .i64 (y))] (ex (.c (.int .i64 (oddAt k x y))) []) := by
  refine fspec tyOk mx Try.func248 rfl (by kernel_rfl) rfl ?_
  conv => whnf
  refine ⟨by decide, ?_⟩
  conv => whnf
  refine ⟨by decide, ?_⟩
  conv => whnf
  refine ⟨by decide, ?_⟩
  conv => whnf
  exact ⟨rfl, rfl⟩
theorem l6Odd_spec (k : Int) (x y : Nat) : FSpec Try.prog 250 [.c (.int .i64 k), .c (.int .i64 (x)), .c (.int .i64 (y))] (ex (.c (.int .i64 (oddS k x y))) []) := by
  refine fspec tyOk mx Try.func250 rfl (by kernel_rfl) rfl ?_
  conv => whnf
  refine ⟨by decide, ?_⟩
  conv => whnf
  refine ⟨by decide, ?_⟩
  conv => whnf
  refine ⟨by decide, ?_⟩
  conv => whnf
  exact ⟨rfl, rfl⟩

end Go.Proofs.Ytkomndcehdneaaa
/- Boxes compared. -/
namespace Go.Proofs.Ytkomndcehdneaaa
open Go.Aw
set_option maxRecDepth 100000
end Go.Proofs.Ytkomndcehdneaaa
/- Boxes as results: what holds their marks. -/
namespace Go.Aw
section
variable {P : Program}
/-- (Box, bool): Box{} where it is false -/
def nilOrBox (ok : Bool) (x y z : Int) (r : ARow) : AVal → List (Nat × ARow) → Prop := fun v h =>
  (ok = false ∧ v = .tu [.ag [.c (.int .i64 (0)), .c (.int .i64 (0)), .c (.int .i64 (0)), .c (.slice none 0 0)], .c (.bool false)] ∧ h = []) ∨ (ok = true ∧ v = .tu [.ag [.c (.int .i64 (x)), .c (.int .i64 (y)), .c (.int .i64 (z)), .own 0], .c (.bool true)] ∧ h = [(0, r)])

theorem view_box {f : FuncId} {args : List AVal} {ok : Bool} {x y z : Int} {e e1 : Nat} {m : List (List Int)} (h : FSpec P f args (nilOrBox ok x y z (.rows e e1 true m))) :
    FSpec P f args (ex (.tu [.ag [.c (.int .i64 (if ok then x else 0)), .c (.int .i64 (if ok then y else 0)), .c (.int .i64 (if ok then z else 0)), .own 0], .c (.bool ok)]) [(0, .rows e e1 true (if ok then m else []))]) := by
  refine FSpec.view h ?_
  rintro v hr (⟨rfl, rfl, rfl⟩ | ⟨rfl, rfl, rfl⟩)
  · exact ⟨[(0, .nil)], .tu [.ag [.c (.int .i64 (0)), .c (.int .i64 (0)), .c (.int .i64 (0)), .own 0], .c (.bool false)], [(0, .rows e e1 true [])], rfl, ⟨rfl, trivial, trivial⟩, ⟨⟨rfl, rfl, rfl, ⟨rfl, rfl, rfl⟩, trivial⟩, rfl, trivial⟩, rfl, rfl⟩
  · exact ⟨[(0, .row 0)], .tu [.ag [.c (.int .i64 (x)), .c (.int .i64 (y)), .c (.int .i64 (z)), .own 0], .c (.bool true)], [(0, .rows e e1 true m)], rfl, ⟨rfl, rfl, trivial⟩, ⟨⟨rfl, rfl, rfl, ⟨rfl, rfl⟩, trivial⟩, rfl, trivial⟩, rfl, rfl⟩
end
end Go.Aw
namespace Go.Proofs.Ytkomndcehdneaaa
open Go.Aw
set_option maxRecDepth 100000
end Go.Proofs.Ytkomndcehdneaaa
/- EqualSumBox, program and reference. -/
namespace Go.Proofs.Ytkomndcehdneaaa
open Go.Aw
set_option maxRecDepth 100000

def eqNum (k : Int) (x y a b : Nat) : Int := W (1 - bits .xor .i64 (bits .xor .i64 a b) (oddAt k x y))
def equalM (k : Int) : List (List Int) := boxRows (eqNum k) 2 2
def oddRow (k : Int) (x y : Nat) : List Int := [W (1 - oddS k x y), oddS k x y, oddS k x y, W (1 - oddS k x y)]

theorem eq_rows (k : Nat) (hk : k < 8) : ∀ x y : Nat, x < 2 → y < 2 → oddRow k x y = boxRow (eqNum k) x y := by
  have : ∀ k : Nat, k < 8 → ∀ x : Nat, x < 2 → ∀ y : Nat, y < 2 → oddRow k x y = boxRow (eqNum k) x y := by decide +kernel
  exact fun x y hx hy => this k hk x hx y hy

theorem equalNum_spec (k : Int) (x y a b : Nat) : FSpec Try.prog 247 [.c (.int .i64 (x)), .c (.int .i64 (y)), .c (.int .i64 (a)), .c (.int .i64 (b)), .rp [.c (.int .i64 k)] 0] (ex (.c (.int .i64 (eqNum k x y a b))) []) := by
  refine fspec tyOk mx Try.func247 rfl (by kernel_rfl) rfl ?_
  conv => whnf
  refine ACall.use (differ_spec k x y) ?_
  conv => whnf
  exact ⟨rfl, rfl⟩

theorem equalSum_spec (k : Int) : FSpec Try.prog 183 [.c (.int .i64 k)] (ex (.ag [.c (.int .i64 (2)), .c (.int .i64 (2)), .c (.int .i64 (2)), .own 0]) [(0, .rows 25 3 true (equalM k))]) := by
  refine fspec tyOk mx Try.func183 rfl (by kernel_rfl) rfl ?_
  conv => whnf
  refine ACall.use (newBox_spec 2 2 2 _ [.rp [.c (.int .i64 k)] 0] (eqNum k) (by omega) (by omega) (fun _ _ => rfl) rfl (fun i k' a b _ _ _ _ => equalNum_spec k i k' a b)) ?_
  conv => whnf
  exact ⟨rfl, rfl⟩

theorem oddRow_len (k : Int) (x y : Nat) : (oddRow k x y).length = 4 := rfl
theorem l6Sum_spec (k : Nat) (hk : k < 8) : FSpec Try.prog 187 [.c (.int .i64 (k))] (ex (.ag [.c (.int .i64 (2)), .c (.int .i64 (2)), .c (.int .i64 (2)), .own 0]) [(0, .rows 25 3 true (equalM k))]) := by
  refine fspec tyOk mx Try.func187 rfl (by kernel_rfl) rfl ?_
  conv => whnf
  refine aloopI tyOk mx (fun x : Nat => (⟨34, [(0, .c (.int .i64 (k))), (2, .ptr 0 0), (3, .ptr 2 0), (4, .c (.int .i64 (x)))], [(0, .cells 53 [.c (.int .i64 (0)), .c (.int .i64 (0)), .c (.int .i64 (0)), .c (.slice none 0 0)]), (1, .rows 25 3 true (boxTo (eqNum k) 2 x 0)), (2, .cells 53 [.c (.int .i64 (2)), .c (.int .i64 (2)), .c (.int .i64 (2)), .own 1])], 3⟩ : St)) (fun x => x ≤ 2) (fun x => 2 - x) 0 (by omega) none (by refine ⟨rfl, rfl, ?_, ?_⟩ <;> ((repeat' (first | exact trivial | exact rfl | refine And.intro ?_ ?_)) <;> (try ((conv => whnf); first | refine vint ?_ | refine vboo ?_ | refine rint ?_ | refine rrow ?_ | skip)) <;> (try first | omega | (simp; done) | ((repeat rw [flts_closed _ (by assumption)]); exact vws_closed _ (by assumption))))) (fun x hx => ?_)
  refine ⟨fun h => ?_, fun h => ?_⟩
  · have h : x < 2 := by have := of_decide_eq_true h; omega
    conv => whnf
    refine aloopI tyOk mx (fun y : Nat => (⟨34, [(0, .c (.int .i64 (k))), (2, .ptr 0 0), (3, .ptr 2 0), (4, .c (.int .i64 (x))), (5, .c (.int .i64 (y)))], [(0, .cells 53 [.c (.int .i64 (0)), .c (.int .i64 (0)), .c (.int .i64 (0)), .c (.slice none 0 0)]), (1, .rows 25 3 true (boxTo (eqNum k) 2 x y)), (2, .cells 53 [.c (.int .i64 (2)), .c (.int .i64 (2)), .c (.int .i64 (2)), .own 1])], 3⟩ : St)) (fun y => y ≤ 2) (fun y => 2 - y) 0 (by omega) none (by refine ⟨rfl, rfl, ?_, ?_⟩ <;> ((repeat' (first | exact trivial | exact rfl | refine And.intro ?_ ?_)) <;> (try ((conv => whnf); first | refine vint ?_ | refine vboo ?_ | refine rint ?_ | refine rrow ?_ | skip)) <;> (try first | omega | (simp; done) | ((repeat rw [flts_closed _ (by assumption)]); exact vws_closed _ (by assumption))))) (fun y hy => ?_)
    have hlen := boxTo_len (eqNum k) 2 x y
    refine ⟨fun h2 => ?_, fun h2 => ?_⟩
    · have h2 : y < 2 := by have := of_decide_eq_true h2; omega
      conv => whnf
      refine ACall.use (l6Odd_spec k x y) ?_
      conv => whnf
      refine ⟨by simp [room]; omega, ?_⟩
      conv => whnf
      rw [nat_wrap (by omega)]
      refine ⟨y + 1, none, ?_, by omega, by omega⟩
      (refine ⟨rfl, rfl, ?_, ?_⟩ <;> ((repeat' (first | exact trivial | exact rfl | refine And.intro ?_ ?_)) <;> (try ((conv => whnf); first | refine vint ?_ | refine vboo ?_ | refine rint ?_ | refine rrow ?_ | skip)) <;> (try first | omega | (simp; done) | ((repeat rw [flts_closed _ (by assumption)]); exact vws_closed _ (by assumption)))))
      rw [← boxTo_row, ← eq_rows k hk x y h h2]; rfl
    · have h2 : ¬ y < 2 := by have := of_decide_eq_false h2; omega
      obtain rfl : y = 2 := by omega
      conv => whnf
      rw [nat_wrap (by omega)]
      refine ⟨x + 1, none, ?_, by omega, by omega⟩
      (refine ⟨rfl, rfl, ?_, ?_⟩ <;> ((repeat' (first | exact trivial | exact rfl | refine And.intro ?_ ?_)) <;> (try ((conv => whnf); first | refine vint ?_ | refine vboo ?_ | refine rint ?_ | refine rrow ?_ | skip)) <;> (try first | omega | (simp; done) | ((repeat rw [flts_closed _ (by assumption)]); exact vws_closed _ (by assumption)))))
      exact boxTo_end (eqNum k) 2 x
  · have h : ¬ x < 2 := by have := of_decide_eq_false h; omega
    obtain rfl : x = 2 := by omega
    conv => whnf
    exact ⟨rfl, by rw [boxTo_all]; rfl⟩

def eqOk (k : Int) : Bool := inR k 0 7
def eqRes (k : Int) : List (List Int) := if eqOk k then equalM k else []

theorem EqualSumBox_s (k : Int) (_hk : InR k) : FSpec Try.prog 100 [.c (.int .i64 (k))] (ex (.tu [.ag [.c (.int .i64 (if eqOk k then 2 else 0)), .c (.int .i64 (if eqOk k then 2 else 0)), .c (.int .i64 (if eqOk k then 2 else 0)), .own 0], .c (.bool (eqOk k))]) [(0, .rows 25 3 true (eqRes k))]) := by
  refine view_box ?_
  refine fspec tyOk mx Try.func100 rfl (by kernel_rfl) rfl ?_
  conv => whnf
  refine ACallS.inline tyOk mx Try.func191 rfl (by kernel_rfl) rfl ?_
  conv => whnf
  refine ACall.use (l1In_spec _ _ _) ?_
  conv => whnf
  refine ⟨rfl, ?_⟩
  conv => whnf
  refine ⟨fun h => ?_, fun h => ?_⟩
  · have h : eqOk k = false := by simpa [eqOk] using h
    conv => whnf
    exact .inl ⟨h, rfl, rfl⟩
  · have h : eqOk k = true := by simpa [eqOk] using h
    have h' := h
    simp only [eqOk, inR, decide_eq_true_eq] at h'
    obtain ⟨n, rfl⟩ : ∃ n : Nat, k = n := ⟨k.toNat, by omega⟩
    conv => whnf
    refine ACall.use (l6Sum_spec n (by omega)) ?_
    conv => whnf
    exact .inr ⟨h, rfl, rfl⟩

theorem EqualSumBox_i (k : Int) (_hk : InR k) : FSpec Try.prog 99 [.c (.int .i64 (k))] (ex (.tu [.ag [.c (.int .i64 (if eqOk k then 2 else 0)), .c (.int .i64 (if eqOk k then 2 else 0)), .c (.int .i64 (if eqOk k then 2 else 0)), .own 0], .c (.bool (eqOk k))]) [(0, .rows 25 3 true (eqRes k))]) := by
  refine view_box ?_
  refine fspec tyOk mx Try.func99 rfl (by kernel_rfl) rfl ?_
  conv => whnf
  refine ACall.use (within_spec _ _ _) ?_
  refine ⟨fun h => ?_, fun h => ?_⟩
  · have h : eqOk k = false := by simpa [eqOk] using h
    conv => whnf
    exact .inl ⟨h, rfl, rfl⟩
  · have h : eqOk k = true := by simpa [eqOk] using h
    conv => whnf
    refine ACall.use (equalSum_spec k) ?_
    conv => whnf
    exact .inr ⟨h, rfl, rfl⟩

theorem EqualSumBox_bd (k : Int) (_hk : InR k) : (eqRes k).length ≤ 1000000 ∧ tot (eqRes k) ≤ 1000000 := by
  unfold eqRes
  split
  · have h1 : (equalM k).length = 4 := boxRows_len _ 2 2
    have h2 := tot_le_mul (m := equalM k) (n := 4) (fun q hq => by
      obtain ⟨i, _, hq⟩ := List.mem_flatMap.1 hq
      obtain ⟨j, _, rfl⟩ := List.mem_map.1 hq
      simp [boxRow])
    omega
  · simp [tot]
end Go.Proofs.Ytkomndcehdneaaa
/- Lists of bits, of the reference. -/
namespace Go.Proofs.Ytkomndcehdneaaa
open Go.Aw
set_option maxRecDepth 100000
theorem l2Bits_spec (l : List Int) (n : Int) (hl : l.length ≤ 9223372036854775806) :
    FSpec Try.prog 209 [.t (.ints .i64 l), .c (.int .i64 n)] (ex (.c (.bool (rowIn l 0 1 && decide ((l.length : Int) = n)))) []) := by
  refine fspec tyOk mx Try.func209 rfl (by kernel_rfl) rfl ?_
  conv => whnf
  refine aloopI tyOk mx (fun k : Nat => (⟨22, [(0, .t (.ints .i64 l)), (1, .c (.int .i64 n)), (5, .c (.int .i64 (k)))], [], 0⟩ : St)) (fun k => k ≤ l.length ∧ (l.take k).all (fun x => inR x 0 1) = true) (fun k => l.length - k) 0 ⟨by omega, rfl⟩ none (by refine ⟨rfl, rfl, ?_, ?_⟩ <;> ((repeat' (first | exact trivial | exact rfl | refine And.intro ?_ ?_)) <;> (try ((conv => whnf); first | refine vint ?_ | refine vboo ?_ | refine rint ?_ | refine rrow ?_ | skip)) <;> (try first | omega | (simp; done) | ((repeat rw [flts_closed _ (by assumption)]); exact vws_closed _ (by assumption))))) (fun k hI => ?_)
  obtain ⟨hk, hp⟩ := hI
  refine ⟨fun h => ?_, fun h => ?_⟩
  · have h := ltT h
    conv => whnf
    refine ⟨k, rfl, h, ?_⟩
    conv => whnf
    refine ACall.use (l1In_spec _ _ _) ?_
    refine ⟨fun h2 => ?_, fun h2 => ?_⟩
    · conv => whnf
      refine ⟨?_, rfl⟩
      rw [rowIn, all_false (d := 0) h (by simpa using h2)]
      rfl
    · conv => whnf
      rw [nat_wrap (by omega)]
      exact ⟨k + 1, none, (by refine ⟨rfl, rfl, ?_, ?_⟩ <;> ((repeat' (first | exact trivial | exact rfl | refine And.intro ?_ ?_)) <;> (try ((conv => whnf); first | refine vint ?_ | refine vboo ?_ | refine rint ?_ | refine rrow ?_ | skip)) <;> (try first | omega | (simp; done) | ((repeat rw [flts_closed _ (by assumption)]); exact vws_closed _ (by assumption))))), ⟨by omega, all_take_succ (d := 0) h hp (by simpa using h2)⟩, by omega⟩
  · have h := ltF h
    conv => whnf
    refine ⟨?_, rfl⟩
    rw [rowIn, all_end h hp, Bool.true_and]
    rfl
end Go.Proofs.Ytkomndcehdneaaa
/- Numbers of questions; sums of lists. -/
namespace Go.Aw
def sumF (l : List Int) (n : Nat) : Int := fo (fun s i => W (s + l.getD i 0)) 0 n
theorem sumF_succ (l : List Int) (n : Nat) : sumF l (n + 1) = W (sumF l n + l.getD n 0) := rfl
theorem sumF_bd {l : List Int} (h : ∀ x, x ∈ l → 0 ≤ x ∧ x ≤ 99) (hl : l.length ≤ 1000) : ∀ n, n ≤ l.length → 0 ≤ sumF l n ∧ sumF l n ≤ 99 * n
  | 0, _ => by simp [sumF, fo]
  | n + 1, hn => by
    have h1 := sumF_bd h hl n (by omega)
    have h2 := h (l.getD n 0) (by rw [List.getD_eq_getElem?_getD, List.getElem?_eq_getElem (by omega)]; exact List.getElem_mem _)
    have e : W (sumF l n + l.getD n 0) = sumF l n + l.getD n 0 := w64 (by omega) (by omega)
    rw [sumF_succ, e]
    omega
end Go.Aw
namespace Go.Proofs.Ytkomndcehdneaaa
open Go.Aw
set_option maxRecDepth 100000
set_option maxHeartbeats 4000000

theorem inR_iff {x a b : Int} : inR x a b = true ↔ a ≤ x ∧ x ≤ b := by simp [inR]
theorem rowIn_iff {l : List Int} {a b : Int} : rowIn l a b = true ↔ ∀ x, x ∈ l → a ≤ x ∧ x ≤ b := by simp [rowIn, inR]
def szOk (x y : Int) : Bool := inR x 1 3 && inR y 1 3
theorem szOk_nat {x y : Int} (h : szOk x y = true) : ∃ a b : Nat, x = a ∧ y = b ∧ 1 ≤ a ∧ a ≤ 3 ∧ 1 ≤ b ∧ b ≤ 3 ∧ x * y = ((a * b : Nat) : Int) ∧ a * b ≤ 9 := by
  simp only [szOk, Bool.and_eq_true, inR_iff] at h
  obtain ⟨⟨h1, h2⟩, h3, h4⟩ := h
  obtain ⟨a, rfl⟩ : ∃ n : Nat, x = n := ⟨x.toNat, by omega⟩
  obtain ⟨b, rfl⟩ : ∃ n : Nat, y = n := ⟨y.toNat, by omega⟩
  have : a * b ≤ 3 * 3 := Nat.mul_le_mul (by omega) (by omega)
  exact ⟨a, b, rfl, rfl, by omega, by omega, by omega, by omega, by simp, this⟩
theorem szOk_mul {x y : Int} (h : szOk x y = true) : IntKind.i64.wrap (x * y) = x * y := by
  obtain ⟨a, b, rfl, rfl, _, _, _, _, h5, h6⟩ := szOk_nat h
  rw [h5, w64 (by omega) (by omega)]

theorem l2Sizes_spec (x y : Int) : FSpec Try.prog 148 [.c (.int .i64 x), .c (.int .i64 y)] (ex (.c (.bool (szOk x y))) []) := by
  refine fspec tyOk mx Try.func148 rfl (by kernel_rfl) rfl ?_
  conv => whnf
  refine ACall.use (l1In_spec _ _ _) ?_
  conv => whnf
  refine ⟨fun h => ?_, fun h => ?_⟩
  · conv => whnf
    refine ACall.use (l1In_spec _ _ _) ?_
    conv => whnf
    exact ⟨by rw [szOk, h, Bool.true_and], rfl⟩
  · conv => whnf
    exact ⟨by rw [szOk, h, Bool.false_and], rfl⟩
theorem areQuestions_spec (x y : Int) : FSpec Try.prog 147 [.c (.int .i64 x), .c (.int .i64 y)] (ex (.c (.bool (szOk x y))) []) := by
  refine fspec tyOk mx Try.func147 rfl (by kernel_rfl) rfl ?_
  conv => whnf
  refine ACall.use (within_spec _ _ _) ?_
  conv => whnf
  refine ⟨fun h => ?_, fun h => ?_⟩
  · conv => whnf
    refine ACall.use (within_spec _ _ _) ?_
    conv => whnf
    exact ⟨by rw [szOk, h, Bool.true_and], rfl⟩
  · conv => whnf
    exact ⟨by rw [szOk, h, Bool.false_and], rfl⟩

theorem total_spec (l : List Int) (hl : l.length ≤ 1048576) : FSpec Try.prog 212 [.t (.ints .i64 l)] (ex (.c (.int .i64 (sumF l l.length))) []) := by
  refine fspec tyOk mx Try.func212 rfl (by kernel_rfl) rfl ?_
  conv => whnf
  refine aloopI tyOk mx (fun k : Nat => (⟨17, [(3, .c (.int .i64 (sumF l k))), (6, .t (.ints .i64 l)), (7, .c (.int .i64 l.length)), (8, .c (.int .i64 (k)))], [], 0⟩ : St)) (fun k => k ≤ l.length) (fun k => l.length - k) 0 (Nat.zero_le _) none (by refine ⟨rfl, rfl, ?_, ?_⟩ <;> ((repeat' (first | exact trivial | exact rfl | refine And.intro ?_ ?_)) <;> (try ((conv => whnf); first | refine vint ?_ | refine vboo ?_ | refine rint ?_ | refine rrow ?_ | skip)) <;> (try first | omega | (simp; done) | ((repeat rw [flts_closed _ (by assumption)]); exact vws_closed _ (by assumption))))) (fun k hk => ?_)
  refine ⟨fun h => ?_, fun h => ?_⟩
  · have h := ltT h
    conv => whnf
    refine ⟨k, rfl, h, ?_⟩
    conv => whnf
    rw [nat_wrap (by omega)]
    exact ⟨k + 1, none, (by refine ⟨rfl, rfl, ?_, ?_⟩ <;> ((repeat' (first | exact trivial | exact rfl | refine And.intro ?_ ?_)) <;> (try ((conv => whnf); first | refine vint ?_ | refine vboo ?_ | refine rint ?_ | refine rrow ?_ | skip)) <;> (try first | omega | (simp; done) | ((repeat rw [flts_closed _ (by assumption)]); exact vws_closed _ (by assumption))))), by omega, by omega⟩
  · have h := ltF h
    obtain rfl : k = l.length := by omega
    conv => whnf
    exact ⟨rfl, rfl⟩

end Go.Proofs.Ytkomndcehdneaaa
/- All plays: reference and program. -/
namespace Go.Aw
def bIx (sc : Nat → Int) : Nat → Nat
  | 0 => 0
  | k + 1 => if sc (k + 1) > sc (bIx sc k) then k + 1 else bIx sc k
theorem bIx_le (sc : Nat → Int) : ∀ k, bIx sc k ≤ k
  | 0 => Nat.le_refl _
  | k + 1 => by have := bIx_le sc k; unfold bIx; split <;> omega
theorem natAdd {a k : Nat} (h : a + k ≤ 1000000) : IntKind.i64.wrap ((a : Int) + (k : Int)) = ((a + k : Nat) : Int) := by rw [w64 (by omega) (by omega)]; omega
theorem natMulAdd {i n k : Nat} (h : i * n + k ≤ 1000000) : IntKind.i64.wrap (IntKind.i64.wrap ((i : Int) * (n : Int)) + (k : Int)) = ((i * n + k : Nat) : Int) := by
  have e : (i : Int) * (n : Int) = ((i * n : Nat) : Int) := by simp
  rw [e, w64 (n := ((i * n : Nat) : Int)) (by omega) (by omega), w64 (by omega) (by omega)]; omega
theorem ix_lt {i k nx ny : Nat} (hi : i < nx) (hk : k < ny) : i * ny + k < nx * ny := by
  have : (i + 1) * ny ≤ nx * ny := Nat.mul_le_mul_right ny hi
  rw [Nat.succ_mul] at this
  omega
def bitAt (n code i : Nat) : Int := bits .and .i64 (shr .i64 code ((n : Int) - 1 - i)) 1
def bitRow (n code : Nat) : List Int := (List.range n).map (bitAt n code)
def playsL (n : Nat) : List (List Int) := (List.range (2 ^ n)).map (bitRow n)
theorem bitAt_01 {n c i : Nat} (hn : n < 7) (hc : c < 64) (hi : i < 6) : 0 ≤ bitAt n c i ∧ bitAt n c i ≤ 1 := by
  have : ∀ n : Nat, n < 7 → ∀ c : Nat, c < 64 → ∀ i : Nat, i < 6 → 0 ≤ bitAt n c i ∧ bitAt n c i ≤ 1 := by decide +kernel
  exact this n hn c hc i hi
theorem playsL_len (n : Nat) : (playsL n).length = 2 ^ n := by simp [playsL]
theorem two_pow6 {n : Nat} (h : n ≤ 6) : 2 ^ n ≤ 64 := by
  have := Nat.pow_le_pow_right (n := 2) (by omega) h
  simpa using this
theorem playsL_row {n x : Nat} (hn : n ≤ 6) (h : x < (playsL n).length) : ((playsL n).getD x []).length = n ∧ ∀ v, v ∈ (playsL n).getD x [] → 0 ≤ v ∧ v ≤ 1 := by
  rw [playsL_len] at h
  have h64 := two_pow6 hn
  rw [playsL, range_getD h]
  refine ⟨by simp [bitRow], fun v hv => ?_⟩
  obtain ⟨i, hi, rfl⟩ := List.mem_map.1 hv
  have hi := List.mem_range.1 hi
  exact bitAt_01 (by omega) (by omega) (by omega)
end Go.Aw
namespace Go.Proofs.Ytkomndcehdneaaa
open Go.Aw
set_option maxRecDepth 100000
set_option maxHeartbeats 4000000

theorem l2Plays_spec (nx ny : Nat) (hx : nx + ny ≤ 6) : FSpec Try.prog 144 [.c (.int .i64 (nx)), .c (.int .i64 (ny))] (ex (.own 0) [(0, .rows 25 3 true (playsL (nx + ny)))]) := by
  have h2 := two_pow6 hx
  refine fspec tyOk mx Try.func144 rfl (by kernel_rfl) rfl ?_
  conv => whnf
  refine aloopI tyOk mx (fun c : Nat => (⟨43, [(0, .c (.int .i64 (nx))), (1, .c (.int .i64 (ny))), (5, .own 0), (6, .c (.int .i64 (c)))], [(0, .rows 25 3 true ((List.range c).map (bitRow (nx + ny))))], 1⟩ : St)) (fun c => c ≤ 2 ^ (nx + ny)) (fun c => 2 ^ (nx + ny) - c) 0 (Nat.zero_le _) none (by refine ⟨rfl, rfl, ?_, ?_⟩ <;> ((repeat' (first | exact trivial | exact rfl | refine And.intro ?_ ?_)) <;> (try ((conv => whnf); first | refine vint ?_ | refine vboo ?_ | refine rint ?_ | refine rrow ?_ | skip)) <;> (try first | omega | (simp; done) | ((repeat rw [flts_closed _ (by assumption)]); exact vws_closed _ (by assumption))))) (fun c hc => ?_)
  conv => whnf
  rw [natAdd (by omega)]
  refine ⟨by omega, fun h => ?_, fun h => ?_⟩
  · rw [shl_one (by omega)] at h
    have hc1 : c < 2 ^ (nx + ny) := Int.ofNat_lt.1 (of_decide_eq_true h)
    conv => whnf
    refine aloopI tyOk mx (fun i : Nat => (⟨43, [(0, .c (.int .i64 (nx))), (1, .c (.int .i64 (ny))), (5, .own 0), (6, .c (.int .i64 (c))), (7, .own 1), (8, .c (.int .i64 (i)))], [(0, .rows 25 3 true ((List.range c).map (bitRow (nx + ny)))), (1, .ints 3 .i64 ((List.range i).map (bitAt (nx + ny) c)))], 2⟩ : St)) (fun i => i ≤ nx + ny) (fun i => nx + ny - i) 0 (by omega) none (by refine ⟨rfl, rfl, ?_, ?_⟩ <;> ((repeat' (first | exact trivial | exact rfl | refine And.intro ?_ ?_)) <;> (try ((conv => whnf); first | refine vint ?_ | refine vboo ?_ | refine rint ?_ | refine rrow ?_ | skip)) <;> (try first | omega | (simp; done) | ((repeat rw [flts_closed _ (by assumption)]); exact vws_closed _ (by assumption))))) (fun i hi => ?_)
    refine ⟨fun h => ?_, fun h => ?_⟩
    · rw [natAdd (by omega)] at h
      have hi1 : i < nx + ny := ltT h
      have e1 : IntKind.i64.wrap (IntKind.i64.wrap (IntKind.i64.wrap ((nx : Int) + ny) - 1) - i) = ((nx + ny : Nat) : Int) - 1 - i := by rw [natAdd (by omega), w64 (n := ((nx + ny : Nat) : Int) - 1) (by omega) (by omega), w64 (by omega) (by omega)]
      conv => whnf
      rw [e1]
      refine ⟨by omega, ?_⟩
      conv => whnf
      refine ⟨by simp [room]; omega, ?_⟩
      conv => whnf
      rw [nat_wrap (by omega)]
      refine ⟨i + 1, none, ?_, hi1, by omega⟩
      (refine ⟨rfl, rfl, ?_, ?_⟩ <;> ((repeat' (first | exact trivial | exact rfl | refine And.intro ?_ ?_)) <;> (try ((conv => whnf); first | refine vint ?_ | refine vboo ?_ | refine rint ?_ | refine rrow ?_ | skip)) <;> (try first | omega | (simp; done) | ((repeat rw [flts_closed _ (by assumption)]); exact vws_closed _ (by assumption)))))
      rw [← map_range_succ]; rfl
    · rw [natAdd (by omega)] at h
      have hi1 : ¬ i < nx + ny := ltF h
      obtain rfl : i = nx + ny := by omega
      conv => whnf
      refine ⟨by simp [room]; omega, ?_⟩
      conv => whnf
      rw [nat_wrap (by omega)]
      refine ⟨c + 1, none, ?_, hc1, by omega⟩
      (refine ⟨rfl, rfl, ?_, ?_⟩ <;> ((repeat' (first | exact trivial | exact rfl | refine And.intro ?_ ?_)) <;> (try ((conv => whnf); first | refine vint ?_ | refine vboo ?_ | refine rint ?_ | refine rrow ?_ | skip)) <;> (try first | omega | (simp; done) | ((repeat rw [flts_closed _ (by assumption)]); exact vws_closed _ (by assumption)))))
      rw [← map_range_succ]; rfl
  · rw [shl_one (by omega)] at h
    have hc1 : 2 ^ (nx + ny) ≤ c := Nat.not_lt.1 fun hh => of_decide_eq_false h (Int.ofNat_lt.2 hh)
    obtain rfl : c = 2 ^ (nx + ny) := by omega
    conv => whnf
    exact ⟨rfl, rfl⟩

theorem plays_spec (nx ny : Nat) (hx : nx + ny ≤ 6) : FSpec Try.prog 142 [.c (.int .i64 (nx)), .c (.int .i64 (ny))] (ex (.own 0) [(0, .rows 25 3 true (playsL (nx + ny)))]) := by
  have h2 := two_pow6 hx
  refine fspec tyOk mx Try.func142 rfl (by kernel_rfl) rfl ?_
  conv => whnf
  rw [natAdd (by omega)]
  refine ⟨by omega, ?_⟩
  rw [shl_one (by omega)]
  conv => whnf
  refine aloopI tyOk mx (fun c : Nat => (⟨43, [(0, .c (.int .i64 (nx))), (1, .c (.int .i64 (ny))), (5, .own 0), (13, .c (.int .i64 ((2 ^ (nx + ny) : Nat)))), (14, .c (.int .i64 (c)))], [(0, .rows 25 3 true ((List.range c).map (bitRow (nx + ny))))], 1⟩ : St)) (fun c => c ≤ 2 ^ (nx + ny)) (fun c => 2 ^ (nx + ny) - c) 0 (Nat.zero_le _) none (by refine ⟨rfl, rfl, ?_, ?_⟩ <;> ((repeat' (first | exact trivial | exact rfl | refine And.intro ?_ ?_)) <;> (try ((conv => whnf); first | refine vint ?_ | refine vboo ?_ | refine rint ?_ | refine rrow ?_ | skip)) <;> (try first | omega | (simp; done) | ((repeat rw [flts_closed _ (by assumption)]); exact vws_closed _ (by assumption))))) (fun c hc => ?_)
  refine ⟨fun h => ?_, fun h => ?_⟩
  · have hc1 : c < 2 ^ (nx + ny) := Int.ofNat_lt.1 (of_decide_eq_true h)
    conv => whnf
    rw [natAdd (by omega)]
    refine aloopI tyOk mx (fun i : Nat => (⟨43, [(0, .c (.int .i64 (nx))), (1, .c (.int .i64 (ny))), (5, .own 0), (6, .c (.int .i64 (c))), (7, .own 1), (13, .c (.int .i64 ((2 ^ (nx + ny) : Nat)))), (14, .c (.int .i64 (c))), (20, .c (.int .i64 ((nx + ny : Nat)))), (21, .c (.int .i64 (i)))], [(0, .rows 25 3 true ((List.range c).map (bitRow (nx + ny)))), (1, .ints 3 .i64 ((List.range i).map (bitAt (nx + ny) c)))], 2⟩ : St)) (fun i => i ≤ nx + ny) (fun i => nx + ny - i) 0 (by omega) none (by refine ⟨rfl, rfl, ?_, ?_⟩ <;> ((repeat' (first | exact trivial | exact rfl | refine And.intro ?_ ?_)) <;> (try ((conv => whnf); first | refine vint ?_ | refine vboo ?_ | refine rint ?_ | refine rrow ?_ | skip)) <;> (try first | omega | (simp; done) | ((repeat rw [flts_closed _ (by assumption)]); exact vws_closed _ (by assumption))))) (fun i hi => ?_)
    refine ⟨fun h => ?_, fun h => ?_⟩
    · have hi1 : i < nx + ny := ltT h
      have e1 : IntKind.i64.wrap (IntKind.i64.wrap (IntKind.i64.wrap ((nx : Int) + ny) - 1) - i) = ((nx + ny : Nat) : Int) - 1 - i := by rw [natAdd (by omega), w64 (n := ((nx + ny : Nat) : Int) - 1) (by omega) (by omega), w64 (by omega) (by omega)]
      conv => whnf
      rw [e1]
      refine ⟨by omega, ?_⟩
      conv => whnf
      refine ⟨by simp [room]; omega, ?_⟩
      conv => whnf
      rw [nat_wrap (by omega)]
      refine ⟨i + 1, none, ?_, hi1, by omega⟩
      (refine ⟨rfl, rfl, ?_, ?_⟩ <;> ((repeat' (first | exact trivial | exact rfl | refine And.intro ?_ ?_)) <;> (try ((conv => whnf); first | refine vint ?_ | refine vboo ?_ | refine rint ?_ | refine rrow ?_ | skip)) <;> (try first | omega | (simp; done) | ((repeat rw [flts_closed _ (by assumption)]); exact vws_closed _ (by assumption)))))
      rw [← map_range_succ]; rfl
    · have hi1 : ¬ i < nx + ny := ltF h
      obtain rfl : i = nx + ny := by omega
      conv => whnf
      refine ⟨by simp [room]; omega, ?_⟩
      conv => whnf
      rw [nat_wrap (by omega)]
      refine ⟨c + 1, none, ?_, hc1, by omega⟩
      (refine ⟨rfl, rfl, ?_, ?_⟩ <;> ((repeat' (first | exact trivial | exact rfl | refine And.intro ?_ ?_)) <;> (try ((conv => whnf); first | refine vint ?_ | refine vboo ?_ | refine rint ?_ | refine rrow ?_ | skip)) <;> (try first | omega | (simp; done) | ((repeat rw [flts_closed _ (by assumption)]); exact vws_closed _ (by assumption)))))
      rw [← map_range_succ]; rfl
  · have hc1 : 2 ^ (nx + ny) ≤ c := Nat.not_lt.1 fun hh => of_decide_eq_false h (Int.ofNat_lt.2 hh)
    obtain rfl : c = 2 ^ (nx + ny) := by omega
    conv => whnf
    exact ⟨rfl, rfl⟩
end Go.Proofs.Ytkomndcehdneaaa
/- Extreme boxes: the boxes of plays, reference and program. -/
namespace Go.Aw
def pbNum (play : List Int) (w : Int) (x y a b : Nat) : Int := if play.getD x 0 = a ∧ play.getD (2 + y) 0 = b then w else 0
def pbM (play : List Int) (w : Int) : List (List Int) := boxRows (pbNum play w) 2 2
theorem pb_row {play : List Int} {w : Int} {i k p q : Nat} (hp : play.getD i 0 = p) (hq : play.getD (2 + k) 0 = q) (h1 : p < 2) (h2 : q < 2) : (List.replicate 4 (0 : Int)).set (2 * p + q) w = boxRow (pbNum play w) i k := by
  unfold boxRow pbNum
  rw [hp, hq]
  have h1 : p = 0 ∨ p = 1 := by omega
  have h2 : q = 0 ∨ q = 1 := by omega
  rcases h1 with rfl | rfl <;> rcases h2 with rfl | rfl <;> rfl
theorem FSpec.told {P : Program} {f : FuncId} {args : List AVal} {x x' : AVal} {h : List (Nat × ARow)} (hs : FSpec P f args (ex x h)) (hv : vw h [] 0 x x') : FSpec P f args (ex x' []) :=
  hs.view (fun y hr e => by obtain ⟨rfl, rfl⟩ := e; exact ⟨[], x', [], rfl, trivial, hv, rfl, rfl⟩)
end Go.Aw
namespace Go.Proofs.Ytkomndcehdneaaa
open Go.Aw
set_option maxRecDepth 100000
set_option maxHeartbeats 4000000

theorem pbNum_spec (play : List Int) (hl : play.length = 4) (w : Int) (i k a b : Nat) (hi : i < 2) (hk : k < 2) :
    FSpec Try.prog 245 [.c (.int .i64 (i)), .c (.int .i64 (k)), .c (.int .i64 (a)), .c (.int .i64 (b)), .rp [.t (.ints .i64 play)] 0, .rp [.c (.int .i64 (2))] 0, .rp [.c (.int .i64 (w))] 0] (ex (.c (.int .i64 (pbNum play w i k a b))) []) := by
  have e : IntKind.i64.wrap ((2 : Int) + (k : Int)) = ((2 + k : Nat) : Int) := by rw [w64 (by omega) (by omega)]; omega
  refine fspec tyOk mx Try.func245 rfl (by kernel_rfl) rfl ?_
  conv => whnf
  refine ⟨i, rfl, by omega, ?_⟩
  conv => whnf
  refine ⟨fun h => ?_, fun h => ?_⟩
  · have h : play.getD i 0 = a := by simpa using h
    conv => whnf
    refine ⟨2 + k, e, by omega, ?_⟩
    conv => whnf
    refine ⟨fun h2 => ?_, fun h2 => ?_⟩
    · have h2 : play.getD (2 + k) 0 = b := by simpa using h2
      conv => whnf
      exact ⟨by rw [pbNum, if_pos ⟨h, h2⟩], rfl⟩
    · have h2 : ¬ play.getD (2 + k) 0 = b := by simpa using h2
      conv => whnf
      exact ⟨by rw [pbNum, if_neg (fun c => h2 c.2)], rfl⟩
  · have h : ¬ play.getD i 0 = a := by simpa using h
    conv => whnf
    (repeat (conv => whnf); (first | refine ⟨fun h => absurd h (by decide), fun _ => ?_⟩ | refine ⟨fun _ => ?_, fun h => absurd h (by decide)⟩)); conv => whnf
    exact ⟨by rw [pbNum, if_neg (fun c => h c.1)], rfl⟩

theorem playBox_spec (play : List Int) (hl : play.length = 4) (w : Int) :
    FSpec Try.prog 180 [.c (.int .i64 (2)), .c (.int .i64 (2)), .t (.ints .i64 play), .c (.int .i64 (w))] (ex (.ag [.c (.int .i64 (2)), .c (.int .i64 (2)), .c (.int .i64 (w)), .own 0]) [(0, .rows 25 3 true (pbM play w))]) := by
  refine fspec tyOk mx Try.func180 rfl (by kernel_rfl) rfl ?_
  conv => whnf
  refine ACall.use (newBox_spec 2 2 w _ [.rp [.t (.ints .i64 play)] 0, .rp [.c (.int .i64 (2))] 0, .rp [.c (.int .i64 (w))] 0] (pbNum play w) (by omega) (by omega) (fun _ _ => rfl) rfl (fun i k' a b hi hk _ _ => pbNum_spec play hl w i k' a b hi hk)) ?_
  conv => whnf
  exact ⟨rfl, rfl⟩

theorem l2PlayBox_spec (play : List Int) (hl : play.length = 4) (h01 : ∀ v, v ∈ play → 0 ≤ v ∧ v ≤ 1) (w : Int) :
    FSpec Try.prog 146 [.c (.int .i64 (2)), .c (.int .i64 (2)), .t (.ints .i64 play), .c (.int .i64 (w))] (ex (.ag [.c (.int .i64 (2)), .c (.int .i64 (2)), .c (.int .i64 (w)), .own 0]) [(0, .rows 25 3 true (pbM play w))]) := by
  refine fspec tyOk mx Try.func146 rfl (by kernel_rfl) rfl ?_
  conv => whnf
  refine aloopI tyOk mx (fun i : Nat => (⟨51, [(0, .c (.int .i64 (2))), (1, .c (.int .i64 (2))), (2, .t (.ints .i64 play)), (3, .c (.int .i64 (w))), (8, .ptr 0 0), (9, .ptr 2 0), (10, .c (.int .i64 (i)))], [(0, .cells 53 [.c (.int .i64 (0)), .c (.int .i64 (0)), .c (.int .i64 (0)), .c (.slice none 0 0)]), (1, .rows 25 3 true (boxTo (pbNum play w) 2 i 0)), (2, .cells 53 [.c (.int .i64 (2)), .c (.int .i64 (2)), .c (.int .i64 (w)), .own 1])], 3⟩ : St)) (fun i => i ≤ 2) (fun i => 2 - i) 0 (Nat.zero_le _) none (by refine ⟨rfl, rfl, ?_, ?_⟩ <;> ((repeat' (first | exact trivial | exact rfl | refine And.intro ?_ ?_)) <;> (try ((conv => whnf); first | refine vint ?_ | refine vboo ?_ | refine rint ?_ | refine rrow ?_ | skip)) <;> (try first | omega | (simp; done) | ((repeat rw [flts_closed _ (by assumption)]); exact vws_closed _ (by assumption))))) (fun i hi => ?_)
  refine ⟨fun h => ?_, fun h => ?_⟩
  · have h : i < 2 := by have := of_decide_eq_true h; omega
    conv => whnf
    refine aloopI tyOk mx (fun k : Nat => (⟨51, [(0, .c (.int .i64 (2))), (1, .c (.int .i64 (2))), (2, .t (.ints .i64 play)), (3, .c (.int .i64 (w))), (8, .ptr 0 0), (9, .ptr 2 0), (10, .c (.int .i64 (i))), (11, .c (.int .i64 (k)))], [(0, .cells 53 [.c (.int .i64 (0)), .c (.int .i64 (0)), .c (.int .i64 (0)), .c (.slice none 0 0)]), (1, .rows 25 3 true (boxTo (pbNum play w) 2 i k)), (2, .cells 53 [.c (.int .i64 (2)), .c (.int .i64 (2)), .c (.int .i64 (w)), .own 1])], 3⟩ : St)) (fun k => k ≤ 2) (fun k => 2 - k) 0 (Nat.zero_le _) none (by refine ⟨rfl, rfl, ?_, ?_⟩ <;> ((repeat' (first | exact trivial | exact rfl | refine And.intro ?_ ?_)) <;> (try ((conv => whnf); first | refine vint ?_ | refine vboo ?_ | refine rint ?_ | refine rrow ?_ | skip)) <;> (try first | omega | (simp; done) | ((repeat rw [flts_closed _ (by assumption)]); exact vws_closed _ (by assumption))))) (fun k hk => ?_)
    have hlen := boxTo_len (pbNum play w) 2 i k
    refine ⟨fun h2 => ?_, fun h2 => ?_⟩
    · have h2 : k < 2 := by have := of_decide_eq_true h2; omega
      have hp := h01 _ (getD_mem (d := 0) (show i < play.length by omega))
      have hq := h01 _ (getD_mem (d := 0) (show 2 + k < play.length by omega))
      have e : IntKind.i64.wrap ((2 : Int) + (k : Int)) = ((2 + k : Nat) : Int) := by rw [w64 (by omega) (by omega)]; omega
      have e2 : IntKind.i64.wrap (IntKind.i64.wrap (2 * play.getD i 0) + play.getD (2 + k) 0) = ((2 * (play.getD i 0).toNat + (play.getD (2 + k) 0).toNat : Nat) : Int) := by
        rw [w64 (n := 2 * play.getD i 0) (by omega) (by omega), w64 (by omega) (by omega)]; omega
      conv => whnf
      refine ⟨4, rfl, rfl, by simp [room], ?_⟩
      conv => whnf
      refine ADraw.plan tyOk mx (.q 0 (.q 1 (.q 2 (.q 3 (.q 4 (.q 5 (.q 6 (.q 7 (.q 8 (.q 9 (.q 10 (.q 11 (.q 12 (.q 13 (.q 14 (.last 15 (.done)))))))))))))))) : Plan) (by kernel_rfl) ?_
      conv => whnf
      repeat' (first | (refine ⟨i, rfl, by omega, ?_⟩; conv => whnf) | (refine ⟨2 + k, e, by omega, ?_⟩; conv => whnf) | (refine ⟨2 * (play.getD i 0).toNat + (play.getD (2 + k) 0).toNat, e2, by rw [List.length_replicate]; omega, ?_⟩; conv => whnf) | (refine ⟨by simp [room]; omega, ?_⟩; conv => whnf) | (refine And.intro ?_ ?_ <;> (conv => whnf)))
      all_goals
        rw [nat_wrap (by omega)]
        refine ⟨k + 1, none, ?_, by omega, by omega⟩
        (refine ⟨rfl, rfl, ?_, ?_⟩ <;> ((repeat' (first | exact trivial | exact rfl | refine And.intro ?_ ?_)) <;> (try ((conv => whnf); first | refine vint ?_ | refine vboo ?_ | refine rint ?_ | refine rrow ?_ | skip)) <;> (try first | omega | (simp; done) | ((repeat rw [flts_closed _ (by assumption)]); exact vws_closed _ (by assumption)))))
        rw [← boxTo_row, ← pb_row (i := i) (k := k) (p := (play.getD i 0).toNat) (q := (play.getD (2 + k) 0).toNat) (by omega) (by omega) (by omega) (by omega)]
    · have h2 : ¬ k < 2 := by have := of_decide_eq_false h2; omega
      obtain rfl : k = 2 := by omega
      conv => whnf
      rw [nat_wrap (by omega)]
      refine ⟨i + 1, none, ?_, by omega, by omega⟩
      (refine ⟨rfl, rfl, ?_, ?_⟩ <;> ((repeat' (first | exact trivial | exact rfl | refine And.intro ?_ ?_)) <;> (try ((conv => whnf); first | refine vint ?_ | refine vboo ?_ | refine rint ?_ | refine rrow ?_ | skip)) <;> (try first | omega | (simp; done) | ((repeat rw [flts_closed _ (by assumption)]); exact vws_closed _ (by assumption)))))
      exact boxTo_end _ 2 i
  · have h : ¬ i < 2 := by have := of_decide_eq_false h; omega
    obtain rfl : i = 2 := by omega
    conv => whnf
    exact ⟨rfl, by rw [boxTo_all]; rfl⟩
end Go.Proofs.Ytkomndcehdneaaa
/- Extreme boxes, in order: reference and program. -/
namespace Go.Proofs.Ytkomndcehdneaaa
open Go.Aw
set_option maxRecDepth 100000
set_option maxHeartbeats 4000000

def exRow (i : Nat) : List (List Int) := if i < 16 then pbM ((playsL 4).getD i []) 2 else equalM ((i : Int) - 16)
def exL (n : Nat) : List (List Int × List (List Int)) := (List.range n).map fun i => ([2, 2, 2], exRow i)
theorem exL_len (n : Nat) : (exL n).length = n := by simp [exL]
theorem exL_get {n i : Nat} (h : i < n) : (exL n).getD i ([], []) = ([2, 2, 2], exRow i) := range_getD h
theorem exL_succ (n : Nat) : exL n ++ [([2, 2, 2], exRow n)] = exL (n + 1) := map_range_succ _ n
theorem exRow_len (i : Nat) : (exRow i).length = 4 := by
  unfold exRow
  split
  · exact boxRows_len _ 2 2
  · exact boxRows_len _ 2 2
theorem exRow_rows (i : Nat) : ∀ r, r ∈ exRow i → r.length = 4 := by
  have key : ∀ f : Nat → Nat → Nat → Nat → Int, ∀ q, q ∈ boxRows f 2 2 → q.length = 4 := fun f q hq => by
    obtain ⟨i, _, hq⟩ := List.mem_flatMap.1 hq
    obtain ⟨j, _, rfl⟩ := List.mem_map.1 hq
    simp [boxRow]
  unfold exRow
  split
  · exact key _
  · exact key _
theorem play4 {i : Nat} (h : i < 16) : ((playsL 4).getD i []).length = 4 ∧ ∀ v, v ∈ (playsL 4).getD i [] → 0 ≤ v ∧ v ≤ 1 := playsL_row (by omega) (by rw [playsL_len]; simpa using h)

theorem extreme_spec (i : Nat) (hi : i < 24) : FSpec Try.prog 217 [.c (.int .i64 (i))] (ex (.ag [.c (.int .i64 (2)), .c (.int .i64 (2)), .c (.int .i64 (2)), .own 0]) [(0, .rows 25 3 true (exRow i))]) := by
  have hpl : (playsL 4).length = 16 := playsL_len 4
  refine fspec tyOk mx Try.func217 rfl (by kernel_rfl) rfl ?_
  conv => whnf
  refine ⟨fun h => ?_, fun h => ?_⟩
  · have h : i < 16 := by have := of_decide_eq_true h; omega
    have e : exRow i = pbM ((playsL 4).getD i []) 2 := by rw [exRow, if_pos h]
    conv => whnf
    refine ACall.use (plays_spec 2 2 (by omega)) ?_
    conv => whnf
    refine ⟨i, rfl, by show i < (playsL 4).length; omega, ?_⟩
    conv => whnf
    refine ACall.use (playBox_spec ((playsL 4).getD i []) (play4 h).1 2) ?_
    conv => whnf
    exact ⟨rfl, by rw [e]⟩
  · have h : ¬ i < 16 := by have := of_decide_eq_false h; omega
    have e : exRow i = equalM ((i : Int) - 16) := by rw [exRow, if_neg h]
    have e2 : IntKind.i64.wrap ((i : Int) - 16) = (i : Int) - 16 := w64 (by omega) (by omega)
    conv => whnf
    refine ACall.use (equalSum_spec _) ?_
    conv => whnf
    exact ⟨rfl, by rw [e, e2]⟩

theorem l6Extremes_own : FSpec Try.prog 218 [] (ex (.own 0) [(0, .recs 53 3 (exL 24))]) := by
  have hpl : (playsL 4).length = 16 := playsL_len 4
  refine fspec tyOk mx Try.func218 rfl (by kernel_rfl) rfl ?_
  conv => whnf
  refine ACall.use ((l2Plays_spec 2 2 (by omega)).told (x' := .t (.rows (playsL 4))) ⟨rfl, rfl⟩) ?_
  conv => whnf
  refine aloopI tyOk mx (fun i : Nat => (⟨31, [(1, .own 0), (2, .t (.rows (playsL 4))), (3, .c (.int .i64 (i)))], [(0, .recs 53 3 (exL i))], 1⟩ : St)) (fun i => i ≤ 16) (fun i => 16 - i) 0 (Nat.zero_le _) none (by refine ⟨rfl, rfl, ?_, ?_⟩ <;> ((repeat' (first | exact trivial | exact rfl | refine And.intro ?_ ?_)) <;> (try ((conv => whnf); first | refine vint ?_ | refine vboo ?_ | refine rint ?_ | refine rrow ?_ | skip)) <;> (try first | omega | (simp; done) | ((repeat rw [flts_closed _ (by assumption)]); exact vws_closed _ (by assumption))))) (fun i hi => ?_)
  have hl := exL_len i
  refine ⟨fun h => ?_, fun h => ?_⟩
  · have h : i < 16 := by have := of_decide_eq_true h; rw [hpl] at this; omega
    have e : exRow i = pbM ((playsL 4).getD i []) 2 := by rw [exRow, if_pos h]
    conv => whnf
    refine ⟨i, rfl, by omega, ?_⟩
    conv => whnf
    refine ACall.use ((l2PlayBox_spec ((playsL 4).getD i []) (play4 h).1 (play4 h).2 2).told (x' := .ag [.c (.int .i64 (2)), .c (.int .i64 (2)), .c (.int .i64 (2)), .t (.rows (pbM ((playsL 4).getD i []) 2))]) ⟨rfl, rfl, rfl, ⟨rfl, rfl⟩, trivial⟩) ?_
    conv => whnf
    refine ⟨by rw [hl]; simp [room]; omega, ?_⟩
    conv => whnf
    rw [nat_wrap (by omega)]
    refine ⟨i + 1, none, ?_, by omega, by omega⟩
    refine ⟨rfl, rfl, ⟨⟨rfl, rfl⟩, rfl, rfl, trivial⟩, rfl, ?_, trivial⟩
    show ARow.recs _ _ _ = ARow.recs _ _ _
    rw [← exL_succ, e]
  · have h : ¬ i < 16 := by have := of_decide_eq_false h; rw [hpl] at this; omega
    obtain rfl : i = 16 := by omega
    conv => whnf
    refine aloopI tyOk mx (fun k : Nat => (⟨31, [(1, .own 0), (4, .c (.int .i64 (k)))], [(0, .recs 53 3 (exL (16 + k)))], 1⟩ : St)) (fun k => k ≤ 8) (fun k => 8 - k) 0 (Nat.zero_le _) none (by refine ⟨rfl, rfl, ?_, ?_⟩ <;> ((repeat' (first | exact trivial | exact rfl | refine And.intro ?_ ?_)) <;> (try ((conv => whnf); first | refine vint ?_ | refine vboo ?_ | refine rint ?_ | refine rrow ?_ | skip)) <;> (try first | omega | (simp; done) | ((repeat rw [flts_closed _ (by assumption)]); exact vws_closed _ (by assumption))))) (fun k hk => ?_)
    have hl := exL_len (16 + k)
    refine ⟨fun h => ?_, fun h => ?_⟩
    · have h : k < 8 := by have := of_decide_eq_true h; omega
      have e : exRow (16 + k) = equalM k := by rw [exRow, if_neg (by omega)]; congr 1; omega
      conv => whnf
      refine ACall.use ((l6Sum_spec k h).told (x' := .ag [.c (.int .i64 (2)), .c (.int .i64 (2)), .c (.int .i64 (2)), .t (.rows (equalM k))]) ⟨rfl, rfl, rfl, ⟨rfl, rfl⟩, trivial⟩) ?_
      conv => whnf
      refine ⟨by rw [hl]; simp [room]; omega, ?_⟩
      conv => whnf
      rw [nat_wrap (by omega)]
      refine ⟨k + 1, none, ?_, by omega, by omega⟩
      refine ⟨rfl, rfl, ⟨⟨rfl, rfl⟩, rfl, trivial⟩, rfl, ?_, trivial⟩
      show ARow.recs _ _ _ = ARow.recs _ _ _
      rw [show 16 + (k + 1) = 16 + k + 1 by omega, ← exL_succ, e]
    · have h : ¬ k < 8 := by have := of_decide_eq_false h; omega
      obtain rfl : k = 8 := by omega
      conv => whnf
      exact ⟨rfl, rfl⟩
theorem l6Extremes_spec : FSpec Try.prog 218 [] (ex (.t (.recs 3 (exL 24))) []) := l6Extremes_own.told ⟨rfl, rfl⟩
end Go.Proofs.Ytkomndcehdneaaa
/- Which boxes are valid: reference and program. -/
namespace Go.Proofs.Ytkomndcehdneaaa
open Go.Aw
set_option maxRecDepth 100000
set_option maxHeartbeats 4000000

def rowOk (z : Int) (r : List Int) : Bool := decide (r.length = 4) && rowIn r 0 z && decide (sumF r r.length = z)
def goodB (x y z : Int) (m : List (List Int)) : Bool := szOk x y && inR z 1 1000 && decide ((m.length : Int) = x * y) && m.all (rowOk z)

theorem goodB_spec {x y z : Int} {m : List (List Int)} (h : goodB x y z m = true) : ∃ a b : Nat, x = a ∧ y = b ∧ 1 ≤ a ∧ a ≤ 3 ∧ 1 ≤ b ∧ b ≤ 3 ∧ 1 ≤ z ∧ z ≤ 1000 ∧ m.length = a * b ∧ a * b ≤ 9 ∧
    (∀ r, r ∈ m → r.length = 4 ∧ (∀ v, v ∈ r → 0 ≤ v ∧ v ≤ z) ∧ sumF r r.length = z) := by
  simp only [goodB, Bool.and_eq_true, decide_eq_true_eq, List.all_eq_true, rowOk, rowIn_iff, inR_iff] at h
  obtain ⟨⟨⟨h1, h2⟩, h3⟩, h4⟩ := h
  obtain ⟨a, b, rfl, rfl, g1, g2, g3, g4, g5, g6⟩ := szOk_nat h1
  rw [g5] at h3
  exact ⟨a, b, rfl, rfl, g1, g2, g3, g4, h2.1, h2.2, by omega, g6, fun r hr => by obtain ⟨⟨q1, q2⟩, q3⟩ := h4 r hr; exact ⟨q1, q2, q3⟩⟩

theorem l2Four_spec (r : List Int) (z : Int) (_hl : r.length ≤ 1048576) : FSpec Try.prog 239 [.t (.ints .i64 r), .c (.int .i64 (z))] (ex (.c (.bool (rowOk z r))) []) := by
  refine fspec tyOk mx Try.func239 rfl (by kernel_rfl) rfl ?_
  conv => whnf
  refine aloopI tyOk mx (fun k : Nat => (⟨38, [(0, .t (.ints .i64 r)), (1, .c (.int .i64 (z))), (5, .c (.int .i64 (sumF r k))), (6, .c (.int .i64 (k)))], [], 0⟩ : St)) (fun k => k ≤ r.length ∧ k ≤ 5 ∧ (r.take k).all (fun v => inR v 0 z) = true) (fun k => 5 - k) 0 ⟨Nat.zero_le _, by omega, rfl⟩ none (by refine ⟨rfl, rfl, ?_, ?_⟩ <;> ((repeat' (first | exact trivial | exact rfl | refine And.intro ?_ ?_)) <;> (try ((conv => whnf); first | refine vint ?_ | refine vboo ?_ | refine rint ?_ | refine rrow ?_ | skip)) <;> (try first | omega | (simp; done) | ((repeat rw [flts_closed _ (by assumption)]); exact vws_closed _ (by assumption))))) (fun k hI => ?_)
  obtain ⟨hk, hk5, hp⟩ := hI
  have hend : (k = r.length ∨ k = 5) → (rowOk z r = (decide ((r.length : Int) = 4) && decide (sumF r k = z))) := fun hor => by
    by_cases h4 : r.length = 4
    · obtain rfl : k = r.length := by omega
      have := all_end (k := r.length) (by omega) hp
      rw [rowOk, rowIn, this, decide_eq_true h4, decide_eq_true (show (r.length : Int) = 4 by omega)]; rfl
    · rw [rowOk, decide_eq_false h4, decide_eq_false (show ¬ (r.length : Int) = 4 by omega)]; rfl
  have fin : ∀ b : Bool, (k = r.length ∨ k = 5) → rowOk z r = b → (AVal.c (.bool b) = AVal.c (.bool (rowOk z r))) := fun b _ hb => by rw [hb]
  refine ⟨fun h => ?_, fun h => ?_⟩
  · have h := ltT h
    conv => whnf
    refine ⟨fun h2 => ?_, fun h2 => ?_⟩
    · have h2 : k < 5 := by have := of_decide_eq_true h2; omega
      conv => whnf
      refine ⟨k, rfl, h, ?_⟩
      conv => whnf
      refine ACall.use (l1In_spec _ _ _) ?_
      conv => whnf
      refine ⟨fun h3 => ?_, fun h3 => ?_⟩
      · have h3 : inR (r.getD k 0) 0 z = false := by simpa using h3
        conv => whnf
        refine ⟨?_, rfl⟩
        rw [rowOk, rowIn, all_false (d := 0) h h3]; simp
      · have h3 : inR (r.getD k 0) 0 z = true := by simpa using h3
        conv => whnf
        refine ⟨k, rfl, h, ?_⟩
        conv => whnf
        rw [nat_wrap (by omega)]
        exact ⟨k + 1, none, (by refine ⟨rfl, rfl, ?_, ?_⟩ <;> ((repeat' (first | exact trivial | exact rfl | refine And.intro ?_ ?_)) <;> (try ((conv => whnf); first | refine vint ?_ | refine vboo ?_ | refine rint ?_ | refine rrow ?_ | skip)) <;> (try first | omega | (simp; done) | ((repeat rw [flts_closed _ (by assumption)]); exact vws_closed _ (by assumption))))), ⟨by omega, by omega, all_take_succ (d := 0) h hp h3⟩, by omega⟩
    · have h2 : ¬ k < 5 := by have := of_decide_eq_false h2; omega
      conv => whnf
      refine ⟨fun h4 => ?_, fun h4 => ?_⟩
      · have h4 : (r.length : Int) = 4 := by simpa using h4
        omega
      · have h4 : ¬ (r.length : Int) = 4 := by simpa using h4
        conv => whnf
        refine ⟨?_, rfl⟩
        rw [hend (by omega), decide_eq_false h4]; rfl
  · have h := ltF h
    (repeat (conv => whnf); (first | refine ⟨fun h => absurd h (by decide), fun _ => ?_⟩ | refine ⟨fun _ => ?_, fun h => absurd h (by decide)⟩)); conv => whnf
    refine ⟨fun h4 => ?_, fun h4 => ?_⟩
    · have h4 : (r.length : Int) = 4 := by simpa using h4
      conv => whnf
      refine ⟨?_, rfl⟩
      rw [hend (by omega), decide_eq_true h4]; rfl
    · have h4 : ¬ (r.length : Int) = 4 := by simpa using h4
      conv => whnf
      refine ⟨?_, rfl⟩
      rw [hend (by omega), decide_eq_false h4]; rfl

theorem l2Box_spec (x y z : Int) (m : List (List Int)) (km : SzM m) :
    FSpec Try.prog 157 [.ag [.c (.int .i64 (x)), .c (.int .i64 (y)), .c (.int .i64 (z)), .t (.rows m)]] (ex (.c (.bool (goodB x y z m))) []) := by
  obtain ⟨i, j, tz⟩ := km.all
  refine fspec tyOk mx Try.func157 rfl (by kernel_rfl) rfl ?_
  conv => whnf
  refine ACall.use (l2Sizes_spec _ _) ?_
  conv => whnf
  refine ⟨fun h1 => ?_, fun h1 => ?_⟩
  · have h1 : szOk x y = true := by simpa using h1
    conv => whnf
    refine ACall.use (l1In_spec _ _ _) ?_
    conv => whnf
    refine ⟨fun h2 => ?_, fun h2 => ?_⟩
    · have h2 : inR z 1 1000 = true := by simpa using h2
      conv => whnf
      rw [szOk_mul h1]
      refine ⟨fun h3 => ?_, fun h3 => ?_⟩
      · have h3 : ¬ (m.length : Int) = x * y := by simpa using h3
        conv => whnf
        exact ⟨by rw [goodB, decide_eq_false h3]; simp, rfl⟩
      · have h3 : (m.length : Int) = x * y := by simpa using h3
        conv => whnf
        refine aloopI tyOk mx (fun k : Nat => (⟨43, [(1, .ptr 0 0), (3, .c (.int .i64 (k)))], [(0, .cells 53 [.c (.int .i64 (x)), .c (.int .i64 (y)), .c (.int .i64 (z)), .t (.rows m)])], 1⟩ : St)) (fun k => k ≤ m.length ∧ (m.take k).all (rowOk z) = true) (fun k => m.length - k) 0 ⟨Nat.zero_le _, rfl⟩ none (by refine ⟨rfl, rfl, ?_, ?_⟩ <;> ((repeat' (first | exact trivial | exact rfl | refine And.intro ?_ ?_)) <;> (try ((conv => whnf); first | refine vint ?_ | refine vboo ?_ | refine rint ?_ | refine rrow ?_ | skip)) <;> (try first | omega | (simp; done) | ((repeat rw [flts_closed _ (by assumption)]); exact vws_closed _ (by assumption))))) (fun k hI => ?_)
        obtain ⟨hk, hp⟩ := hI
        refine ⟨fun h => ?_, fun h => ?_⟩
        · have h := ltT h
          refine ADraw.std tyOk mx ⟨by kernel_rfl, k, rfl, h, ?_⟩
          conv => whnf
          refine QCall.use (l2Four_spec (m.getD k []) z (by have := j _ (getD_mem (d := []) h); omega)) ?_
          conv => whnf
          refine ⟨fun h4 => ?_, fun h4 => ?_⟩
          · conv => whnf
            exact ⟨by rw [goodB, all_false (d := []) h (by simpa using h4), Bool.and_false], rfl⟩
          · conv => whnf
            rw [nat_wrap (by omega)]
            exact ⟨k + 1, none, (by refine ⟨rfl, rfl, ?_, ?_⟩ <;> ((repeat' (first | exact trivial | exact rfl | refine And.intro ?_ ?_)) <;> (try ((conv => whnf); first | refine vint ?_ | refine vboo ?_ | refine rint ?_ | refine rrow ?_ | skip)) <;> (try first | omega | (simp; done) | ((repeat rw [flts_closed _ (by assumption)]); exact vws_closed _ (by assumption))))), ⟨by omega, all_take_succ (d := []) h hp (by simpa using h4)⟩, by omega⟩
        · have h := ltF h
          have hm2 := all_end h hp
          conv => whnf
          refine ⟨?_, rfl⟩
          rw [goodB, h1, h2, decide_eq_true h3, hm2]; rfl
    · have h2 : inR z 1 1000 = false := by simpa using h2
      (repeat (conv => whnf); (first | refine ⟨fun h => absurd h (by decide), fun _ => ?_⟩ | refine ⟨fun _ => ?_, fun h => absurd h (by decide)⟩)); conv => whnf
      exact ⟨by rw [goodB, h2]; simp, rfl⟩
  · have h1 : szOk x y = false := by simpa using h1
    (repeat (conv => whnf); (first | refine ⟨fun h => absurd h (by decide), fun _ => ?_⟩ | refine ⟨fun _ => ?_, fun h => absurd h (by decide)⟩)); conv => whnf
    exact ⟨by rw [goodB, h1]; simp, rfl⟩

theorem IsBox_spec (x y z : Int) (m : List (List Int)) (km : SzM m) :
    FSpec Try.prog 155 [.ag [.c (.int .i64 (x)), .c (.int .i64 (y)), .c (.int .i64 (z)), .t (.rows m)]] (ex (.c (.bool (goodB x y z m))) []) := by
  obtain ⟨i, j, tz⟩ := km.all
  refine fspec tyOk mx Try.func155 rfl (by kernel_rfl) rfl ?_
  conv => whnf
  refine ACall.use (areQuestions_spec _ _) ?_
  conv => whnf
  refine ⟨fun h1 => ?_, fun h1 => ?_⟩
  · have h1 : szOk x y = true := by simpa using h1
    conv => whnf
    refine ACall.use (within_spec _ _ _) ?_
    conv => whnf
    refine ⟨fun h2 => ?_, fun h2 => ?_⟩
    · have h2 : inR z 1 1000 = true := by simpa using h2
      conv => whnf
      rw [szOk_mul h1]
      refine ⟨fun h3 => ?_, fun h3 => ?_⟩
      · have h3 : ¬ (m.length : Int) = x * y := by simpa using h3
        conv => whnf
        exact ⟨by rw [goodB, decide_eq_false h3]; simp, rfl⟩
      · have h3 : (m.length : Int) = x * y := by simpa using h3
        conv => whnf
        refine aloopI tyOk mx (fun k : Nat => (⟨53, [(1, .ptr 0 0), (29, .t (.rows m)), (30, .c (.int .i64 (m.length))), (31, .c (.int .i64 (k)))], [(0, .cells 53 [.c (.int .i64 (x)), .c (.int .i64 (y)), .c (.int .i64 (z)), .t (.rows m)])], 1⟩ : St)) (fun k => k ≤ m.length ∧ (m.take k).all (rowOk z) = true) (fun k => m.length - k) 0 ⟨Nat.zero_le _, rfl⟩ none (by refine ⟨rfl, rfl, ?_, ?_⟩ <;> ((repeat' (first | exact trivial | exact rfl | refine And.intro ?_ ?_)) <;> (try ((conv => whnf); first | refine vint ?_ | refine vboo ?_ | refine rint ?_ | refine rrow ?_ | skip)) <;> (try first | omega | (simp; done) | ((repeat rw [flts_closed _ (by assumption)]); exact vws_closed _ (by assumption))))) (fun k hI => ?_)
        obtain ⟨hk, hp⟩ := hI
        refine ⟨fun h => ?_, fun h => ?_⟩
        · have h := ltT h
          have hj := j _ (getD_mem (d := []) h)
          conv => whnf
          refine ⟨k, rfl, h, ?_⟩
          conv => whnf
          refine ADraw.std tyOk mx ⟨by kernel_rfl, ?_⟩
          conv => whnf
          refine ⟨fun h4 => ?_, fun h4 => ?_⟩
          · have h4 : (m.getD k []).length = 4 := by rw [bne_eq_false_iff_eq] at h4; omega
            conv => whnf
            refine QCall.use (allWithin_spec (m.getD k []) _ _ (by omega)) ?_
            conv => whnf
            refine ⟨fun h5 => ?_, fun h5 => ?_⟩
            · have h5 : rowIn (m.getD k []) 0 z = true := by simpa using h5
              conv => whnf
              refine QCall.use (total_spec (m.getD k []) hj) ?_
              conv => whnf
              refine ⟨fun h6 => ?_, fun h6 => ?_⟩
              · have h6 : ¬ sumF (m.getD k []) (m.getD k []).length = z := by simpa using h6
                conv => whnf
                exact ⟨by rw [goodB, all_false (d := []) h (by rw [rowOk, decide_eq_false h6, Bool.and_false]), Bool.and_false], rfl⟩
              · have h6 : sumF (m.getD k []) (m.getD k []).length = z := by simpa using h6
                conv => whnf
                rw [nat_wrap (by omega)]
                exact ⟨k + 1, none, (by refine ⟨rfl, rfl, ?_, ?_⟩ <;> ((repeat' (first | exact trivial | exact rfl | refine And.intro ?_ ?_)) <;> (try ((conv => whnf); first | refine vint ?_ | refine vboo ?_ | refine rint ?_ | refine rrow ?_ | skip)) <;> (try first | omega | (simp; done) | ((repeat rw [flts_closed _ (by assumption)]); exact vws_closed _ (by assumption))))), ⟨by omega, all_take_succ (d := []) h hp (by rw [rowOk, h5, decide_eq_true h4, decide_eq_true h6]; rfl)⟩, by omega⟩
            · have h5 : rowIn (m.getD k []) 0 z = false := by simpa using h5
              (repeat (conv => whnf); (first | refine ⟨fun h => absurd h (by decide), fun _ => ?_⟩ | refine ⟨fun _ => ?_, fun h => absurd h (by decide)⟩)); conv => whnf
              exact ⟨by rw [goodB, all_false (d := []) h (by rw [rowOk, h5]; simp), Bool.and_false], rfl⟩
          · have h4 : ¬ (m.getD k []).length = 4 := by rw [bne_iff_ne] at h4; omega
            (repeat (conv => whnf); (first | refine ⟨fun h => absurd h (by decide), fun _ => ?_⟩ | refine ⟨fun _ => ?_, fun h => absurd h (by decide)⟩)); conv => whnf
            exact ⟨by rw [goodB, all_false (d := []) h (by rw [rowOk, decide_eq_false h4]; simp), Bool.and_false], rfl⟩
        · have h := ltF h
          have hm2 := all_end h hp
          conv => whnf
          refine ⟨?_, rfl⟩
          rw [goodB, h1, h2, decide_eq_true h3, hm2]; rfl
    · have h2 : inR z 1 1000 = false := by simpa using h2
      (repeat (conv => whnf); (first | refine ⟨fun h => absurd h (by decide), fun _ => ?_⟩ | refine ⟨fun _ => ?_, fun h => absurd h (by decide)⟩)); conv => whnf
      exact ⟨by rw [goodB, h2]; simp, rfl⟩
  · have h1 : szOk x y = false := by simpa using h1
    (repeat (conv => whnf); (first | refine ⟨fun h => absurd h (by decide), fun _ => ?_⟩ | refine ⟨fun _ => ?_, fun h => absurd h (by decide)⟩)); conv => whnf
    exact ⟨by rw [goodB, h1]; simp, rfl⟩
end Go.Proofs.Ytkomndcehdneaaa
/- Worths of functionals, agreements: reference and program. -/
namespace Go.Aw
def wRow (f m : List (List Int)) (i : Nat) (a : Int) (n : Nat) : Int := fo (fun a k => W (a + W ((f.getD i []).getD k 0 * (m.getD i []).getD k 0))) a n
def wTo (f m : List (List Int)) (n : Nat) : Int := fo (fun a i => wRow f m i a 4) 0 n
def worthF (f m : List (List Int)) : Int := wTo f m m.length
def agr (r : List Int) : Int := W (W (W (r.getD 0 0 - r.getD 1 0) - r.getD 2 0) + r.getD 3 0)
end Go.Aw
namespace Go.Proofs.Ytkomndcehdneaaa
open Go.Aw
set_option maxRecDepth 100000
set_option maxHeartbeats 4000000
theorem worth_spec (f m : List (List Int)) (hl : f.length = m.length) (hb : m.length ≤ 1000) (hf : ∀ r, r ∈ f → r.length = 4) (hm : ∀ r, r ∈ m → r.length = 4) :
    FSpec Try.prog 161 [.t (.rows f), .t (.rows m)] (ex (.c (.int .i64 (worthF f m))) []) := by
  refine fspec tyOk mx Try.func161 rfl (by kernel_rfl) rfl ?_
  conv => whnf
  refine aloopI tyOk mx (fun i : Nat => (⟨38, [(1, .t (.rows m)), (5, .c (.int .i64 (wTo f m i))), (10, .t (.rows f)), (11, .c (.int .i64 (f.length))), (12, .c (.int .i64 (i)))], [], 0⟩ : St)) (fun i => i ≤ m.length) (fun i => m.length - i) 0 (Nat.zero_le _) none (by refine ⟨rfl, rfl, ?_, ?_⟩ <;> ((repeat' (first | exact trivial | exact rfl | refine And.intro ?_ ?_)) <;> (try ((conv => whnf); first | refine vint ?_ | refine vboo ?_ | refine rint ?_ | refine rrow ?_ | skip)) <;> (try first | omega | (simp; done) | ((repeat rw [flts_closed _ (by assumption)]); exact vws_closed _ (by assumption))))) (fun i hi => ?_)
  refine ⟨fun h => ?_, fun h => ?_⟩
  · have h : i < m.length := by have := ltT h; omega
    have h4 := hf _ (getD_mem (d := []) (show i < f.length by omega))
    have h5 := hm _ (getD_mem (d := []) h)
    conv => whnf
    refine ⟨i, rfl, by omega, ?_⟩
    conv => whnf
    refine aloopI tyOk mx (fun k : Nat => (⟨38, [(1, .t (.rows m)), (5, .c (.int .i64 (wRow f m i (wTo f m i) k))), (6, .c (.int .i64 (i))), (10, .t (.rows f)), (11, .c (.int .i64 (f.length))), (12, .c (.int .i64 (i))), (17, .t (.ints .i64 (f.getD i []))), (18, .c (.int .i64 ((f.getD i []).length))), (19, .c (.int .i64 (k)))], [], 0⟩ : St)) (fun k => k ≤ 4) (fun k => 4 - k) 0 (Nat.zero_le _) none (by refine ⟨rfl, rfl, ?_, ?_⟩ <;> ((repeat' (first | exact trivial | exact rfl | refine And.intro ?_ ?_)) <;> (try ((conv => whnf); first | refine vint ?_ | refine vboo ?_ | refine rint ?_ | refine rrow ?_ | skip)) <;> (try first | omega | (simp; done) | ((repeat rw [flts_closed _ (by assumption)]); exact vws_closed _ (by assumption))))) (fun k hk => ?_)
    refine ⟨fun h2 => ?_, fun h2 => ?_⟩
    · have h2 : k < 4 := by have := ltT h2; omega
      conv => whnf
      refine ⟨k, rfl, by omega, ?_⟩
      conv => whnf
      refine ⟨i, rfl, h, ?_⟩
      conv => whnf
      refine ⟨k, rfl, by omega, ?_⟩
      conv => whnf
      rw [nat_wrap (by omega)]
      exact ⟨k + 1, none, (by refine ⟨rfl, rfl, ?_, ?_⟩ <;> ((repeat' (first | exact trivial | exact rfl | refine And.intro ?_ ?_)) <;> (try ((conv => whnf); first | refine vint ?_ | refine vboo ?_ | refine rint ?_ | refine rrow ?_ | skip)) <;> (try first | omega | (simp; done) | ((repeat rw [flts_closed _ (by assumption)]); exact vws_closed _ (by assumption))))), by omega, by omega⟩
    · have h2 : ¬ k < 4 := by have := ltF h2; omega
      obtain rfl : k = 4 := by omega
      conv => whnf
      rw [nat_wrap (by omega)]
      exact ⟨i + 1, none, (by refine ⟨rfl, rfl, ?_, ?_⟩ <;> ((repeat' (first | exact trivial | exact rfl | refine And.intro ?_ ?_)) <;> (try ((conv => whnf); first | refine vint ?_ | refine vboo ?_ | refine rint ?_ | refine rrow ?_ | skip)) <;> (try first | omega | (simp; done) | ((repeat rw [flts_closed _ (by assumption)]); exact vws_closed _ (by assumption))))), by omega, by omega⟩
  · have h : ¬ i < m.length := by have := ltF h; omega
    obtain rfl : i = m.length := by omega
    conv => whnf
    exact ⟨rfl, rfl⟩
theorem l2Worth_spec (f m : List (List Int)) (x y z : Int) (hl : f.length = m.length) (hb : m.length ≤ 1000) (hf : ∀ r, r ∈ f → r.length = 4) (hm : ∀ r, r ∈ m → r.length = 4) :
    FSpec Try.prog 145 [.t (.rows f), .ag [.c (.int .i64 (x)), .c (.int .i64 (y)), .c (.int .i64 (z)), .t (.rows m)]] (ex (.c (.int .i64 (worthF f m))) []) := by
  refine fspec tyOk mx Try.func145 rfl (by kernel_rfl) rfl ?_
  conv => whnf
  refine aloopI tyOk mx (fun i : Nat => (⟨38, [(0, .t (.rows f)), (3, .ptr 0 0), (5, .c (.int .i64 (wTo f m i))), (6, .c (.int .i64 (i)))], [(0, .cells 53 [.c (.int .i64 (x)), .c (.int .i64 (y)), .c (.int .i64 (z)), .t (.rows m)])], 1⟩ : St)) (fun i => i ≤ m.length) (fun i => m.length - i) 0 (Nat.zero_le _) none (by refine ⟨rfl, rfl, ?_, ?_⟩ <;> ((repeat' (first | exact trivial | exact rfl | refine And.intro ?_ ?_)) <;> (try ((conv => whnf); first | refine vint ?_ | refine vboo ?_ | refine rint ?_ | refine rrow ?_ | skip)) <;> (try first | omega | (simp; done) | ((repeat rw [flts_closed _ (by assumption)]); exact vws_closed _ (by assumption))))) (fun i hi => ?_)
  refine ⟨fun h => ?_, fun h => ?_⟩
  · have h := ltT h
    have h4 := hf _ (getD_mem (d := []) (show i < f.length by omega))
    have h5 := hm _ (getD_mem (d := []) h)
    conv => whnf
    refine aloopI tyOk mx (fun k : Nat => (⟨38, [(0, .t (.rows f)), (3, .ptr 0 0), (5, .c (.int .i64 (wRow f m i (wTo f m i) k))), (6, .c (.int .i64 (i))), (7, .c (.int .i64 (k)))], [(0, .cells 53 [.c (.int .i64 (x)), .c (.int .i64 (y)), .c (.int .i64 (z)), .t (.rows m)])], 1⟩ : St)) (fun k => k ≤ 4) (fun k => 4 - k) 0 (Nat.zero_le _) none (by refine ⟨rfl, rfl, ?_, ?_⟩ <;> ((repeat' (first | exact trivial | exact rfl | refine And.intro ?_ ?_)) <;> (try ((conv => whnf); first | refine vint ?_ | refine vboo ?_ | refine rint ?_ | refine rrow ?_ | skip)) <;> (try first | omega | (simp; done) | ((repeat rw [flts_closed _ (by assumption)]); exact vws_closed _ (by assumption))))) (fun k hk => ?_)
    refine ⟨fun h2 => ?_, fun h2 => ?_⟩
    · have h2 : k < 4 := by have := of_decide_eq_true h2; omega
      refine ADraw.std tyOk mx ⟨by kernel_rfl, i, rfl, by omega, k, rfl, by omega, i, rfl, h, k, rfl, by omega, ?_⟩
      conv => whnf
      rw [nat_wrap (by omega)]
      exact ⟨k + 1, none, (by refine ⟨rfl, rfl, ?_, ?_⟩ <;> ((repeat' (first | exact trivial | exact rfl | refine And.intro ?_ ?_)) <;> (try ((conv => whnf); first | refine vint ?_ | refine vboo ?_ | refine rint ?_ | refine rrow ?_ | skip)) <;> (try first | omega | (simp; done) | ((repeat rw [flts_closed _ (by assumption)]); exact vws_closed _ (by assumption))))), by omega, by omega⟩
    · have h2 : ¬ k < 4 := by have := of_decide_eq_false h2; omega
      obtain rfl : k = 4 := by omega
      conv => whnf
      rw [nat_wrap (by omega)]
      exact ⟨i + 1, none, (by refine ⟨rfl, rfl, ?_, ?_⟩ <;> ((repeat' (first | exact trivial | exact rfl | refine And.intro ?_ ?_)) <;> (try ((conv => whnf); first | refine vint ?_ | refine vboo ?_ | refine rint ?_ | refine rrow ?_ | skip)) <;> (try first | omega | (simp; done) | ((repeat rw [flts_closed _ (by assumption)]); exact vws_closed _ (by assumption))))), by omega, by omega⟩
  · have h := ltF h
    obtain rfl : i = m.length := by omega
    conv => whnf
    exact ⟨rfl, rfl⟩
theorem l2Agree_spec (r : List Int) (hr : r.length = 4) : FSpec Try.prog 252 [.t (.ints .i64 r)] (ex (.c (.int .i64 (agr r))) []) := by
  refine fspec tyOk mx Try.func252 rfl (by kernel_rfl) rfl ?_
  conv => whnf
  refine ADraw.std tyOk mx ⟨by kernel_rfl, 0, rfl, by omega, 1, rfl, by omega, 2, rfl, by omega, 3, rfl, by omega, ?_⟩
  conv => whnf
  exact ⟨rfl, rfl⟩
theorem agreement_spec (r : List Int) (hr : r.length = 4) : FSpec Try.prog 226 [.t (.ints .i64 r)] (ex (.c (.int .i64 (agr r))) []) := by
  refine fspec tyOk mx Try.func226 rfl (by kernel_rfl) rfl ?_
  conv => whnf
  refine ADraw.std tyOk mx ⟨by kernel_rfl, 0, rfl, by omega, 1, rfl, by omega, 2, rfl, by omega, 3, rfl, by omega, ?_⟩
  conv => whnf
  exact ⟨rfl, rfl⟩
end Go.Proofs.Ytkomndcehdneaaa
/- Functionals of two questions each; the least and the greatest worth of extreme boxes: reference and program. -/
namespace Go.Aw
theorem mn_eq (a b : Int) : (if b < a then b else a) = min a b := by split <;> omega
theorem mx_eq (a b : Int) : (if b > a then b else a) = max a b := by split <;> omega
end Go.Aw
namespace Go.Proofs.Ytkomndcehdneaaa
open Go.Aw
set_option maxRecDepth 100000
set_option maxHeartbeats 4000000

theorem r1Most_spec (a b : Int) : FSpec Try.prog 165 [.c (.int .i64 (a)), .c (.int .i64 (b))] (ex (.c (.int .i64 (max a b))) []) := by
  refine fspec tyOk mx Try.func165 rfl (by kernel_rfl) rfl ?_
  conv => whnf
  refine ⟨fun h => ?_, fun h => ?_⟩
  · have h := of_decide_eq_true h
    conv => whnf
    refine ⟨?_, rfl⟩
    rw [Int.max_eq_left (by omega)]
  · have h := of_decide_eq_false h
    conv => whnf
    refine ⟨?_, rfl⟩
    rw [Int.max_eq_right (by omega)]
theorem r1Least_spec (a b : Int) : FSpec Try.prog 257 [.c (.int .i64 (a)), .c (.int .i64 (b))] (ex (.c (.int .i64 (min a b))) []) := by
  refine fspec tyOk mx Try.func257 rfl (by kernel_rfl) rfl ?_
  conv => whnf
  refine ⟨fun h => ?_, fun h => ?_⟩
  · have h := of_decide_eq_true h
    conv => whnf
    refine ⟨?_, rfl⟩
    rw [Int.min_eq_left (by omega)]
  · have h := of_decide_eq_false h
    conv => whnf
    refine ⟨?_, rfl⟩
    rw [Int.min_eq_right (by omega)]

def fnRow (r : List Int) : Bool := decide (r.length = 4) && rowIn r (-99) 99
def fnB (f : List (List Int)) : Bool := decide (f.length = 4) && f.all fnRow
theorem fnB_spec {f : List (List Int)} (h : fnB f = true) : f.length = 4 ∧ (∀ r, r ∈ f → r.length = 4) ∧ ∀ r, r ∈ f → ∀ v, v ∈ r → -99 ≤ v ∧ v ≤ 99 := by
  simp only [fnB, fnRow, Bool.and_eq_true, decide_eq_true_eq, List.all_eq_true, rowIn_iff] at h
  exact ⟨h.1, fun r hr => (h.2 r hr).1, fun r hr => (h.2 r hr).2⟩

theorem l2Functional_spec (f : List (List Int)) (kf : SzM f) : FSpec Try.prog 177 [.c (.int .i64 (2)), .c (.int .i64 (2)), .t (.rows f)] (ex (.c (.bool (fnB f))) []) := by
  obtain ⟨k1, k2, k3⟩ := kf.all
  refine fspec tyOk mx Try.func177 rfl (by kernel_rfl) rfl ?_
  conv => whnf
  refine ACall.use (l2Sizes_spec 2 2) ?_
  conv => whnf
  first | refine ⟨fun h => absurd h (by decide), fun _ => ?_⟩ | refine ⟨fun _ => ?_, fun h => absurd h (by decide)⟩
  conv => whnf
  refine ⟨fun h => ?_, fun h => ?_⟩
  · have h : ¬ f.length = 4 := by
      intro e
      rw [e] at h
      exact absurd h (by decide)
    conv => whnf
    refine ⟨?_, rfl⟩
    rw [fnB, decide_eq_false h, Bool.false_and]
  · have h0 : f.length = 4 := by
      have h : ((f.length : Int) != IntKind.i64.wrap (2 * 2)) = false := h
      rw [w64 (by omega) (by omega)] at h
      have : (f.length : Int) = 2 * 2 := by simpa using h
      omega
    clear h
    conv => whnf
    refine aloopI tyOk mx (fun i : Nat => (⟨51, [(2, .t (.rows f)), (7, .c (.int .i64 (i)))], [], 0⟩ : St)) (fun i => i ≤ f.length ∧ (f.take i).all fnRow = true) (fun i => f.length - i) 0 ⟨Nat.zero_le _, rfl⟩ none (by refine ⟨rfl, rfl, ?_, ?_⟩ <;> ((repeat' (first | exact trivial | exact rfl | refine And.intro ?_ ?_)) <;> (try ((conv => whnf); first | refine vint ?_ | refine vboo ?_ | refine rint ?_ | refine rrow ?_ | skip)) <;> (try first | omega | (simp; done) | ((repeat rw [flts_closed _ (by assumption)]); exact vws_closed _ (by assumption))))) (fun i hi => ?_)
    obtain ⟨hi, hp⟩ := hi
    refine ⟨fun h => ?_, fun h => ?_⟩
    · have h : i < f.length := by have := ltT h; omega
      have hri := k2 _ (getD_mem (d := []) h)
      conv => whnf
      refine aloopI tyOk mx (fun n : Nat => (⟨51, [(2, .t (.rows f)), (7, .c (.int .i64 (i))), (8, .c (.int .i64 (n)))], [], 0⟩ : St)) (fun n => n ≤ (f.getD i []).length ∧ ((f.getD i []).take n).all (fun x => inR x (-99) 99) = true) (fun n => (f.getD i []).length - n) 0 ⟨Nat.zero_le _, rfl⟩ none (by refine ⟨rfl, rfl, ?_, ?_⟩ <;> ((repeat' (first | exact trivial | exact rfl | refine And.intro ?_ ?_)) <;> (try ((conv => whnf); first | refine vint ?_ | refine vboo ?_ | refine rint ?_ | refine rrow ?_ | skip)) <;> (try first | omega | (simp; done) | ((repeat rw [flts_closed _ (by assumption)]); exact vws_closed _ (by assumption))))) (fun n hn => ?_)
      obtain ⟨hn, hq⟩ := hn
      refine ⟨i, rfl, h, ?_⟩
      conv => whnf
      refine ⟨fun h2 => ?_, fun h2 => ?_⟩
      · have h2 : n < (f.getD i []).length := by have := ltT h2; omega
        conv => whnf
        refine ⟨i, rfl, h, n, rfl, h2, ?_⟩
        conv => whnf
        refine ACall.use (l1In_spec _ _ _) ?_
        conv => whnf
        refine ⟨fun h3 => ?_, fun h3 => ?_⟩
        · have h3 : inR ((f.getD i []).getD n 0) (-99) 99 = false := by simpa using h3
          conv => whnf
          refine ⟨?_, rfl⟩
          rw [fnB, all_false (d := []) h (by rw [fnRow, rowIn, all_false (d := 0) h2 h3, Bool.and_false]), Bool.and_false]
        · have h3 : inR ((f.getD i []).getD n 0) (-99) 99 = true := by simpa using h3
          conv => whnf
          rw [nat_wrap (by omega)]
          exact ⟨n + 1, none, (by refine ⟨rfl, rfl, ?_, ?_⟩ <;> ((repeat' (first | exact trivial | exact rfl | refine And.intro ?_ ?_)) <;> (try ((conv => whnf); first | refine vint ?_ | refine vboo ?_ | refine rint ?_ | refine rrow ?_ | skip)) <;> (try first | omega | (simp; done) | ((repeat rw [flts_closed _ (by assumption)]); exact vws_closed _ (by assumption))))), ⟨by omega, all_take_succ (d := 0) h2 hq h3⟩, by omega⟩
      · have h2 : ¬ n < (f.getD i []).length := by have := ltF h2; omega
        have hrow : rowIn (f.getD i []) (-99) 99 = true := all_end h2 hq
        conv => whnf
        refine ⟨i, rfl, h, ?_⟩
        conv => whnf
        refine ⟨fun h3 => ?_, fun h3 => ?_⟩
        · have h3 : ¬ (f.getD i []).length = 4 := by
            intro e; rw [e] at h3; exact absurd h3 (by decide)
          conv => whnf
          refine ⟨?_, rfl⟩
          rw [fnB, all_false (d := []) h (by rw [fnRow, decide_eq_false h3, Bool.false_and]), Bool.and_false]
        · have h3 : (f.getD i []).length = 4 := by
            have : ((f.getD i []).length : Int) = 4 := by simpa using h3
            omega
          conv => whnf
          rw [nat_wrap (by omega)]
          exact ⟨i + 1, none, (by refine ⟨rfl, rfl, ?_, ?_⟩ <;> ((repeat' (first | exact trivial | exact rfl | refine And.intro ?_ ?_)) <;> (try ((conv => whnf); first | refine vint ?_ | refine vboo ?_ | refine rint ?_ | refine rrow ?_ | skip)) <;> (try first | omega | (simp; done) | ((repeat rw [flts_closed _ (by assumption)]); exact vws_closed _ (by assumption))))), ⟨by omega, all_take_succ (d := []) h hp (by rw [fnRow, hrow, decide_eq_true h3]; rfl)⟩, by omega⟩
    · have h : ¬ i < f.length := by have := ltF h; omega
      conv => whnf
      refine ⟨?_, rfl⟩
      rw [fnB, decide_eq_true h0, all_end h hp]; rfl

theorem isFunctional_spec (f : List (List Int)) (kf : SzM f) : FSpec Try.prog 138 [.c (.int .i64 (2)), .c (.int .i64 (2)), .t (.rows f)] (ex (.c (.bool (fnB f))) []) := by
  obtain ⟨k1, k2, k3⟩ := kf.all
  refine fspec tyOk mx Try.func138 rfl (by kernel_rfl) rfl ?_
  conv => whnf
  refine aloopI tyOk mx (fun i : Nat => (⟨35, [(0, .c (.int .i64 (2))), (1, .c (.int .i64 (2))), (2, .t (.rows f)), (9, .t (.rows f)), (10, .c (.int .i64 (f.length))), (11, .c (.int .i64 (i)))], [], 0⟩ : St)) (fun i => i ≤ f.length ∧ (f.take i).all fnRow = true) (fun i => f.length - i) 0 ⟨Nat.zero_le _, rfl⟩ none (by refine ⟨rfl, rfl, ?_, ?_⟩ <;> ((repeat' (first | exact trivial | exact rfl | refine And.intro ?_ ?_)) <;> (try ((conv => whnf); first | refine vint ?_ | refine vboo ?_ | refine rint ?_ | refine rrow ?_ | skip)) <;> (try first | omega | (simp; done) | ((repeat rw [flts_closed _ (by assumption)]); exact vws_closed _ (by assumption))))) (fun i hi => ?_)
  obtain ⟨hi, hp⟩ := hi
  refine ⟨fun h => ?_, fun h => ?_⟩
  · have h : i < f.length := by have := ltT h; omega
    have hri := k2 _ (getD_mem (d := []) h)
    conv => whnf
    refine ⟨i, rfl, h, ?_⟩
    conv => whnf
    refine ⟨fun h3 => ?_, fun h3 => ?_⟩
    · have h3 : (f.getD i []).length = 4 := by
        have : ((f.getD i []).length : Int) = 4 := by simpa using h3
        omega
      conv => whnf
      refine ACall.use (allWithin_spec (f.getD i []) _ _ (by omega)) ?_
      conv => whnf
      refine ⟨fun h4 => ?_, fun h4 => ?_⟩
      · have h4 : rowIn (f.getD i []) (-99) 99 = false := by simpa using h4
        conv => whnf
        refine ⟨?_, rfl⟩
        rw [fnB, all_false (d := []) h (by rw [fnRow, h4, Bool.and_false]), Bool.and_false]
      · have h4 : rowIn (f.getD i []) (-99) 99 = true := by simpa using h4
        conv => whnf
        rw [nat_wrap (by omega)]
        exact ⟨i + 1, none, (by refine ⟨rfl, rfl, ?_, ?_⟩ <;> ((repeat' (first | exact trivial | exact rfl | refine And.intro ?_ ?_)) <;> (try ((conv => whnf); first | refine vint ?_ | refine vboo ?_ | refine rint ?_ | refine rrow ?_ | skip)) <;> (try first | omega | (simp; done) | ((repeat rw [flts_closed _ (by assumption)]); exact vws_closed _ (by assumption))))), ⟨by omega, all_take_succ (d := []) h hp (by rw [fnRow, h4, decide_eq_true h3]; rfl)⟩, by omega⟩
    · have h3 : ¬ (f.getD i []).length = 4 := by
        intro e; rw [e] at h3; exact absurd h3 (by decide)
      conv => whnf
      (repeat (conv => whnf); (first | refine ⟨fun h => absurd h (by decide), fun _ => ?_⟩ | refine ⟨fun _ => ?_, fun h => absurd h (by decide)⟩)); conv => whnf
      refine ⟨?_, rfl⟩
      rw [fnB, all_false (d := []) h (by rw [fnRow, decide_eq_false h3, Bool.false_and]), Bool.and_false]
  · have h : ¬ i < f.length := by have := ltF h; omega
    have hall := all_end h hp
    conv => whnf
    refine ACall.use (areQuestions_spec 2 2) ?_
    conv => whnf
    first | refine ⟨fun h => absurd h (by decide), fun _ => ?_⟩ | refine ⟨fun _ => ?_, fun h => absurd h (by decide)⟩
    conv => whnf
    refine ⟨?_, rfl⟩
    rw [fnB, hall, Bool.and_true]
    congr 1
    rw [show IntKind.i64.wrap (2 * 2) = 4 from rfl]
    by_cases e : f.length = 4
    · rw [e]; rfl
    · rw [decide_eq_false e]
      have : ¬ (f.length : Int) = 4 := by omega
      simp [this]
end Go.Proofs.Ytkomndcehdneaaa
/- WorthRange, reference and program. -/
namespace Go.Proofs.Ytkomndcehdneaaa
open Go.Aw
set_option maxRecDepth 100000
set_option maxHeartbeats 4000000

def exW (f : List (List Int)) (i : Nat) : Int := worthF f (exRow i)
def wLo (f : List (List Int)) : Nat → Int
  | 0 => exW f 0
  | i + 1 => min (wLo f i) (exW f i)
def wHi (f : List (List Int)) : Nat → Int
  | 0 => exW f 0
  | i + 1 => max (wHi f i) (exW f i)
theorem wLo_one (f : List (List Int)) : wLo f 1 = exW f 0 := by simp [wLo]
theorem wHi_one (f : List (List Int)) : wHi f 1 = exW f 0 := by simp [wHi]
theorem exW_spec (f : List (List Int)) (hf : f.length = 4) (h4 : ∀ r, r ∈ f → r.length = 4) (i : Nat) (x y z : Int) : FSpec Try.prog 145 [.t (.rows f), .ag [.c (.int .i64 (x)), .c (.int .i64 (y)), .c (.int .i64 (z)), .t (.rows (exRow i))]] (ex (.c (.int .i64 (exW f i))) []) :=
  l2Worth_spec f (exRow i) x y z (by rw [exRow_len, hf]) (by rw [exRow_len]; omega) h4 (exRow_rows i)
theorem exWi_spec (f : List (List Int)) (hf : f.length = 4) (h4 : ∀ r, r ∈ f → r.length = 4) (i : Nat) : FSpec Try.prog 161 [.t (.rows f), .t (.rows (exRow i))] (ex (.c (.int .i64 (exW f i))) []) :=
  worth_spec f (exRow i) (by rw [exRow_len, hf]) (by rw [exRow_len]; omega) h4 (exRow_rows i)

def wrLo (f : List (List Int)) : Int := if fnB f then wLo f 24 else 0
def wrHi (f : List (List Int)) : Int := if fnB f then wHi f 24 else 0


end Go.Proofs.Ytkomndcehdneaaa
/- The eight sums: reference and program. -/
namespace Go.Proofs.Ytkomndcehdneaaa
open Go.Aw
set_option maxRecDepth 100000
set_option maxHeartbeats 4000000

theorem two_add {a b : Nat} (h : 2 * a + b ≤ 1000000) : IntKind.i64.wrap (IntKind.i64.wrap (2 * (a : Int)) + (b : Int)) = ((2 * a + b : Nat) : Int) := by
  rw [w64 (n := 2 * (a : Int)) (by omega) (by omega), w64 (by omega) (by omega)]; omega
def esTerm (k : Nat) (m : List (List Int)) (x y : Nat) : Int := W (agr (m.getD (x * 2 + y) []) * W (1 - W (2 * oddAt k x y)))
def esRow (k : Nat) (m : List (List Int)) (x : Nat) (a : Int) (n : Nat) : Int := fo (fun a y => W (a + esTerm k m x y)) a n
def esTo (k : Nat) (m : List (List Int)) (n : Nat) : Int := fo (fun a x => esRow k m x a 2) 0 n
def esL (m : List (List Int)) : List Int := (List.range 8).map fun k => esTo k m 2
def pairB (x y z : Int) (m : List (List Int)) : Bool := goodB x y z m && (decide (x = 2) && decide (y = 2))
theorem pairB_spec {x y z : Int} {m : List (List Int)} (h : pairB x y z m = true) : x = 2 ∧ y = 2 ∧ 1 ≤ z ∧ z ≤ 1000 ∧ m.length = 4 ∧ (∀ r, r ∈ m → r.length = 4 ∧ (∀ v, v ∈ r → 0 ≤ v ∧ v ≤ z) ∧ sumF r r.length = z) := by
  simp only [pairB, Bool.and_eq_true, decide_eq_true_eq] at h
  obtain ⟨h1, rfl, rfl⟩ := h
  obtain ⟨a, b, e1, e2, g1, g2, g3, g4, g5, g6, g7, g8, g9⟩ := goodB_spec h1
  obtain rfl : a = 2 := by omega
  obtain rfl : b = 2 := by omega
  exact ⟨rfl, rfl, g5, g6, g7, g9⟩

theorem hasTwo_spec (x y : Int) : FSpec Try.prog 246 [.c (.int .i64 (x)), .c (.int .i64 (y))] (ex (.c (.bool (decide (x = 2) && decide (y = 2)))) []) := by
  refine fspec tyOk mx Try.func246 rfl (by kernel_rfl) rfl ?_
  conv => whnf
  refine ⟨fun h => ?_, fun h => ?_⟩
  · conv => whnf
    refine ⟨?_, rfl⟩
    rw [decide_eq_true (by simpa using h), Bool.true_and]; rfl
  · conv => whnf
    refine ⟨?_, rfl⟩
    rw [decide_eq_false (by simpa using h), Bool.false_and]
theorem isPair_spec (x y z : Int) (m : List (List Int)) (km : SzM m) : FSpec Try.prog 192 [.ag [.c (.int .i64 (x)), .c (.int .i64 (y)), .c (.int .i64 (z)), .t (.rows m)]] (ex (.c (.bool (pairB x y z m))) []) := by
  refine fspec tyOk mx Try.func192 rfl (by kernel_rfl) rfl ?_
  conv => whnf
  refine ACall.use (IsBox_spec x y z m km) ?_
  conv => whnf
  refine ⟨fun h => ?_, fun h => ?_⟩
  · conv => whnf
    refine ACall.use (hasTwo_spec x y) ?_
    conv => whnf
    exact ⟨by rw [pairB, h, Bool.true_and], rfl⟩
  · conv => whnf
    exact ⟨by rw [pairB, h, Bool.false_and], rfl⟩
theorem l6Two_spec (x y z : Int) (m : List (List Int)) (km : SzM m) : FSpec Try.prog 194 [.ag [.c (.int .i64 (x)), .c (.int .i64 (y)), .c (.int .i64 (z)), .t (.rows m)]] (ex (.c (.bool (pairB x y z m))) []) := by
  refine fspec tyOk mx Try.func194 rfl (by kernel_rfl) rfl ?_
  conv => whnf
  refine ACall.use (l2Box_spec x y z m km) ?_
  conv => whnf
  refine ⟨fun h => ?_, fun h => ?_⟩
  · conv => whnf
    refine ⟨fun h2 => ?_, fun h2 => ?_⟩
    · conv => whnf
      refine ⟨?_, rfl⟩
      rw [pairB, h, decide_eq_true (show x = 2 by simpa using h2), Bool.true_and, Bool.true_and]; rfl
    · conv => whnf
      refine ⟨?_, rfl⟩
      rw [pairB, h, decide_eq_false (show ¬ x = 2 by simpa using h2), Bool.true_and, Bool.false_and]
  · (repeat (conv => whnf); (first | refine ⟨fun h => absurd h (by decide), fun _ => ?_⟩ | refine ⟨fun _ => ?_, fun h => absurd h (by decide)⟩)); conv => whnf
    exact ⟨by rw [pairB, h, Bool.false_and], rfl⟩

theorem l2Row_spec (nx ny i k : Nat) (z : Int) (m : List (List Int)) (hi : i * ny + k < m.length) (hb : i * ny + k ≤ 1000000) :
    FSpec Try.prog 216 [.ag [.c (.int .i64 (nx)), .c (.int .i64 (ny)), .c (.int .i64 (z)), .t (.rows m)], .c (.int .i64 (i)), .c (.int .i64 (k))] (ex (.t (.ints .i64 (m.getD (i * ny + k) []))) []) := by
  refine fspec tyOk mx Try.func216 rfl (by kernel_rfl) rfl ?_
  conv => whnf
  refine ⟨i * ny + k, natMulAdd hb, hi, ?_⟩
  conv => whnf
  exact ⟨rfl, rfl⟩

theorem eightSums_spec (z : Int) (m : List (List Int)) (hm : m.length = 4) (h4 : ∀ r, r ∈ m → r.length = 4) :
    FSpec Try.prog 193 [.ag [.c (.int .i64 (2)), .c (.int .i64 (2)), .c (.int .i64 (z)), .t (.rows m)]] (ex (.own 0) [(0, .ints 3 .i64 (esL m))]) := by
  refine fspec tyOk mx Try.func193 rfl (by kernel_rfl) rfl ?_
  conv => whnf
  refine aloopI tyOk mx (fun k : Nat => (⟨44, [(1, .ptr 0 0), (3, .own 1), (9, .c (.int .i64 (k)))], [(0, .cells 53 [.c (.int .i64 (2)), .c (.int .i64 (2)), .c (.int .i64 (z)), .t (.rows m)]), (1, .ints 3 .i64 ((List.range k).map fun k => esTo k m 2))], 2⟩ : St)) (fun k => k ≤ 8) (fun k => 8 - k) 0 (Nat.zero_le _) none (by refine ⟨rfl, rfl, ?_, ?_⟩ <;> ((repeat' (first | exact trivial | exact rfl | refine And.intro ?_ ?_)) <;> (try ((conv => whnf); first | refine vint ?_ | refine vboo ?_ | refine rint ?_ | refine rrow ?_ | skip)) <;> (try first | omega | (simp; done) | ((repeat rw [flts_closed _ (by assumption)]); exact vws_closed _ (by assumption))))) (fun k hk => ?_)
  refine ⟨fun h => ?_, fun h => ?_⟩
  · have h : k < 8 := by have := of_decide_eq_true h; omega
    conv => whnf
    refine aloopI tyOk mx (fun x : Nat => (⟨44, [(1, .ptr 0 0), (3, .own 1), (4, .c (.int .i64 (k))), (5, .c (.int .i64 (esTo k m x))), (9, .c (.int .i64 (k))), (12, .c (.int .i64 (x)))], [(0, .cells 53 [.c (.int .i64 (2)), .c (.int .i64 (2)), .c (.int .i64 (z)), .t (.rows m)]), (1, .ints 3 .i64 ((List.range k).map fun k => esTo k m 2))], 2⟩ : St)) (fun x => x ≤ 2) (fun x => 2 - x) 0 (Nat.zero_le _) none (by refine ⟨rfl, rfl, ?_, ?_⟩ <;> ((repeat' (first | exact trivial | exact rfl | refine And.intro ?_ ?_)) <;> (try ((conv => whnf); first | refine vint ?_ | refine vboo ?_ | refine rint ?_ | refine rrow ?_ | skip)) <;> (try first | omega | (simp; done) | ((repeat rw [flts_closed _ (by assumption)]); exact vws_closed _ (by assumption))))) (fun x hx => ?_)
    refine ⟨fun h2 => ?_, fun h2 => ?_⟩
    · have h2 : x < 2 := by have := of_decide_eq_true h2; omega
      conv => whnf
      refine aloopI tyOk mx (fun y : Nat => (⟨44, [(1, .ptr 0 0), (3, .own 1), (4, .c (.int .i64 (k))), (5, .c (.int .i64 (esRow k m x (esTo k m x) y))), (6, .c (.int .i64 (x))), (9, .c (.int .i64 (k))), (12, .c (.int .i64 (x))), (15, .c (.int .i64 (y)))], [(0, .cells 53 [.c (.int .i64 (2)), .c (.int .i64 (2)), .c (.int .i64 (z)), .t (.rows m)]), (1, .ints 3 .i64 ((List.range k).map fun k => esTo k m 2))], 2⟩ : St)) (fun y => y ≤ 2) (fun y => 2 - y) 0 (Nat.zero_le _) none (by refine ⟨rfl, rfl, ?_, ?_⟩ <;> ((repeat' (first | exact trivial | exact rfl | refine And.intro ?_ ?_)) <;> (try ((conv => whnf); first | refine vint ?_ | refine vboo ?_ | refine rint ?_ | refine rrow ?_ | skip)) <;> (try first | omega | (simp; done) | ((repeat rw [flts_closed _ (by assumption)]); exact vws_closed _ (by assumption))))) (fun y hy => ?_)
      refine ⟨fun h3 => ?_, fun h3 => ?_⟩
      · have h3 : y < 2 := by have := of_decide_eq_true h3; omega
        conv => whnf
        refine ⟨2 * x + y, two_add (by omega), by omega, ?_⟩
        rw [Nat.mul_comm 2 x]
        conv => whnf
        refine ACall.use (agreement_spec (m.getD (x * 2 + y) []) (h4 _ (getD_mem (by omega)))) ?_
        conv => whnf
        refine ACall.use (differ_spec k x y) ?_
        conv => whnf
        rw [nat_wrap (by omega)]
        exact ⟨y + 1, none, (by refine ⟨rfl, rfl, ?_, ?_⟩ <;> ((repeat' (first | exact trivial | exact rfl | refine And.intro ?_ ?_)) <;> (try ((conv => whnf); first | refine vint ?_ | refine vboo ?_ | refine rint ?_ | refine rrow ?_ | skip)) <;> (try first | omega | (simp; done) | ((repeat rw [flts_closed _ (by assumption)]); exact vws_closed _ (by assumption))))), by omega, by omega⟩
      · have h3 : ¬ y < 2 := by have := of_decide_eq_false h3; omega
        obtain rfl : y = 2 := by omega
        conv => whnf
        rw [nat_wrap (by omega)]
        exact ⟨x + 1, none, (by refine ⟨rfl, rfl, ?_, ?_⟩ <;> ((repeat' (first | exact trivial | exact rfl | refine And.intro ?_ ?_)) <;> (try ((conv => whnf); first | refine vint ?_ | refine vboo ?_ | refine rint ?_ | refine rrow ?_ | skip)) <;> (try first | omega | (simp; done) | ((repeat rw [flts_closed _ (by assumption)]); exact vws_closed _ (by assumption))))), by omega, by omega⟩
    · have h2 : ¬ x < 2 := by have := of_decide_eq_false h2; omega
      obtain rfl : x = 2 := by omega
      conv => whnf
      refine ⟨by simp [room]; omega, ?_⟩
      conv => whnf
      rw [nat_wrap (by omega)]
      refine ⟨k + 1, none, ?_, by omega, by omega⟩
      (refine ⟨rfl, rfl, ?_, ?_⟩ <;> ((repeat' (first | exact trivial | exact rfl | refine And.intro ?_ ?_)) <;> (try ((conv => whnf); first | refine vint ?_ | refine vboo ?_ | refine rint ?_ | refine rrow ?_ | skip)) <;> (try first | omega | (simp; done) | ((repeat rw [flts_closed _ (by assumption)]); exact vws_closed _ (by assumption)))))
      rw [← map_range_succ]; rfl
  · have h : ¬ k < 8 := by have := of_decide_eq_false h; omega
    obtain rfl : k = 8 := by omega
    conv => whnf
    exact ⟨rfl, rfl⟩

theorem l6Sums_spec (z : Int) (m : List (List Int)) (hm : m.length = 4) (h4 : ∀ r, r ∈ m → r.length = 4) :
    FSpec Try.prog 195 [.ag [.c (.int .i64 (2)), .c (.int .i64 (2)), .c (.int .i64 (z)), .t (.rows m)]] (ex (.own 0) [(0, .ints 3 .i64 (esL m))]) := by
  refine fspec tyOk mx Try.func195 rfl (by kernel_rfl) rfl ?_
  conv => whnf
  refine aloopI tyOk mx (fun k : Nat => (⟨40, [(1, .ptr 0 0), (3, .own 1), (4, .c (.int .i64 (k)))], [(0, .cells 53 [.c (.int .i64 (2)), .c (.int .i64 (2)), .c (.int .i64 (z)), .t (.rows m)]), (1, .ints 3 .i64 ((List.range k).map fun k => esTo k m 2))], 2⟩ : St)) (fun k => k ≤ 8) (fun k => 8 - k) 0 (Nat.zero_le _) none (by refine ⟨rfl, rfl, ?_, ?_⟩ <;> ((repeat' (first | exact trivial | exact rfl | refine And.intro ?_ ?_)) <;> (try ((conv => whnf); first | refine vint ?_ | refine vboo ?_ | refine rint ?_ | refine rrow ?_ | skip)) <;> (try first | omega | (simp; done) | ((repeat rw [flts_closed _ (by assumption)]); exact vws_closed _ (by assumption))))) (fun k hk => ?_)
  refine ⟨fun h => ?_, fun h => ?_⟩
  · have h : k < 8 := by have := of_decide_eq_true h; omega
    conv => whnf
    refine aloopI tyOk mx (fun x : Nat => (⟨40, [(1, .ptr 0 0), (3, .own 1), (4, .c (.int .i64 (k))), (5, .c (.int .i64 (esTo k m x))), (6, .c (.int .i64 (x)))], [(0, .cells 53 [.c (.int .i64 (2)), .c (.int .i64 (2)), .c (.int .i64 (z)), .t (.rows m)]), (1, .ints 3 .i64 ((List.range k).map fun k => esTo k m 2))], 2⟩ : St)) (fun x => x ≤ 2) (fun x => 2 - x) 0 (Nat.zero_le _) none (by refine ⟨rfl, rfl, ?_, ?_⟩ <;> ((repeat' (first | exact trivial | exact rfl | refine And.intro ?_ ?_)) <;> (try ((conv => whnf); first | refine vint ?_ | refine vboo ?_ | refine rint ?_ | refine rrow ?_ | skip)) <;> (try first | omega | (simp; done) | ((repeat rw [flts_closed _ (by assumption)]); exact vws_closed _ (by assumption))))) (fun x hx => ?_)
    refine ⟨fun h2 => ?_, fun h2 => ?_⟩
    · have h2 : x < 2 := by have := of_decide_eq_true h2; omega
      conv => whnf
      refine aloopI tyOk mx (fun y : Nat => (⟨40, [(1, .ptr 0 0), (3, .own 1), (4, .c (.int .i64 (k))), (5, .c (.int .i64 (esRow k m x (esTo k m x) y))), (6, .c (.int .i64 (x))), (7, .c (.int .i64 (y)))], [(0, .cells 53 [.c (.int .i64 (2)), .c (.int .i64 (2)), .c (.int .i64 (z)), .t (.rows m)]), (1, .ints 3 .i64 ((List.range k).map fun k => esTo k m 2))], 2⟩ : St)) (fun y => y ≤ 2) (fun y => 2 - y) 0 (Nat.zero_le _) none (by refine ⟨rfl, rfl, ?_, ?_⟩ <;> ((repeat' (first | exact trivial | exact rfl | refine And.intro ?_ ?_)) <;> (try ((conv => whnf); first | refine vint ?_ | refine vboo ?_ | refine rint ?_ | refine rrow ?_ | skip)) <;> (try first | omega | (simp; done) | ((repeat rw [flts_closed _ (by assumption)]); exact vws_closed _ (by assumption))))) (fun y hy => ?_)
      refine ⟨fun h3 => ?_, fun h3 => ?_⟩
      · have h3 : y < 2 := by have := of_decide_eq_true h3; omega
        refine ADraw.plan tyOk mx (.q 0 (.q 1 (.q 2 (.q 3 (.q 7 (.q 8 (.q 9 (.last 4 (.q 5 (.q 6 (.last 10 (.last 11 (.q 12 (.q 13 (.q 14 (.done))))))))))))))) : Plan) (by kernel_rfl) ?_
        conv => whnf
        refine ACall.useR (l6Odd_spec k x y) ?_
        conv => whnf
        refine ACall.useR (l2Row_spec 2 2 x y z m (by omega) (by omega)) ?_
        conv => whnf
        refine ACall.useR (l2Agree_spec (m.getD (x * 2 + y) []) (h4 _ (getD_mem (by omega)))) ?_
        conv => whnf
        rw [nat_wrap (by omega), odd_eq h h2 h3, Int.mul_comm (IntKind.i64.wrap (1 - IntKind.i64.wrap (2 * oddAt k x y)))]
        exact ⟨y + 1, none, (by refine ⟨rfl, rfl, ?_, ?_⟩ <;> ((repeat' (first | exact trivial | exact rfl | refine And.intro ?_ ?_)) <;> (try ((conv => whnf); first | refine vint ?_ | refine vboo ?_ | refine rint ?_ | refine rrow ?_ | skip)) <;> (try first | omega | (simp; done) | ((repeat rw [flts_closed _ (by assumption)]); exact vws_closed _ (by assumption))))), by omega, by omega⟩
      · have h3 : ¬ y < 2 := by have := of_decide_eq_false h3; omega
        obtain rfl : y = 2 := by omega
        conv => whnf
        rw [nat_wrap (by omega)]
        exact ⟨x + 1, none, (by refine ⟨rfl, rfl, ?_, ?_⟩ <;> ((repeat' (first | exact trivial | exact rfl | refine And.intro ?_ ?_)) <;> (try ((conv => whnf); first | refine vint ?_ | refine vboo ?_ | refine rint ?_ | refine rrow ?_ | skip)) <;> (try first | omega | (simp; done) | ((repeat rw [flts_closed _ (by assumption)]); exact vws_closed _ (by assumption))))), by omega, by omega⟩
    · have h2 : ¬ x < 2 := by have := of_decide_eq_false h2; omega
      obtain rfl : x = 2 := by omega
      conv => whnf
      refine ⟨by simp [room]; omega, ?_⟩
      conv => whnf
      rw [nat_wrap (by omega)]
      refine ⟨k + 1, none, ?_, by omega, by omega⟩
      (refine ⟨rfl, rfl, ?_, ?_⟩ <;> ((repeat' (first | exact trivial | exact rfl | refine And.intro ?_ ?_)) <;> (try ((conv => whnf); first | refine vint ?_ | refine vboo ?_ | refine rint ?_ | refine rrow ?_ | skip)) <;> (try first | omega | (simp; done) | ((repeat rw [flts_closed _ (by assumption)]); exact vws_closed _ (by assumption)))))
      rw [← map_range_succ]; rfl
  · have h : ¬ k < 8 := by have := of_decide_eq_false h; omega
    obtain rfl : k = 8 := by omega
    conv => whnf
    exact ⟨rfl, rfl⟩
def esRes (x y z : Int) (m : List (List Int)) : List Int := if pairB x y z m then esL m else []
theorem EightSums_s (x y z : Int) (m : List (List Int)) (_hx : InR x) (_hy : InR y) (_hz : InR z) (_hm : OkM m) (km : SzM m) :
    FSpec Try.prog 74 [.ag [.c (.int .i64 (x)), .c (.int .i64 (y)), .c (.int .i64 (z)), .t (.rows m)]] (ex (.tu [.own 0, .c (.bool (pairB x y z m))]) [(0, .ints 3 .i64 (esRes x y z m))]) := by
  refine fspec tyOk mx Try.func74 rfl (by kernel_rfl) rfl ?_
  conv => whnf
  refine ACall.use (l6Two_spec x y z m km) ?_
  conv => whnf
  refine ⟨fun h => ?_, fun h => ?_⟩
  · have h : pairB x y z m = false := by simpa using h
    conv => whnf
    refine ⟨?_, ?_⟩
    · rw [h]
    · rw [esRes, h]; rfl
  · have h : pairB x y z m = true := by simpa using h
    have h' := h
    obtain ⟨rfl, rfl, g1, g2, g3, g4⟩ := pairB_spec h
    conv => whnf
    refine ACall.use (l6Sums_spec z m g3 (fun r hr => (g4 r hr).1)) ?_
    conv => whnf
    refine ⟨?_, ?_⟩
    · rw [h']
    · rw [esRes, h']; rfl
theorem EightSums_i (x y z : Int) (m : List (List Int)) (_hx : InR x) (_hy : InR y) (_hz : InR z) (_hm : OkM m) (km : SzM m) :
    FSpec Try.prog 73 [.ag [.c (.int .i64 (x)), .c (.int .i64 (y)), .c (.int .i64 (z)), .t (.rows m)]] (ex (.tu [.own 0, .c (.bool (pairB x y z m))]) [(0, .ints 3 .i64 (esRes x y z m))]) := by
  refine view_ints ?_
  refine fspec tyOk mx Try.func73 rfl (by kernel_rfl) rfl ?_
  conv => whnf
  refine ACall.use (isPair_spec x y z m km) ?_
  conv => whnf
  refine ⟨fun h => ?_, fun h => ?_⟩
  · have h : pairB x y z m = false := by simpa using h
    conv => whnf
    exact .inl ⟨h, rfl, rfl⟩
  · have h : pairB x y z m = true := by simpa using h
    have h' := h
    obtain ⟨rfl, rfl, g1, g2, g3, g4⟩ := pairB_spec h
    conv => whnf
    refine ACall.use (eightSums_spec z m g3 (fun r hr => (g4 r hr).1)) ?_
    conv => whnf
    exact .inr ⟨h', rfl, rfl⟩
theorem EightSums_bd (x y z : Int) (m : List (List Int)) (_hx : InR x) (_hy : InR y) (_hz : InR z) (_hm : OkM m) (_km : SzM m) : (esRes x y z m).length ≤ 1000000 := by
  unfold esRes
  split
  · simp [esL]
  · simp
end Go.Proofs.Ytkomndcehdneaaa
/- Quiet boxes: reference and program. -/
namespace Go.Aw
def one0 (r : List Int) : Int := W (r.getD 2 0 + r.getD 3 0)
def one1 (r : List Int) : Int := W (r.getD 1 0 + r.getD 3 0)
def q0 (ny : Nat) (m : List (List Int)) (x y : Nat) : Bool := one0 (m.getD (x * ny + y) []) == one0 (m.getD (x * ny + 0) [])
def q1 (ny : Nat) (m : List (List Int)) (y x : Nat) : Bool := one1 (m.getD (x * ny + y) []) == one1 (m.getD (0 * ny + y) [])
def q0r (ny : Nat) (m : List (List Int)) (x : Nat) : Bool := (List.range ny).all (q0 ny m x)
def q1r (nx ny : Nat) (m : List (List Int)) (y : Nat) : Bool := (List.range nx).all (q1 ny m y)
def quietF (nx ny : Nat) (m : List (List Int)) : Bool := (List.range nx).all (q0r ny m) && (List.range ny).all (q1r nx ny m)
theorem q0_zero (ny : Nat) (m : List (List Int)) (x : Nat) : q0 ny m x 0 = true := beq_self_eq_true _
theorem q1_zero (ny : Nat) (m : List (List Int)) (y : Nat) : q1 ny m y 0 = true := beq_self_eq_true _
end Go.Aw
namespace Go.Proofs.Ytkomndcehdneaaa
open Go.Aw
set_option maxRecDepth 100000
set_option maxHeartbeats 4000000

theorem at_spec (nx ny i k a b : Nat) (z : Int) (m : List (List Int)) (hi : i * ny + k < m.length) (hb : i * ny + k ≤ 1000000) (ha : 2 * a + b < (m.getD (i * ny + k) []).length) (hb2 : 2 * a + b ≤ 1000000) :
    FSpec Try.prog 169 [.ag [.c (.int .i64 (nx)), .c (.int .i64 (ny)), .c (.int .i64 (z)), .t (.rows m)], .c (.int .i64 (i)), .c (.int .i64 (k)), .c (.int .i64 (a)), .c (.int .i64 (b))] (ex (.c (.int .i64 ((m.getD (i * ny + k) []).getD (2 * a + b) 0))) []) := by
  refine fspec tyOk mx Try.func169 rfl (by kernel_rfl) rfl ?_
  conv => whnf
  refine ⟨i * ny + k, natMulAdd hb, hi, ?_⟩
  conv => whnf
  refine ⟨2 * a + b, two_add hb2, ha, ?_⟩
  conv => whnf
  exact ⟨rfl, rfl⟩

theorem ones0_spec (nx ny q o : Nat) (z : Int) (m : List (List Int)) (hi : q * ny + o < m.length) (hb : q * ny + o ≤ 1000000) (h4 : ∀ r, r ∈ m → r.length = 4) :
    FSpec Try.prog 214 [.ag [.c (.int .i64 (nx)), .c (.int .i64 (ny)), .c (.int .i64 (z)), .t (.rows m)], .c (.int .i64 ((0 : Nat))), .c (.int .i64 (q)), .c (.int .i64 (o))] (ex (.c (.int .i64 (one0 (m.getD (q * ny + o) [])))) []) := by
  have h := h4 _ (getD_mem (d := []) hi)
  refine fspec tyOk mx Try.func214 rfl (by kernel_rfl) rfl ?_
  conv => whnf
  refine ⟨fun _ => ?_, fun h => absurd h (by decide)⟩
  conv => whnf
  refine ADraw.std tyOk mx ⟨by kernel_rfl, ?_⟩
  conv => whnf
  refine QCall.use (at_spec nx ny q o 1 0 z m hi hb (by omega) (by omega)) ?_
  conv => whnf
  refine QCall.use (at_spec nx ny q o 1 1 z m hi hb (by omega) (by omega)) ?_
  conv => whnf
  exact ⟨rfl, rfl⟩
theorem ones1_spec (nx ny q o : Nat) (z : Int) (m : List (List Int)) (hi : o * ny + q < m.length) (hb : o * ny + q ≤ 1000000) (h4 : ∀ r, r ∈ m → r.length = 4) :
    FSpec Try.prog 214 [.ag [.c (.int .i64 (nx)), .c (.int .i64 (ny)), .c (.int .i64 (z)), .t (.rows m)], .c (.int .i64 ((1 : Nat))), .c (.int .i64 (q)), .c (.int .i64 (o))] (ex (.c (.int .i64 (one1 (m.getD (o * ny + q) [])))) []) := by
  have h := h4 _ (getD_mem (d := []) hi)
  refine fspec tyOk mx Try.func214 rfl (by kernel_rfl) rfl ?_
  conv => whnf
  refine ⟨fun h => absurd h (by decide), fun _ => ?_⟩
  conv => whnf
  refine ADraw.std tyOk mx ⟨by kernel_rfl, ?_⟩
  conv => whnf
  refine QCall.use (at_spec nx ny o q 0 1 z m hi hb (by omega) (by omega)) ?_
  conv => whnf
  refine QCall.use (at_spec nx ny o q 1 1 z m hi hb (by omega) (by omega)) ?_
  conv => whnf
  exact ⟨rfl, rfl⟩

theorem questions_spec (x y z : Int) (m : List (List Int)) : FSpec Try.prog 213 [.ag [.c (.int .i64 (x)), .c (.int .i64 (y)), .c (.int .i64 (z)), .t (.rows m)]] (ex (.ag [.c (.int .i64 (x)), .c (.int .i64 (y))]) []) := by
  refine fspec tyOk mx Try.func213 rfl (by kernel_rfl) rfl ?_
  conv => whnf
  exact ⟨rfl, rfl⟩

def loudP (b : Bool) : AVal → List (Nat × ARow) → Prop := fun v h => ∃ a c : Int, v = .tu [.c (.int .i64 (a)), .c (.int .i64 (c)), .c (.bool (!b))] ∧ h = []

theorem loud_spec (nx ny : Nat) (z : Int) (m : List (List Int)) (hx : nx ≤ 3) (hy : ny ≤ 3) (hy1 : 1 ≤ ny) (hx1 : 1 ≤ nx) (hm : m.length = nx * ny) (h4 : ∀ r, r ∈ m → r.length = 4) :
    FSpec Try.prog 240 [.ag [.c (.int .i64 (nx)), .c (.int .i64 (ny)), .c (.int .i64 (z)), .t (.rows m)]] (loudP (quietF nx ny m)) := by
  have hn : nx * ny ≤ 3 * 3 := Nat.mul_le_mul hx hy
  refine fspec tyOk mx Try.func240 rfl (by kernel_rfl) rfl ?_
  conv => whnf
  refine ACall.use (questions_spec _ _ _ _) ?_
  conv => whnf
  refine aloopI tyOk mx (fun p : Nat => (⟨42, [(1, .ptr 0 0), (5, .ptr 1 0), (11, .c (.int .i64 (p)))], [(0, .cells 53 [.c (.int .i64 (nx)), .c (.int .i64 (ny)), .c (.int .i64 (z)), .t (.rows m)]), (1, .cells 158 [.c (.int .i64 (nx)), .c (.int .i64 (ny))])], 2⟩ : St)) (fun p => p ≤ 2 ∧ (1 ≤ p → (List.range nx).all (q0r ny m) = true) ∧ (2 ≤ p → (List.range ny).all (q1r nx ny m) = true)) (fun p => 2 - p) 0 ⟨by omega, by omega, by omega⟩ none (by refine ⟨rfl, rfl, ?_, ?_⟩ <;> ((repeat' (first | exact trivial | exact rfl | refine And.intro ?_ ?_)) <;> (try ((conv => whnf); first | refine vint ?_ | refine vboo ?_ | refine rint ?_ | refine rrow ?_ | skip)) <;> (try first | omega | (simp; done) | ((repeat rw [flts_closed _ (by assumption)]); exact vws_closed _ (by assumption))))) (fun p hI => ?_)
  obtain ⟨hp, hq0, hq1⟩ := hI
  refine ⟨fun h => ?_, fun h => ?_⟩
  · have h : p < 2 := by have := of_decide_eq_true h; omega
    have hp2 : p = 0 ∨ p = 1 := by omega
    rcases hp2 with rfl | rfl
    · conv => whnf
      refine ⟨0, rfl, by omega, by simp, ?_⟩
      conv => whnf
      refine aloopI tyOk mx (fun x : Nat => (⟨42, [(1, .ptr 0 0), (5, .ptr 1 0), (6, .c (.int .i64 ((0 : Nat)))), (11, .c (.int .i64 ((0 : Nat)))), (16, .c (.int .i64 (nx))), (17, .c (.int .i64 (x)))], [(0, .cells 53 [.c (.int .i64 (nx)), .c (.int .i64 (ny)), .c (.int .i64 (z)), .t (.rows m)]), (1, .cells 158 [.c (.int .i64 (nx)), .c (.int .i64 (ny))])], 2⟩ : St)) (fun x => x ≤ nx ∧ (List.range x).all (q0r ny m) = true) (fun x => nx - x) 0 ⟨by omega, rfl⟩ none (by refine ⟨rfl, rfl, ?_, ?_⟩ <;> ((repeat' (first | exact trivial | exact rfl | refine And.intro ?_ ?_)) <;> (try ((conv => whnf); first | refine vint ?_ | refine vboo ?_ | refine rint ?_ | refine rrow ?_ | skip)) <;> (try first | omega | (simp; done) | ((repeat rw [flts_closed _ (by assumption)]); exact vws_closed _ (by assumption))))) (fun x hI => ?_)
      obtain ⟨hxx, hpx⟩ := hI
      refine ⟨fun h2 => ?_, fun h2 => ?_⟩
      · have h2 := ltT h2
        have hlt0 := ix_lt h2 (show 0 < ny by omega)
        conv => whnf
        refine ⟨1, rfl, by omega, by simp, ?_⟩
        conv => whnf
        refine aloopI tyOk mx (fun y : Nat => (⟨42, [(1, .ptr 0 0), (5, .ptr 1 0), (6, .c (.int .i64 ((0 : Nat)))), (7, .c (.int .i64 (x))), (11, .c (.int .i64 ((0 : Nat)))), (16, .c (.int .i64 (nx))), (17, .c (.int .i64 (x))), (23, .c (.int .i64 (ny))), (24, .c (.int .i64 (y)))], [(0, .cells 53 [.c (.int .i64 (nx)), .c (.int .i64 (ny)), .c (.int .i64 (z)), .t (.rows m)]), (1, .cells 158 [.c (.int .i64 (nx)), .c (.int .i64 (ny))])], 2⟩ : St)) (fun y => y ≤ ny ∧ (List.range y).all (q0 ny m x) = true) (fun y => ny - y) 0 ⟨by omega, rfl⟩ none (by refine ⟨rfl, rfl, ?_, ?_⟩ <;> ((repeat' (first | exact trivial | exact rfl | refine And.intro ?_ ?_)) <;> (try ((conv => whnf); first | refine vint ?_ | refine vboo ?_ | refine rint ?_ | refine rrow ?_ | skip)) <;> (try first | omega | (simp; done) | ((repeat rw [flts_closed _ (by assumption)]); exact vws_closed _ (by assumption))))) (fun y hI => ?_)
        obtain ⟨hyy, hpy⟩ := hI
        refine ⟨fun h3 => ?_, fun h3 => ?_⟩
        · have h3 := ltT h3
          have hlt := ix_lt h2 h3
          conv => whnf
          refine ADraw.std tyOk mx ⟨by kernel_rfl, ?_⟩
          conv => whnf
          refine QCall.use (ones0_spec nx ny x y z m (by omega) (by omega) h4) ?_
          conv => whnf
          refine QCall.use (ones0_spec nx ny x 0 z m (by omega) (by omega) h4) ?_
          conv => whnf
          refine ⟨fun h5 => ?_, fun h5 => ?_⟩
          · have e : quietF nx ny m = false := by
              have : q0 ny m x y = false := by rw [q0, beq_eq_false_iff_ne]; exact bne_iff_ne.1 h5
              rw [quietF, rall_false h2 (by rw [q0r, rall_false h3 this]), Bool.false_and]
            conv => whnf
            exact ⟨_, _, by rw [e]; rfl, rfl⟩
          · have e : q0 ny m x y = true := by rw [q0, beq_iff_eq]; exact bne_eq_false_iff_eq.1 h5
            conv => whnf
            rw [nat_wrap (by omega)]
            exact ⟨y + 1, none, (by refine ⟨rfl, rfl, ?_, ?_⟩ <;> ((repeat' (first | exact trivial | exact rfl | refine And.intro ?_ ?_)) <;> (try ((conv => whnf); first | refine vint ?_ | refine vboo ?_ | refine rint ?_ | refine rrow ?_ | skip)) <;> (try first | omega | (simp; done) | ((repeat rw [flts_closed _ (by assumption)]); exact vws_closed _ (by assumption))))), ⟨by omega, rall_succ hpy e⟩, by omega⟩
        · have h3 := ltF h3
          obtain rfl : y = ny := by omega
          conv => whnf
          rw [nat_wrap (by omega)]
          exact ⟨x + 1, none, (by refine ⟨rfl, rfl, ?_, ?_⟩ <;> ((repeat' (first | exact trivial | exact rfl | refine And.intro ?_ ?_)) <;> (try ((conv => whnf); first | refine vint ?_ | refine vboo ?_ | refine rint ?_ | refine rrow ?_ | skip)) <;> (try first | omega | (simp; done) | ((repeat rw [flts_closed _ (by assumption)]); exact vws_closed _ (by assumption))))), ⟨by omega, rall_succ hpx hpy⟩, by omega⟩
      · have h2 := ltF h2
        obtain rfl : x = nx := by omega
        conv => whnf
        exact ⟨1, none, (by refine ⟨rfl, rfl, ?_, ?_⟩ <;> ((repeat' (first | exact trivial | exact rfl | refine And.intro ?_ ?_)) <;> (try ((conv => whnf); first | refine vint ?_ | refine vboo ?_ | refine rint ?_ | refine rrow ?_ | skip)) <;> (try first | omega | (simp; done) | ((repeat rw [flts_closed _ (by assumption)]); exact vws_closed _ (by assumption))))), ⟨by omega, fun _ => hpx, by omega⟩, by omega⟩
    · conv => whnf
      refine ⟨1, rfl, by omega, by simp, ?_⟩
      conv => whnf
      refine aloopI tyOk mx (fun y : Nat => (⟨42, [(1, .ptr 0 0), (5, .ptr 1 0), (6, .c (.int .i64 ((1 : Nat)))), (11, .c (.int .i64 ((1 : Nat)))), (16, .c (.int .i64 (ny))), (17, .c (.int .i64 (y)))], [(0, .cells 53 [.c (.int .i64 (nx)), .c (.int .i64 (ny)), .c (.int .i64 (z)), .t (.rows m)]), (1, .cells 158 [.c (.int .i64 (nx)), .c (.int .i64 (ny))])], 2⟩ : St)) (fun y => y ≤ ny ∧ (List.range y).all (q1r nx ny m) = true) (fun y => ny - y) 0 ⟨by omega, rfl⟩ none (by refine ⟨rfl, rfl, ?_, ?_⟩ <;> ((repeat' (first | exact trivial | exact rfl | refine And.intro ?_ ?_)) <;> (try ((conv => whnf); first | refine vint ?_ | refine vboo ?_ | refine rint ?_ | refine rrow ?_ | skip)) <;> (try first | omega | (simp; done) | ((repeat rw [flts_closed _ (by assumption)]); exact vws_closed _ (by assumption))))) (fun y hI => ?_)
      obtain ⟨hyy, hpy⟩ := hI
      refine ⟨fun h2 => ?_, fun h2 => ?_⟩
      · have h2 := ltT h2
        have hlt0 := ix_lt (show 0 < nx by omega) h2
        conv => whnf
        refine ⟨0, rfl, by omega, by simp, ?_⟩
        conv => whnf
        refine aloopI tyOk mx (fun x : Nat => (⟨42, [(1, .ptr 0 0), (5, .ptr 1 0), (6, .c (.int .i64 ((1 : Nat)))), (7, .c (.int .i64 (y))), (11, .c (.int .i64 ((1 : Nat)))), (16, .c (.int .i64 (ny))), (17, .c (.int .i64 (y))), (23, .c (.int .i64 (nx))), (24, .c (.int .i64 (x)))], [(0, .cells 53 [.c (.int .i64 (nx)), .c (.int .i64 (ny)), .c (.int .i64 (z)), .t (.rows m)]), (1, .cells 158 [.c (.int .i64 (nx)), .c (.int .i64 (ny))])], 2⟩ : St)) (fun x => x ≤ nx ∧ (List.range x).all (q1 ny m y) = true) (fun x => nx - x) 0 ⟨by omega, rfl⟩ none (by refine ⟨rfl, rfl, ?_, ?_⟩ <;> ((repeat' (first | exact trivial | exact rfl | refine And.intro ?_ ?_)) <;> (try ((conv => whnf); first | refine vint ?_ | refine vboo ?_ | refine rint ?_ | refine rrow ?_ | skip)) <;> (try first | omega | (simp; done) | ((repeat rw [flts_closed _ (by assumption)]); exact vws_closed _ (by assumption))))) (fun x hI => ?_)
        obtain ⟨hxx, hpx⟩ := hI
        refine ⟨fun h3 => ?_, fun h3 => ?_⟩
        · have h3 := ltT h3
          have hlt := ix_lt h3 h2
          conv => whnf
          refine ADraw.std tyOk mx ⟨by kernel_rfl, ?_⟩
          conv => whnf
          refine QCall.use (ones1_spec nx ny y x z m (by omega) (by omega) h4) ?_
          conv => whnf
          refine QCall.use (ones1_spec nx ny y 0 z m (by omega) (by omega) h4) ?_
          conv => whnf
          refine ⟨fun h5 => ?_, fun h5 => ?_⟩
          · have e : quietF nx ny m = false := by
              have : q1 ny m y x = false := by rw [q1, beq_eq_false_iff_ne]; exact bne_iff_ne.1 h5
              rw [quietF, rall_false (p := q1r nx ny m) h2 (by rw [q1r, rall_false h3 this]), Bool.and_false]
            conv => whnf
            exact ⟨_, _, by rw [e]; rfl, rfl⟩
          · have e : q1 ny m y x = true := by rw [q1, beq_iff_eq]; exact bne_eq_false_iff_eq.1 h5
            conv => whnf
            rw [nat_wrap (by omega)]
            exact ⟨x + 1, none, (by refine ⟨rfl, rfl, ?_, ?_⟩ <;> ((repeat' (first | exact trivial | exact rfl | refine And.intro ?_ ?_)) <;> (try ((conv => whnf); first | refine vint ?_ | refine vboo ?_ | refine rint ?_ | refine rrow ?_ | skip)) <;> (try first | omega | (simp; done) | ((repeat rw [flts_closed _ (by assumption)]); exact vws_closed _ (by assumption))))), ⟨by omega, rall_succ hpx e⟩, by omega⟩
        · have h3 := ltF h3
          obtain rfl : x = nx := by omega
          conv => whnf
          rw [nat_wrap (by omega)]
          exact ⟨y + 1, none, (by refine ⟨rfl, rfl, ?_, ?_⟩ <;> ((repeat' (first | exact trivial | exact rfl | refine And.intro ?_ ?_)) <;> (try ((conv => whnf); first | refine vint ?_ | refine vboo ?_ | refine rint ?_ | refine rrow ?_ | skip)) <;> (try first | omega | (simp; done) | ((repeat rw [flts_closed _ (by assumption)]); exact vws_closed _ (by assumption))))), ⟨by omega, rall_succ hpy hpx⟩, by omega⟩
      · have h2 := ltF h2
        obtain rfl : y = ny := by omega
        conv => whnf
        exact ⟨2, none, (by refine ⟨rfl, rfl, ?_, ?_⟩ <;> ((repeat' (first | exact trivial | exact rfl | refine And.intro ?_ ?_)) <;> (try ((conv => whnf); first | refine vint ?_ | refine vboo ?_ | refine rint ?_ | refine rrow ?_ | skip)) <;> (try first | omega | (simp; done) | ((repeat rw [flts_closed _ (by assumption)]); exact vws_closed _ (by assumption))))), ⟨by omega, fun _ => hq0 (by omega), fun _ => hpy⟩, by omega⟩
  · have h : ¬ p < 2 := by have := of_decide_eq_false h; omega
    obtain rfl : p = 2 := by omega
    have e : quietF nx ny m = true := by rw [quietF, hq0 (by omega), hq1 (by omega)]; rfl
    conv => whnf
    exact ⟨_, _, by rw [e]; rfl, rfl⟩

theorem l2One0_spec (r : List Int) (hr : r.length = 4) : FSpec Try.prog 215 [.t (.ints .i64 r), .c (.int .i64 (0))] (ex (.c (.int .i64 (one0 r))) []) := by
  refine fspec tyOk mx Try.func215 rfl (by kernel_rfl) rfl ?_
  conv => whnf
  refine ⟨fun _ => ?_, fun h => absurd h (by decide)⟩
  refine ADraw.std tyOk mx ⟨by kernel_rfl, 2, rfl, by omega, 3, rfl, by omega, ?_⟩
  conv => whnf
  exact ⟨rfl, rfl⟩
theorem l2One1_spec (r : List Int) (hr : r.length = 4) : FSpec Try.prog 215 [.t (.ints .i64 r), .c (.int .i64 (1))] (ex (.c (.int .i64 (one1 r))) []) := by
  refine fspec tyOk mx Try.func215 rfl (by kernel_rfl) rfl ?_
  conv => whnf
  refine ⟨fun h => absurd h (by decide), fun _ => ?_⟩
  refine ADraw.std tyOk mx ⟨by kernel_rfl, 1, rfl, by omega, 3, rfl, by omega, ?_⟩
  conv => whnf
  exact ⟨rfl, rfl⟩

def lqP (b : Bool) : AVal → List (Nat × ARow) → Prop := fun v h => ∃ a c : Int, v = .tu [.c (.int .i64 (a)), .c (.int .i64 (c))] ∧ h = [] ∧ decide (a < 0) = b

theorem l2Loud_spec (nx ny : Nat) (z : Int) (m : List (List Int)) (hx : nx ≤ 3) (hy : ny ≤ 3) (hy1 : 1 ≤ ny) (hx1 : 1 ≤ nx) (hm : m.length = nx * ny) (h4 : ∀ r, r ∈ m → r.length = 4) :
    FSpec Try.prog 265 [.ag [.c (.int .i64 (nx)), .c (.int .i64 (ny)), .c (.int .i64 (z)), .t (.rows m)]] (lqP (quietF nx ny m)) := by
  have hn : nx * ny ≤ 3 * 3 := Nat.mul_le_mul hx hy
  refine fspec tyOk mx Try.func265 rfl (by kernel_rfl) rfl ?_
  conv => whnf
  refine aloopI tyOk mx (fun x : Nat => (⟨54, [(1, .ptr 0 0), (4, .c (.int .i64 (x)))], [(0, .cells 53 [.c (.int .i64 (nx)), .c (.int .i64 (ny)), .c (.int .i64 (z)), .t (.rows m)])], 1⟩ : St)) (fun x => x ≤ nx ∧ (List.range x).all (q0r ny m) = true) (fun x => nx - x) 0 ⟨by omega, rfl⟩ none (by refine ⟨rfl, rfl, ?_, ?_⟩ <;> ((repeat' (first | exact trivial | exact rfl | refine And.intro ?_ ?_)) <;> (try ((conv => whnf); first | refine vint ?_ | refine vboo ?_ | refine rint ?_ | refine rrow ?_ | skip)) <;> (try first | omega | (simp; done) | ((repeat rw [flts_closed _ (by assumption)]); exact vws_closed _ (by assumption))))) (fun x hI => ?_)
  obtain ⟨hxx, hpx⟩ := hI
  refine ⟨fun h2 => ?_, fun h2 => ?_⟩
  · have h2 := ltT h2
    have hlt0 := ix_lt h2 (show 0 < ny by omega)
    conv => whnf
    refine aloopI tyOk mx (fun j : Nat => (⟨54, [(1, .ptr 0 0), (4, .c (.int .i64 (x))), (5, .c (.int .i64 ((j + 1 : Nat))))], [(0, .cells 53 [.c (.int .i64 (nx)), .c (.int .i64 (ny)), .c (.int .i64 (z)), .t (.rows m)])], 1⟩ : St)) (fun j => j + 1 ≤ ny ∧ (List.range (j + 1)).all (q0 ny m x) = true) (fun j => ny - j) 0 ⟨by omega, by rw [List.range_one]; simp [q0_zero]⟩ none (by refine ⟨rfl, rfl, ?_, ?_⟩ <;> ((repeat' (first | exact trivial | exact rfl | refine And.intro ?_ ?_)) <;> (try ((conv => whnf); first | refine vint ?_ | refine vboo ?_ | refine rint ?_ | refine rrow ?_ | skip)) <;> (try first | omega | (simp; done) | ((repeat rw [flts_closed _ (by assumption)]); exact vws_closed _ (by assumption))))) (fun j hI => ?_)
    obtain ⟨hyy, hpy⟩ := hI
    refine ⟨fun h3 => ?_, fun h3 => ?_⟩
    · have h3 := ltT h3
      have hlt := ix_lt h2 h3
      refine ADraw.plan tyOk mx (.q 0 (.q 1 (.q 2 (.q 5 (.q 6 (.last 3 (.last 4 (.last 7 (.last 8 (.q 9 (.done)))))))))) : Plan) (by kernel_rfl) ?_
      conv => whnf
      refine ACall.useR (l2Row_spec nx ny x (j + 1) z m (by omega) (by omega)) ?_
      conv => whnf
      refine ACall.useR (l2One0_spec _ (h4 _ (getD_mem (show x * ny + (j + 1) < m.length by omega)))) ?_
      conv => whnf
      refine ACall.useR (l2Row_spec nx ny x 0 z m (by omega) (by omega)) ?_
      conv => whnf
      refine ACall.useR (l2One0_spec _ (h4 _ (getD_mem (show x * ny + 0 < m.length by omega)))) ?_
      conv => whnf
      refine ⟨fun h5 => ?_, fun h5 => ?_⟩
      · have e : quietF nx ny m = false := by
          have : q0 ny m x (j + 1) = false := by rw [q0, beq_eq_false_iff_ne]; exact bne_iff_ne.1 h5
          rw [quietF, rall_false h2 (by rw [q0r, rall_false h3 this]), Bool.false_and]
        conv => whnf
        exact ⟨_, _, rfl, rfl, by rw [e]; decide⟩
      · have e : q0 ny m x (j + 1) = true := by rw [q0, beq_iff_eq]; exact bne_eq_false_iff_eq.1 h5
        conv => whnf
        rw [nat_wrap (by omega)]
        exact ⟨j + 1, none, (by refine ⟨rfl, rfl, ?_, ?_⟩ <;> ((repeat' (first | exact trivial | exact rfl | refine And.intro ?_ ?_)) <;> (try ((conv => whnf); first | refine vint ?_ | refine vboo ?_ | refine rint ?_ | refine rrow ?_ | skip)) <;> (try first | omega | (simp; done) | ((repeat rw [flts_closed _ (by assumption)]); exact vws_closed _ (by assumption))))), ⟨by omega, rall_succ hpy e⟩, by omega⟩
    · have h3 := ltF h3
      obtain rfl : ny = j + 1 := by omega
      conv => whnf
      rw [nat_wrap (by omega)]
      exact ⟨x + 1, none, (by refine ⟨rfl, rfl, ?_, ?_⟩ <;> ((repeat' (first | exact trivial | exact rfl | refine And.intro ?_ ?_)) <;> (try ((conv => whnf); first | refine vint ?_ | refine vboo ?_ | refine rint ?_ | refine rrow ?_ | skip)) <;> (try first | omega | (simp; done) | ((repeat rw [flts_closed _ (by assumption)]); exact vws_closed _ (by assumption))))), ⟨by omega, rall_succ hpx hpy⟩, by omega⟩
  · have h2 := ltF h2
    have hall : (List.range nx).all (q0r ny m) = true := by
      have : x = nx := by omega
      rw [← this]; exact hpx
    conv => whnf
    refine aloopI tyOk mx (fun y : Nat => (⟨54, [(1, .ptr 0 0), (6, .c (.int .i64 (y)))], [(0, .cells 53 [.c (.int .i64 (nx)), .c (.int .i64 (ny)), .c (.int .i64 (z)), .t (.rows m)])], 1⟩ : St)) (fun y => y ≤ ny ∧ (List.range y).all (q1r nx ny m) = true) (fun y => ny - y) 0 ⟨by omega, rfl⟩ none (by refine ⟨rfl, rfl, ?_, ?_⟩ <;> ((repeat' (first | exact trivial | exact rfl | refine And.intro ?_ ?_)) <;> (try ((conv => whnf); first | refine vint ?_ | refine vboo ?_ | refine rint ?_ | refine rrow ?_ | skip)) <;> (try first | omega | (simp; done) | ((repeat rw [flts_closed _ (by assumption)]); exact vws_closed _ (by assumption))))) (fun y hI => ?_)
    obtain ⟨hyy, hpy⟩ := hI
    refine ⟨fun h2 => ?_, fun h2 => ?_⟩
    · have h2 := ltT h2
      have hlt0 := ix_lt (show 0 < nx by omega) h2
      conv => whnf
      refine aloopI tyOk mx (fun j : Nat => (⟨54, [(1, .ptr 0 0), (6, .c (.int .i64 (y))), (7, .c (.int .i64 ((j + 1 : Nat))))], [(0, .cells 53 [.c (.int .i64 (nx)), .c (.int .i64 (ny)), .c (.int .i64 (z)), .t (.rows m)])], 1⟩ : St)) (fun j => j + 1 ≤ nx ∧ (List.range (j + 1)).all (q1 ny m y) = true) (fun j => nx - j) 0 ⟨by omega, by rw [List.range_one]; simp [q1_zero]⟩ none (by refine ⟨rfl, rfl, ?_, ?_⟩ <;> ((repeat' (first | exact trivial | exact rfl | refine And.intro ?_ ?_)) <;> (try ((conv => whnf); first | refine vint ?_ | refine vboo ?_ | refine rint ?_ | refine rrow ?_ | skip)) <;> (try first | omega | (simp; done) | ((repeat rw [flts_closed _ (by assumption)]); exact vws_closed _ (by assumption))))) (fun j hI => ?_)
      obtain ⟨hxx2, hpx2⟩ := hI
      refine ⟨fun h3 => ?_, fun h3 => ?_⟩
      · have h3 := ltT h3
        have hlt := ix_lt h3 h2
        refine ADraw.plan tyOk mx (.q 0 (.q 1 (.q 2 (.q 5 (.q 6 (.last 3 (.last 4 (.last 7 (.last 8 (.q 9 (.done)))))))))) : Plan) (by kernel_rfl) ?_
        conv => whnf
        refine ACall.useR (l2Row_spec nx ny (j + 1) y z m (by omega) (by omega)) ?_
        conv => whnf
        refine ACall.useR (l2One1_spec _ (h4 _ (getD_mem (show (j + 1) * ny + y < m.length by omega)))) ?_
        conv => whnf
        refine ACall.useR (l2Row_spec nx ny 0 y z m (by omega) (by omega)) ?_
        conv => whnf
        refine ACall.useR (l2One1_spec _ (h4 _ (getD_mem (show 0 * ny + y < m.length by omega)))) ?_
        conv => whnf
        refine ⟨fun h5 => ?_, fun h5 => ?_⟩
        · have e : quietF nx ny m = false := by
            have : q1 ny m y (j + 1) = false := by rw [q1, beq_eq_false_iff_ne]; exact bne_iff_ne.1 h5
            rw [quietF, rall_false (p := q1r nx ny m) h2 (by rw [q1r, rall_false h3 this]), Bool.and_false]
          conv => whnf
          exact ⟨_, _, rfl, rfl, by rw [e]; decide⟩
        · have e : q1 ny m y (j + 1) = true := by rw [q1, beq_iff_eq]; exact bne_eq_false_iff_eq.1 h5
          conv => whnf
          rw [nat_wrap (by omega)]
          exact ⟨j + 1, none, (by refine ⟨rfl, rfl, ?_, ?_⟩ <;> ((repeat' (first | exact trivial | exact rfl | refine And.intro ?_ ?_)) <;> (try ((conv => whnf); first | refine vint ?_ | refine vboo ?_ | refine rint ?_ | refine rrow ?_ | skip)) <;> (try first | omega | (simp; done) | ((repeat rw [flts_closed _ (by assumption)]); exact vws_closed _ (by assumption))))), ⟨by omega, rall_succ hpx2 e⟩, by omega⟩
      · have h3 := ltF h3
        have e3 : nx = j + 1 := by omega
        conv => whnf
        rw [nat_wrap (by omega)]
        exact ⟨y + 1, none, (by refine ⟨rfl, rfl, ?_, ?_⟩ <;> ((repeat' (first | exact trivial | exact rfl | refine And.intro ?_ ?_)) <;> (try ((conv => whnf); first | refine vint ?_ | refine vboo ?_ | refine rint ?_ | refine rrow ?_ | skip)) <;> (try first | omega | (simp; done) | ((repeat rw [flts_closed _ (by assumption)]); exact vws_closed _ (by assumption))))), ⟨by omega, rall_succ hpy (by rw [q1r, e3]; exact hpx2)⟩, by omega⟩
    · have h2 := ltF h2
      obtain rfl : y = ny := by omega
      have e : quietF nx y m = true := by rw [quietF, hall, hpy]; rfl
      conv => whnf
      exact ⟨_, _, rfl, rfl, by rw [e]; decide⟩

theorem l2Quiet_spec (nx ny : Nat) (z : Int) (m : List (List Int)) (hx : nx ≤ 3) (hy : ny ≤ 3) (hy1 : 1 ≤ ny) (hx1 : 1 ≤ nx) (hm : m.length = nx * ny) (h4 : ∀ r, r ∈ m → r.length = 4) :
    FSpec Try.prog 249 [.ag [.c (.int .i64 (nx)), .c (.int .i64 (ny)), .c (.int .i64 (z)), .t (.rows m)]] (ex (.c (.bool (quietF nx ny m))) []) := by
  refine fspec tyOk mx Try.func249 rfl (by kernel_rfl) rfl ?_
  conv => whnf
  refine ACall.use' (l2Loud_spec nx ny z m hx hy hy1 hx1 hm h4) (fun v h hv => ?_)
  obtain ⟨a, c, rfl, rfl, e⟩ := hv
  conv => whnf
  exact ⟨by rw [e], rfl⟩

def quietB (x y z : Int) (m : List (List Int)) : Bool := goodB x y z m && quietF x.toNat y.toNat m
theorem isQuiet_spec (x y z : Int) (m : List (List Int)) (km : SzM m) : FSpec Try.prog 159 [.ag [.c (.int .i64 (x)), .c (.int .i64 (y)), .c (.int .i64 (z)), .t (.rows m)]] (ex (.c (.bool (quietB x y z m))) []) := by
  refine fspec tyOk mx Try.func159 rfl (by kernel_rfl) rfl ?_
  conv => whnf
  refine ACall.use (IsBox_spec x y z m km) ?_
  conv => whnf
  refine ⟨fun h => ?_, fun h => ?_⟩
  · have h : goodB x y z m = false := by simpa using h
    conv => whnf
    exact ⟨by rw [quietB, h]; rfl, rfl⟩
  · have h : goodB x y z m = true := by simpa using h
    have h' := h
    obtain ⟨nx, ny, rfl, rfl, g1, g2, g3, g4, g5, g6, g7, g8, g9⟩ := goodB_spec h
    conv => whnf
    refine ACall.use' (loud_spec nx ny z m g2 g4 g3 g1 g7 (fun r hr => (g9 r hr).1)) (fun v h hv => ?_)
    obtain ⟨a, c, rfl, rfl⟩ := hv
    conv => whnf
    refine ⟨?_, rfl⟩
    rw [quietB, h', Bool.not_not]; rfl
def qpB (x y z : Int) (m : List (List Int)) : Bool := pairB x y z m && quietF 2 2 m
theorem qpB_spec {x y z : Int} {m : List (List Int)} (h : qpB x y z m = true) : x = 2 ∧ y = 2 ∧ 1 ≤ z ∧ z ≤ 1000 ∧ m.length = 4 ∧ (∀ r, r ∈ m → r.length = 4 ∧ (∀ v, v ∈ r → 0 ≤ v ∧ v ≤ z) ∧ sumF r r.length = z) := by
  simp only [qpB, Bool.and_eq_true] at h
  exact pairB_spec h.1
theorem isQuietPair_spec (x y z : Int) (m : List (List Int)) (km : SzM m) : FSpec Try.prog 181 [.ag [.c (.int .i64 (x)), .c (.int .i64 (y)), .c (.int .i64 (z)), .t (.rows m)]] (ex (.c (.bool (qpB x y z m))) []) := by
  have key : qpB x y z m = (quietB x y z m && (decide (x = 2) && decide (y = 2))) := by
    rw [qpB, pairB, quietB]
    by_cases h1 : x = 2
    · by_cases h2 : y = 2
      · subst h1; subst h2
        simp
      · simp [h2]
    · simp [h1]
  refine fspec tyOk mx Try.func181 rfl (by kernel_rfl) rfl ?_
  conv => whnf
  refine ACall.use (isQuiet_spec x y z m km) ?_
  conv => whnf
  refine ⟨fun h => ?_, fun h => ?_⟩
  · conv => whnf
    refine ACall.use (hasTwo_spec x y) ?_
    conv => whnf
    exact ⟨by rw [key, h, Bool.true_and], rfl⟩
  · conv => whnf
    exact ⟨by rw [key, h, Bool.false_and], rfl⟩
theorem l6Quiet_spec (x y z : Int) (m : List (List Int)) (km : SzM m) : FSpec Try.prog 185 [.ag [.c (.int .i64 (x)), .c (.int .i64 (y)), .c (.int .i64 (z)), .t (.rows m)]] (ex (.c (.bool (qpB x y z m))) []) := by
  refine fspec tyOk mx Try.func185 rfl (by kernel_rfl) rfl ?_
  conv => whnf
  refine ACall.use (l6Two_spec x y z m km) ?_
  conv => whnf
  refine ⟨fun h => ?_, fun h => ?_⟩
  · have h' := h
    obtain ⟨rfl, rfl, g1, g2, g3, g4⟩ := pairB_spec h
    conv => whnf
    refine ACall.use (l2Quiet_spec 2 2 z m (by omega) (by omega) (by omega) (by omega) g3 (fun r hr => (g4 r hr).1)) ?_
    conv => whnf
    exact ⟨by rw [qpB, h', Bool.true_and], rfl⟩
  · conv => whnf
    exact ⟨by rw [qpB, h, Bool.false_and], rfl⟩
end Go.Proofs.Ytkomndcehdneaaa
/- IsExtreme, reference and program. -/
namespace Go.Aw
def alkN (z z' : Int) (m m' : List (List Int)) (i n : Nat) : Bool := decide (W ((m.getD i []).getD n 0 * z') = W ((m'.getD i []).getD n 0 * z))
def alkB (z z' : Int) (m m' : List (List Int)) : Bool := (List.range m.length).all fun i => (List.range 4).all (alkN z z' m m' i)
end Go.Aw
namespace Go.Proofs.Ytkomndcehdneaaa
open Go.Aw
set_option maxRecDepth 100000
set_option maxHeartbeats 4000000

theorem l2Alike_spec (x y z x' y' z' : Int) (m m' : List (List Int)) (hl : m'.length = m.length) (hb : m.length ≤ 1000) (h4 : ∀ r, r ∈ m → r.length = 4) (h4' : ∀ r, r ∈ m' → r.length = 4) :
    FSpec Try.prog 158 [.ag [.c (.int .i64 (x)), .c (.int .i64 (y)), .c (.int .i64 (z)), .t (.rows m)], .ag [.c (.int .i64 (x')), .c (.int .i64 (y')), .c (.int .i64 (z')), .t (.rows m')]] (ex (.c (.bool (alkB z z' m m'))) []) := by
  refine fspec tyOk mx Try.func158 rfl (by kernel_rfl) rfl ?_
  conv => whnf
  refine aloopI tyOk mx (fun i : Nat => (⟨41, [(2, .ptr 0 0), (3, .ptr 1 0), (5, .c (.int .i64 (i)))], [(0, .cells 53 [.c (.int .i64 (x)), .c (.int .i64 (y)), .c (.int .i64 (z)), .t (.rows m)]), (1, .cells 53 [.c (.int .i64 (x')), .c (.int .i64 (y')), .c (.int .i64 (z')), .t (.rows m')])], 2⟩ : St)) (fun i => i ≤ m.length ∧ (List.range i).all (fun i => (List.range 4).all (alkN z z' m m' i)) = true) (fun i => m.length - i) 0 ⟨Nat.zero_le _, rfl⟩ none (by refine ⟨rfl, rfl, ?_, ?_⟩ <;> ((repeat' (first | exact trivial | exact rfl | refine And.intro ?_ ?_)) <;> (try ((conv => whnf); first | refine vint ?_ | refine vboo ?_ | refine rint ?_ | refine rrow ?_ | skip)) <;> (try first | omega | (simp; done) | ((repeat rw [flts_closed _ (by assumption)]); exact vws_closed _ (by assumption))))) (fun i hi => ?_)
  obtain ⟨hi, hp⟩ := hi
  refine ⟨fun h => ?_, fun h => ?_⟩
  · have h : i < m.length := by have := ltT h; omega
    have l1 := h4 _ (getD_mem (d := []) h)
    have l2 := h4' _ (getD_mem (d := []) (show i < m'.length by omega))
    conv => whnf
    refine aloopI tyOk mx (fun n : Nat => (⟨41, [(2, .ptr 0 0), (3, .ptr 1 0), (5, .c (.int .i64 (i))), (6, .c (.int .i64 (n)))], [(0, .cells 53 [.c (.int .i64 (x)), .c (.int .i64 (y)), .c (.int .i64 (z)), .t (.rows m)]), (1, .cells 53 [.c (.int .i64 (x')), .c (.int .i64 (y')), .c (.int .i64 (z')), .t (.rows m')])], 2⟩ : St)) (fun n => n ≤ 4 ∧ (List.range n).all (alkN z z' m m' i) = true) (fun n => 4 - n) 0 ⟨Nat.zero_le _, rfl⟩ none (by refine ⟨rfl, rfl, ?_, ?_⟩ <;> ((repeat' (first | exact trivial | exact rfl | refine And.intro ?_ ?_)) <;> (try ((conv => whnf); first | refine vint ?_ | refine vboo ?_ | refine rint ?_ | refine rrow ?_ | skip)) <;> (try first | omega | (simp; done) | ((repeat rw [flts_closed _ (by assumption)]); exact vws_closed _ (by assumption))))) (fun n hn => ?_)
    obtain ⟨hn, hq⟩ := hn
    refine ⟨fun h2 => ?_, fun h2 => ?_⟩
    · have h2 : n < 4 := by have := of_decide_eq_true h2; omega
      conv => whnf
      refine ADraw.std tyOk mx ⟨by kernel_rfl, i, rfl, h, n, rfl, by omega, i, rfl, by omega, n, rfl, by omega, ?_⟩
      conv => whnf
      refine ⟨fun h3 => ?_, fun h3 => ?_⟩
      · have h3 : alkN z z' m m' i n = false := by
          have h3 : ¬ W ((m.getD i []).getD n 0 * z') = W ((m'.getD i []).getD n 0 * z) := by simpa using h3
          exact decide_eq_false h3
        conv => whnf
        refine ⟨?_, rfl⟩
        rw [alkB, rall_false h (rall_false h2 h3)]
      · have h3 : alkN z z' m m' i n = true := by
          have h3 : W ((m.getD i []).getD n 0 * z') = W ((m'.getD i []).getD n 0 * z) := by simpa using h3
          exact decide_eq_true h3
        conv => whnf
        rw [nat_wrap (by omega)]
        exact ⟨n + 1, none, (by refine ⟨rfl, rfl, ?_, ?_⟩ <;> ((repeat' (first | exact trivial | exact rfl | refine And.intro ?_ ?_)) <;> (try ((conv => whnf); first | refine vint ?_ | refine vboo ?_ | refine rint ?_ | refine rrow ?_ | skip)) <;> (try first | omega | (simp; done) | ((repeat rw [flts_closed _ (by assumption)]); exact vws_closed _ (by assumption))))), ⟨by omega, rall_succ hq h3⟩, by omega⟩
    · have h2 : ¬ n < 4 := by have := of_decide_eq_false h2; omega
      obtain rfl : n = 4 := by omega
      conv => whnf
      rw [nat_wrap (by omega)]
      exact ⟨i + 1, none, (by refine ⟨rfl, rfl, ?_, ?_⟩ <;> ((repeat' (first | exact trivial | exact rfl | refine And.intro ?_ ?_)) <;> (try ((conv => whnf); first | refine vint ?_ | refine vboo ?_ | refine rint ?_ | refine rrow ?_ | skip)) <;> (try first | omega | (simp; done) | ((repeat rw [flts_closed _ (by assumption)]); exact vws_closed _ (by assumption))))), ⟨by omega, rall_succ hp hq⟩, by omega⟩
  · have h : ¬ i < m.length := by have := ltF h; omega
    obtain rfl : i = m.length := by omega
    conv => whnf
    refine ⟨?_, rfl⟩
    rw [alkB, hp]

theorem alike_spec (z z' : Int) (m m' : List (List Int)) (hl : m'.length = m.length) (hb : m.length ≤ 1000) (h4 : ∀ r, r ∈ m → r.length = 4) (h4' : ∀ r, r ∈ m' → r.length = 4) :
    FSpec Try.prog 156 [.t (.rows m), .c (.int .i64 (z)), .t (.rows m'), .c (.int .i64 (z'))] (ex (.c (.bool (alkB z z' m m'))) []) := by
  refine fspec tyOk mx Try.func156 rfl (by kernel_rfl) rfl ?_
  conv => whnf
  refine aloopI tyOk mx (fun i : Nat => (⟨42, [(1, .c (.int .i64 (z))), (2, .t (.rows m')), (3, .c (.int .i64 (z'))), (13, .t (.rows m)), (14, .c (.int .i64 (m.length))), (15, .c (.int .i64 (i)))], [], 0⟩ : St)) (fun i => i ≤ m.length ∧ (List.range i).all (fun i => (List.range 4).all (alkN z z' m m' i)) = true) (fun i => m.length - i) 0 ⟨Nat.zero_le _, rfl⟩ none (by refine ⟨rfl, rfl, ?_, ?_⟩ <;> ((repeat' (first | exact trivial | exact rfl | refine And.intro ?_ ?_)) <;> (try ((conv => whnf); first | refine vint ?_ | refine vboo ?_ | refine rint ?_ | refine rrow ?_ | skip)) <;> (try first | omega | (simp; done) | ((repeat rw [flts_closed _ (by assumption)]); exact vws_closed _ (by assumption))))) (fun i hi => ?_)
  obtain ⟨hi, hp⟩ := hi
  refine ⟨fun h => ?_, fun h => ?_⟩
  · have h : i < m.length := by have := ltT h; omega
    have l1 := h4 _ (getD_mem (d := []) h)
    have l2 := h4' _ (getD_mem (d := []) (show i < m'.length by omega))
    conv => whnf
    refine ⟨i, rfl, h, ?_⟩
    conv => whnf
    refine aloopI tyOk mx (fun n : Nat => (⟨42, [(1, .c (.int .i64 (z))), (2, .t (.rows m')), (3, .c (.int .i64 (z'))), (9, .c (.int .i64 (i))), (13, .t (.rows m)), (14, .c (.int .i64 (m.length))), (15, .c (.int .i64 (i))), (20, .t (.ints .i64 (m.getD i []))), (21, .c (.int .i64 ((m.getD i []).length))), (22, .c (.int .i64 (n)))], [], 0⟩ : St)) (fun n => n ≤ 4 ∧ (List.range n).all (alkN z z' m m' i) = true) (fun n => 4 - n) 0 ⟨Nat.zero_le _, rfl⟩ none (by refine ⟨rfl, rfl, ?_, ?_⟩ <;> ((repeat' (first | exact trivial | exact rfl | refine And.intro ?_ ?_)) <;> (try ((conv => whnf); first | refine vint ?_ | refine vboo ?_ | refine rint ?_ | refine rrow ?_ | skip)) <;> (try first | omega | (simp; done) | ((repeat rw [flts_closed _ (by assumption)]); exact vws_closed _ (by assumption))))) (fun n hn => ?_)
    obtain ⟨hn, hq⟩ := hn
    refine ⟨fun h2 => ?_, fun h2 => ?_⟩
    · have h2 : n < 4 := by have := ltT h2; omega
      conv => whnf
      refine ⟨n, rfl, by omega, ?_⟩
      conv => whnf
      refine ⟨i, rfl, by omega, ?_⟩
      conv => whnf
      refine ⟨n, rfl, by omega, ?_⟩
      conv => whnf
      refine ⟨fun h3 => ?_, fun h3 => ?_⟩
      · have h3 : alkN z z' m m' i n = false := by
          have h3 : ¬ W ((m.getD i []).getD n 0 * z') = W ((m'.getD i []).getD n 0 * z) := by simpa using h3
          exact decide_eq_false h3
        conv => whnf
        refine ⟨?_, rfl⟩
        rw [alkB, rall_false h (rall_false h2 h3)]
      · have h3 : alkN z z' m m' i n = true := by
          have h3 : W ((m.getD i []).getD n 0 * z') = W ((m'.getD i []).getD n 0 * z) := by simpa using h3
          exact decide_eq_true h3
        conv => whnf
        rw [nat_wrap (by omega)]
        exact ⟨n + 1, none, (by refine ⟨rfl, rfl, ?_, ?_⟩ <;> ((repeat' (first | exact trivial | exact rfl | refine And.intro ?_ ?_)) <;> (try ((conv => whnf); first | refine vint ?_ | refine vboo ?_ | refine rint ?_ | refine rrow ?_ | skip)) <;> (try first | omega | (simp; done) | ((repeat rw [flts_closed _ (by assumption)]); exact vws_closed _ (by assumption))))), ⟨by omega, rall_succ hq h3⟩, by omega⟩
    · have h2 : ¬ n < 4 := by have := ltF h2; omega
      obtain rfl : n = 4 := by omega
      conv => whnf
      rw [nat_wrap (by omega)]
      exact ⟨i + 1, none, (by refine ⟨rfl, rfl, ?_, ?_⟩ <;> ((repeat' (first | exact trivial | exact rfl | refine And.intro ?_ ?_)) <;> (try ((conv => whnf); first | refine vint ?_ | refine vboo ?_ | refine rint ?_ | refine rrow ?_ | skip)) <;> (try first | omega | (simp; done) | ((repeat rw [flts_closed _ (by assumption)]); exact vws_closed _ (by assumption))))), ⟨by omega, rall_succ hp hq⟩, by omega⟩
  · have h : ¬ i < m.length := by have := ltF h; omega
    obtain rfl : i = m.length := by omega
    conv => whnf
    refine ⟨?_, rfl⟩
    rw [alkB, hp]

def alkE (z : Int) (m : List (List Int)) (i : Nat) : Bool := alkB z 2 m (exRow i)
def ixIs (x y z : Int) (m : List (List Int)) : Bool := qpB x y z m && !((List.range 24).all fun i => !alkE z m i)
theorem ix_yes {x y z : Int} {m : List (List Int)} {i : Nat} (h : qpB x y z m = true) (hi : i < 24) (h2 : alkE z m i = true) : ixIs x y z m = true := by
  rw [ixIs, h, rall_false hi (by rw [h2]; rfl)]; rfl
theorem ix_no {x y z : Int} {m : List (List Int)} (h2 : (List.range 24).all (fun i => !alkE z m i) = true) : ixIs x y z m = false := by
  rw [ixIs, h2]; simp

theorem IsExtreme_s (x y z : Int) (m : List (List Int)) (_hx : InR x) (_hy : InR y) (_hz : InR z) (_hm : OkM m) (km : SzM m) :
    FSpec Try.prog 103 [.ag [.c (.int .i64 (x)), .c (.int .i64 (y)), .c (.int .i64 (z)), .t (.rows m)]] (ex (.tu [.c (.bool (ixIs x y z m)), .c (.bool (qpB x y z m))]) []) := by
  have hl := exL_len 24
  refine fspec tyOk mx Try.func103 rfl (by kernel_rfl) rfl ?_
  conv => whnf
  refine ACall.use (l6Quiet_spec x y z m km) ?_
  conv => whnf
  refine ⟨fun h => ?_, fun h => ?_⟩
  · have h : qpB x y z m = false := by simpa using h
    conv => whnf
    exact ⟨by rw [ixIs, h]; rfl, rfl⟩
  · have h : qpB x y z m = true := by simpa using h
    obtain ⟨_, _, g1, g2, g3, g4⟩ := qpB_spec h
    have h4 : ∀ r, r ∈ m → r.length = 4 := fun r hr => (g4 r hr).1
    conv => whnf
    refine ACall.use l6Extremes_spec ?_
    conv => whnf
    refine aloopI tyOk mx (fun i : Nat => (⟨22, [(1, .ptr 0 0), (4, .t (.recs 3 (exL 24))), (5, .c (.int .i64 (i)))], [(0, .cells 53 [.c (.int .i64 (x)), .c (.int .i64 (y)), .c (.int .i64 (z)), .t (.rows m)])], 1⟩ : St)) (fun i => i ≤ 24 ∧ (List.range i).all (fun i => !alkE z m i) = true) (fun i => 24 - i) 0 ⟨Nat.zero_le _, rfl⟩ none (by refine ⟨rfl, rfl, ?_, ?_⟩ <;> ((repeat' (first | exact trivial | exact rfl | refine And.intro ?_ ?_)) <;> (try ((conv => whnf); first | refine vint ?_ | refine vboo ?_ | refine rint ?_ | refine rrow ?_ | skip)) <;> (try first | omega | (simp; done) | ((repeat rw [flts_closed _ (by assumption)]); exact vws_closed _ (by assumption))))) (fun i hi => ?_)
    obtain ⟨hi, hp⟩ := hi
    refine ⟨fun h2 => ?_, fun h2 => ?_⟩
    · have h2 : i < 24 := by have := ltT h2; omega
      conv => whnf
      refine ADraw.std tyOk mx ⟨by kernel_rfl, i, rfl, by omega, ?_⟩
      conv => whnf
      rw [exL_get h2]
      refine QCall.use (l2Alike_spec x y z 2 2 2 m (exRow i) (by rw [exRow_len, g3]) (by omega) h4 (exRow_rows i)) ?_
      conv => whnf
      refine ⟨fun h3 => ?_, fun h3 => ?_⟩
      · have h3 : alkE z m i = true := h3
        conv => whnf
        exact ⟨by rw [ix_yes h h2 h3, h], rfl⟩
      · have h3 : alkE z m i = false := h3
        conv => whnf
        rw [nat_wrap (by omega)]
        exact ⟨i + 1, none, (by refine ⟨rfl, rfl, ?_, ?_⟩ <;> ((repeat' (first | exact trivial | exact rfl | refine And.intro ?_ ?_)) <;> (try ((conv => whnf); first | refine vint ?_ | refine vboo ?_ | refine rint ?_ | refine rrow ?_ | skip)) <;> (try first | omega | (simp; done) | ((repeat rw [flts_closed _ (by assumption)]); exact vws_closed _ (by assumption))))), ⟨by omega, rall_succ hp (by rw [h3]; rfl)⟩, by omega⟩
    · have h2 : ¬ i < 24 := by have := ltF h2; omega
      obtain rfl : i = 24 := by omega
      conv => whnf
      exact ⟨by rw [ix_no hp, h], rfl⟩

theorem IsExtreme_i (x y z : Int) (m : List (List Int)) (_hx : InR x) (_hy : InR y) (_hz : InR z) (_hm : OkM m) (km : SzM m) :
    FSpec Try.prog 102 [.ag [.c (.int .i64 (x)), .c (.int .i64 (y)), .c (.int .i64 (z)), .t (.rows m)]] (ex (.tu [.c (.bool (ixIs x y z m)), .c (.bool (qpB x y z m))]) []) := by
  refine fspec tyOk mx Try.func102 rfl (by kernel_rfl) rfl ?_
  conv => whnf
  refine ACall.use (isQuietPair_spec x y z m km) ?_
  conv => whnf
  refine ⟨fun h => ?_, fun h => ?_⟩
  · have h : qpB x y z m = false := by simpa using h
    conv => whnf
    exact ⟨by rw [ixIs, h]; rfl, rfl⟩
  · have h : qpB x y z m = true := by simpa using h
    obtain ⟨_, _, g1, g2, g3, g4⟩ := qpB_spec h
    have h4 : ∀ r, r ∈ m → r.length = 4 := fun r hr => (g4 r hr).1
    conv => whnf
    refine aloopI tyOk mx (fun i : Nat => (⟨24, [(1, .ptr 0 0), (9, .c (.int .i64 (i)))], [(0, .cells 53 [.c (.int .i64 (x)), .c (.int .i64 (y)), .c (.int .i64 (z)), .t (.rows m)])], 1⟩ : St)) (fun i => i ≤ 24 ∧ (List.range i).all (fun i => !alkE z m i) = true) (fun i => 24 - i) 0 ⟨Nat.zero_le _, rfl⟩ none (by refine ⟨rfl, rfl, ?_, ?_⟩ <;> ((repeat' (first | exact trivial | exact rfl | refine And.intro ?_ ?_)) <;> (try ((conv => whnf); first | refine vint ?_ | refine vboo ?_ | refine rint ?_ | refine rrow ?_ | skip)) <;> (try first | omega | (simp; done) | ((repeat rw [flts_closed _ (by assumption)]); exact vws_closed _ (by assumption))))) (fun i hi => ?_)
    obtain ⟨hi, hp⟩ := hi
    refine ⟨fun h2 => ?_, fun h2 => ?_⟩
    · have h2 : i < 24 := by have := of_decide_eq_true h2; omega
      conv => whnf
      refine ACall.use (extreme_spec i h2) ?_
      conv => whnf
      refine ACall.use (alike_spec z 2 m (exRow i) (by rw [exRow_len, g3]) (by omega) h4 (exRow_rows i)) ?_
      conv => whnf
      refine ⟨fun h3 => ?_, fun h3 => ?_⟩
      · have h3 : alkE z m i = true := h3
        conv => whnf
        exact ⟨by rw [ix_yes h h2 h3, h], rfl⟩
      · have h3 : alkE z m i = false := h3
        conv => whnf
        rw [nat_wrap (by omega)]
        exact ⟨i + 1, none, (by refine ⟨rfl, rfl, ?_, ?_⟩ <;> ((repeat' (first | exact trivial | exact rfl | refine And.intro ?_ ?_)) <;> (try ((conv => whnf); first | refine vint ?_ | refine vboo ?_ | refine rint ?_ | refine rrow ?_ | skip)) <;> (try first | omega | (simp; done) | ((repeat rw [flts_closed _ (by assumption)]); exact vws_closed _ (by assumption))))), ⟨by omega, rall_succ hp (by rw [h3]; rfl)⟩, by omega⟩
    · have h2 : ¬ i < 24 := by have := of_decide_eq_false h2; omega
      obtain rfl : i = 24 := by omega
      conv => whnf
      exact ⟨by rw [ix_no hp, h], rfl⟩
end Go.Proofs.Ytkomndcehdneaaa
/- Boxes that are alike: the program. -/
namespace Go.Proofs.Ytkomndcehdneaaa
open Go.Aw
set_option maxRecDepth 100000
set_option maxHeartbeats 4000000

def sqB (x y z : Int) (m : List (List Int)) (x' y' z' : Int) (m' : List (List Int)) : Bool := goodB x y z m && (goodB x' y' z' m' && (decide (x = x') && decide (y = y')))
theorem sqB_spec {x y z x' y' z' : Int} {m m' : List (List Int)} (h : sqB x y z m x' y' z' m' = true) : goodB x y z m = true ∧ goodB x' y' z' m' = true ∧ x = x' ∧ y = y' := by
  simp only [sqB, Bool.and_eq_true, decide_eq_true_eq] at h
  exact ⟨h.1, h.2.1, h.2.2.1, h.2.2.2⟩
theorem sameQuestions_spec (x y z : Int) (m : List (List Int)) (x' y' z' : Int) (m' : List (List Int)) (km : SzM m) (km' : SzM m') :
    FSpec Try.prog 166 [.ag [.c (.int .i64 (x)), .c (.int .i64 (y)), .c (.int .i64 (z)), .t (.rows m)], .ag [.c (.int .i64 (x')), .c (.int .i64 (y')), .c (.int .i64 (z')), .t (.rows m')]] (ex (.c (.bool (sqB x y z m x' y' z' m'))) []) := by
  refine fspec tyOk mx Try.func166 rfl (by kernel_rfl) rfl ?_
  conv => whnf
  refine ACall.use (IsBox_spec x y z m km) ?_
  conv => whnf
  refine ⟨fun h => ?_, fun h => ?_⟩
  · conv => whnf
    refine ACall.use (IsBox_spec x' y' z' m' km') ?_
    conv => whnf
    refine ⟨fun h2 => ?_, fun h2 => ?_⟩
    · conv => whnf
      refine ⟨fun h3 => ?_, fun h3 => ?_⟩
      · conv => whnf
        have e : x = x' := by simpa using h3
        refine ⟨?_, rfl⟩
        rw [sqB, h, h2, decide_eq_true e]
        by_cases hy : y = y'
        · rw [decide_eq_true hy]; simp [hy]
        · rw [decide_eq_false hy]; simp [hy]
      · conv => whnf
        have e : ¬ x = x' := by simpa using h3
        exact ⟨by rw [sqB, decide_eq_false e, Bool.false_and, Bool.and_false, Bool.and_false], rfl⟩
    · (repeat (conv => whnf); (first | refine ⟨fun h => absurd h (by decide), fun _ => ?_⟩ | refine ⟨fun _ => ?_, fun h => absurd h (by decide)⟩)); conv => whnf
      exact ⟨by rw [sqB, h2, Bool.false_and, Bool.and_false], rfl⟩
  · (repeat (conv => whnf); (first | refine ⟨fun h => absurd h (by decide), fun _ => ?_⟩ | refine ⟨fun _ => ?_, fun h => absurd h (by decide)⟩)); conv => whnf
    exact ⟨by rw [sqB, h, Bool.false_and], rfl⟩
/-- what AreAlike answers -/
def aaV (x y z : Int) (m : List (List Int)) (x' y' z' : Int) (m' : List (List Int)) : Bool := sqB x y z m x' y' z' m' && alkB z z' m m'
theorem AreAlike_i (x y z : Int) (m : List (List Int)) (x' y' z' : Int) (m' : List (List Int)) (km : SzM m) (km' : SzM m') :
    FSpec Try.prog 58 [.ag [.c (.int .i64 (x)), .c (.int .i64 (y)), .c (.int .i64 (z)), .t (.rows m)], .ag [.c (.int .i64 (x')), .c (.int .i64 (y')), .c (.int .i64 (z')), .t (.rows m')]] (ex (.tu [.c (.bool (aaV x y z m x' y' z' m')), .c (.bool (sqB x y z m x' y' z' m'))]) []) := by
  refine fspec tyOk mx Try.func58 rfl (by kernel_rfl) rfl ?_
  conv => whnf
  refine ACall.use (sameQuestions_spec x y z m x' y' z' m' km km') ?_
  conv => whnf
  refine ⟨fun h => ?_, fun h => ?_⟩
  · have h : sqB x y z m x' y' z' m' = false := by simpa using h
    conv => whnf
    exact ⟨by rw [aaV, h]; rfl, rfl⟩
  · have h : sqB x y z m x' y' z' m' = true := by simpa using h
    obtain ⟨h1, h2, rfl, rfl⟩ := sqB_spec h
    obtain ⟨a, b, e1, e2, _, _, _, _, _, _, l1, c1, r1⟩ := goodB_spec h1
    obtain ⟨a', b', e1', e2', _, _, _, _, _, _, l2, c2, r2⟩ := goodB_spec h2
    have ea : a = a' := by omega
    have eb : b = b' := by omega
    subst ea eb
    conv => whnf
    refine ACall.use (alike_spec z z' m m' (by rw [l1, l2]) (by omega) (fun r hr => (r1 r hr).1) (fun r hr => (r2 r hr).1)) ?_
    conv => whnf
    exact ⟨by rw [aaV, h, Bool.true_and], rfl⟩
end Go.Proofs.Ytkomndcehdneaaa
