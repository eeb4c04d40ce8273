/- What a function hands back; the contract of a whole function. -/
import Derived.Test.YtpakfehinfcdoaaAw17
namespace Go.Aw
open Go.RowKit

mutual
/-- the rows that a result leads to, in their order (an inner row by its place) -/
def refs : AVal → List (Nat × Option Nat)
  | .own k => [(k, none)]
  | .sub k i => [(k, some i)]
  | .ag l | .tu l => refsAll l
  | _ => []
def refsAll : List AVal → List (Nat × Option Nat)
  | [] => []
  | a :: r => refs a ++ refsAll r
end

mutual
/-- the result with its rows numbered from n on -/
def canon (n : Nat) : AVal → Option (AVal × Nat)
  | .c v => some (.c v, n)
  | .nul => some (.nul, n)
  | .t t => some (.t t, n)
  | .own _ | .sub _ _ => some (.own n, n + 1)
  | .ag l => match canons n l with
    | some (l', m) => some (.ag l', m)
    | none => none
  | .tu l => match canons n l with
    | some (l', m) => some (.tu l', m)
    | none => none
  | _ => none
def canons (n : Nat) : List AVal → Option (List AVal × Nat)
  | [] => some ([], n)
  | a :: r => match canon n a with
    | none => none
    | some (a', m) => match canons m r with
      | none => none
      | some (r', q) => some (a' :: r', q)
end

def rowOf (hp : List (Nat × ARow)) (p : Nat × Option Nat) : Option ARow :=
  match look hp p.1 with
  | some (.cells ..) => none
  | some r => match p.2 with
    | none => some r
    | some i => match r with
      | .rows _ e1 true m => some (.ints e1 .i64 (m.getD i []))
      | _ => none
  | none => none

def rowsOf (hp : List (Nat × ARow)) (n : Nat) : List (Nat × Option Nat) → Option (List (Nat × ARow))
  | [] => some []
  | p :: r => match rowOf hp p with
    | none => none
    | some x => match rowsOf hp (n + 1) r with
      | none => none
      | some l => some ((n, x) :: l)

def fresh (k : Nat) : List (Nat × Option Nat) → Bool
  | [] => true
  | (j, _) :: r => match Nat.beq j k with | true => false | false => fresh k r

def differ : List (Nat × Option Nat) → Bool
  | [] => true
  | (k, _) :: r => match fresh k r with | true => differ r | false => false

def afin (st : St) (x : AVal) (post : AVal → List (Nat × ARow) → Prop) : Prop :=
  match canon 0 x with
  | none => False
  | some (x', _) => match differ (refs x) with
    | false => False
    | true => match rowsOf st.hp 0 (refs x) with
      | none => False
      | some h => post x' h

def ares (Γ : Tys) (st : St) : List ResultVar → (List AVal → Prop) → Prop
  | [], K => K []
  | .tmp t :: r, K => match lk st t with
    | some x => ares Γ st r fun l => K (x :: l)
    | none => False
  | .cell p t :: r, K => match lk st p with
    | some y => match isKey st.hp (match y with | .ptr k _ => k | _ => st.nx) with
      | true => aload Γ st t y fun x => ares Γ st r fun l => K (x :: l)
      | false => False
    | none => False

def aret (Γ : Tys) (st : St) (rs : List ResultVar) (post : AVal → List (Nat × ARow) → Prop) : Prop :=
  ares Γ st rs fun l => match l with
    | [x] => afin st x post
    | l => afin st (.tu l) post

section
variable {P : Program} {Γ : Tys} {w0 : Base} {w w' : World} {ob : Nat → Prop} {st : St} {a : Act} {η : Env}

def valOf (η : Env) (p : Nat × Option Nat) : Value :=
  match p.2 with
  | none => η.val p.1
  | some i => (η.cel p.1).getD i undef

def celOf (hp : List (Nat × ARow)) (η : Env) (p : Nat × Option Nat) : List Value :=
  match p.2 with
  | none => η.cel p.1
  | some i => match look hp p.1 with
    | some (.rows _ _ _ m) => (m.getD i []).map (Value.int .i64)
    | _ => []

def ηret (hp : List (Nat × ARow)) (η : Env) (R : List (Nat × Option Nat)) : Env := ⟨fun j => valOf η (R.getD j (0, none)), fun j => celOf hp η (R.getD j (0, none))⟩

theorem rowsOf_spec {hp : List (Nat × ARow)} : ∀ {R : List (Nat × Option Nat)} {n : Nat} {h : List (Nat × ARow)}, rowsOf hp n R = some h →
    h.length = R.length ∧ (∀ j, j < n → look h j = none) ∧ ∀ j, look h (n + j) = (R[j]?).bind (rowOf hp)
  | [], n, h, hr => by simp only [rowsOf, Option.some.injEq] at hr; subst hr; exact ⟨rfl, fun _ _ => rfl, fun j => by simp [look]⟩
  | p :: R, n, h, hr => by
    simp only [rowsOf] at hr
    cases hp1 : rowOf hp p with
    | none => rw [hp1] at hr; cases hr
    | some x =>
      rw [hp1] at hr
      simp only at hr
      cases hl : rowsOf hp (n + 1) R with
      | none => rw [hl] at hr; cases hr
      | some l =>
        rw [hl] at hr
        simp only [Option.some.injEq] at hr
        subst hr
        obtain ⟨h1, h2, h3⟩ := rowsOf_spec hl
        refine ⟨by simp [h1], fun j hj => ?_, fun j => ?_⟩
        · rw [look_cons, if_neg (by omega)]; exact h2 j (by omega)
        · rw [look_cons]
          match j with
          | 0 => simp [hp1]
          | j + 1 =>
            rw [if_neg (by omega)]
            have := h3 j
            rw [show n + (j + 1) = n + 1 + j by omega, this]
            simp

theorem fresh_spec {k : Nat} : ∀ {R : List (Nat × Option Nat)}, fresh k R = true → ∀ p, p ∈ R → p.1 ≠ k
  | [], _, p, hp => by simp at hp
  | (j, o) :: R, h, p, hp => by
    simp only [fresh] at h
    split at h
    case h_1 => cases h
    case h_2 hb =>
      rcases List.mem_cons.1 hp with rfl | hp
      · exact fun e => by simp only at e; rw [e, Nat.beq_refl] at hb; cases hb
      · exact fresh_spec h p hp

theorem differ_spec : ∀ {R : List (Nat × Option Nat)}, differ R = true → ∀ (i j : Nat) (p q : Nat × Option Nat), R[i]? = some p → R[j]? = some q → i ≠ j → p.1 ≠ q.1
  | [], _, i, j, p, q, hi, _, _ => by simp at hi
  | (k, o) :: R, h, i, j, p, q, hi, hj, hne => by
    simp only [differ] at h
    split at h
    case h_2 => cases h
    case h_1 hf =>
      match i, j with
      | 0, 0 => exact absurd rfl hne
      | 0, j + 1 => simp at hi hj; subst hi; exact Ne.symm (fresh_spec hf q (List.mem_of_getElem? hj))
      | i + 1, 0 => simp at hi hj; subst hj; exact fresh_spec hf p (List.mem_of_getElem? hi)
      | i + 1, j + 1 => simp at hi hj; exact differ_spec h i j p q hi hj (by omega)

/-- an inner row's place is within the row -/
def inOk (η : Env) (p : Nat × Option Nat) : Prop := ∀ i, p.2 = some i → i < (η.cel p.1).length

theorem rowOf_rep {B : Nat} {hp : List (Nat × ARow)} {nx : Nat} (hh : HRep w B ob hp nx η) {R : List (Nat × Option Nat)} {j : Nat} {p : Nat × Option Nat} (hj : R[j]? = some p) {r : ARow} (hr : rowOf hp p = some r) (hin : inOk η p)
    {bad' : Nat → Prop} (hk : Keeps w (badOf ob hp η) w bad') {hp' : List (Nat × ARow)} {nx' : Nat} :
    RowRep w B bad' hp' nx' (ηret hp η R) j r ∧ (∃ r0, look hp p.1 = some r0 ∧ (∀ b, b ∈ bsOf (ηret hp η R) j r → b ∈ bsOf η p.1 r0)) ∧ (bsOf (ηret hp η R) j r).Nodup ∧ r.kind < 4 := by
  have hR : R.getD j (0, none) = p := getD_of hj
  have hv : (ηret hp η R).val j = valOf η p := by simp [ηret, hj]
  have hc : (ηret hp η R).cel j = celOf hp η p := by simp [ηret, hj]
  obtain ⟨k, o⟩ := p
  unfold rowOf at hr
  split at hr
  case h_1 => cases hr
  case h_3 => cases hr
  case h_2 r0 hnc hlk0 =>
    have hlk : look hp k = some r0 := hlk0
    have hrow := hh.row k r0 hlk
    have hnd := hh.nodup k r0 hlk
    split at hr
    case h_1 ho =>
      simp only at ho
      subst ho
      simp only [Option.some.injEq] at hr
      subst hr
      have hbs : bsOf (ηret hp η R) j r0 = bsOf η k r0 := by simp only [bsOf, hv, hc, valOf, celOf]
      refine ⟨?_, ⟨r0, hlk, fun b hb => by rwa [hbs] at hb⟩, by rw [hbs]; exact hnd, ?_⟩
      · match r0 with
        | .ints e kd l => simp only [RowRep, OwnInts, hv, hc]; exact hrow
        | .rows e e1 true m => simp only [RowRep, hv, hc]; exact hrow
        | .rows e e1 false m => simp only [RowRep, hv, hc]; exact ⟨hrow.1, F2.imp (fun _ _ _ ho => ho.keeps hk) hrow.2⟩
        | .cells e l => exact (hnc e l rfl).elim
        | .recs e s L =>
          obtain ⟨g1, css, g2, g3⟩ := hrow
          simp only [RowRep, hv, hc]
          exact ⟨g1, css, g2, F2.imp (fun _ _ _ ho => ho.keeps hk) g3⟩
      · match r0 with
        | .ints .. => simp [ARow.kind]
        | .rows _ _ true _ => simp [ARow.kind]
        | .rows _ _ false _ => simp [ARow.kind]
        | .recs .. => simp [ARow.kind]
        | .cells e l => exact (hnc e l rfl).elim
    case h_2 i ho =>
      simp only at ho
      subst ho
      split at hr
      case h_2 => cases hr
      case h_1 e e1 m =>
        simp only [Option.some.injEq] at hr
        subst hr
        have hi := hin i rfl
        simp only at hi
        obtain ⟨v, hvi⟩ : ∃ v, (η.cel k)[i]? = some v := ⟨_, List.getElem?_eq_getElem hi⟩
        obtain ⟨l, hl, ho⟩ := F2.at' hrow.2 hvi
        have hv' : (ηret hp η R).val j = v := by rw [hv]; exact getD_of hvi
        have hc' : (ηret hp η R).cel j = l.map (Value.int .i64) := by rw [hc]; simp only [celOf, hlk]; rw [getD_of hl]
        rw [getD_of hl]
        have hbs : bsOf (ηret hp η R) j (.ints e1 .i64 l) = blk v := by simp [bsOf, ARow.kind, hv']
        refine ⟨?_, ⟨_, hlk, fun b hb => ?_⟩, ?_, by simp [ARow.kind]⟩
        · simp only [RowRep, hv', hc']; exact ⟨ho, trivial⟩
        · rw [hbs] at hb
          simp only [bsOf, ARow.kind, if_true]
          exact List.mem_append.2 (.inr (List.mem_flatMap.2 ⟨v, List.mem_of_getElem? hvi, hb⟩))
        · rw [hbs]
          have hflat : ((η.cel k).flatMap blk).Nodup := by
            simp only [bsOf, ARow.kind, if_true] at hnd
            exact (List.nodup_append.1 hnd).2.1
          have hsub : (blk v).Sublist ((η.cel k).flatMap blk) := by
            obtain ⟨s, t, hst⟩ := List.append_of_mem (List.mem_of_getElem? hvi)
            rw [hst]
            simp only [List.flatMap_append, List.flatMap_cons]
            exact (List.sublist_append_left _ _).trans (List.sublist_append_right _ _)
          exact hflat.sublist hsub

mutual
theorem canon_rep {hp h : List (Nat × ARow)} {nx : Nat} {bad' : Nat → Prop} (hk : Keeps w (badOf ob hp η) w bad') {R : List (Nat × Option Nat)} (hlen : h.length = R.length) (hrows : ∀ j, look h j = (R[j]?).bind (rowOf hp))
    (hkind : ∀ (j : Nat) (p : Nat × Option Nat) (r : ARow), R[j]? = some p → rowOf hp p = some r → r.kind < 4) : ∀ (x : AVal) {n n' : Nat} {x' : AVal} {v : Value}, canon n x = some (x', n') → (∀ j, j < (refs x).length → R[n + j]? = (refs x)[j]?) → (∀ p, p ∈ refs x → ∃ r, rowOf hp p = some r) →
      VRep w (badOf ob hp η) hp nx η x v → n' = n + (refs x).length ∧ VRep w bad' h h.length (ηret hp η R) x' v
  | .c y, n, n', x', v, hc, _, _, hv => by simp only [canon, Option.some.injEq, Prod.mk.injEq] at hc; obtain ⟨rfl, rfl⟩ := hc; exact ⟨by simp [refs], hv⟩
  | .t t, n, n', x', v, hc, _, _, hv => by simp only [canon, Option.some.injEq, Prod.mk.injEq] at hc; obtain ⟨rfl, rfl⟩ := hc; exact ⟨by simp [refs], TRep.keeps hk hv⟩
  | .nul, n, n', x', v, hc, _, _, hv => by simp only [canon, Option.some.injEq, Prod.mk.injEq] at hc; obtain ⟨rfl, rfl⟩ := hc; exact ⟨by simp [refs], hv⟩
  | .own k, n, n', x', v, hc, hR, hro, hv => by
    simp only [canon, Option.some.injEq, Prod.mk.injEq] at hc
    obtain ⟨rfl, rfl⟩ := hc
    have h0 : R[n]? = some (k, none) := by simpa [refs] using hR 0 (by simp [refs])
    refine ⟨by simp [refs], ?_, fun r hr => ?_⟩
    · rw [hlen]; exact (List.getElem?_eq_some_iff.1 h0).1
    · rw [hrows, h0] at hr
      simp only [Option.bind_some] at hr
      refine ⟨hkind n _ r h0 hr, ?_⟩
      obtain ⟨r1, h1⟩ := hro (k, none) (by simp [refs])
      have : ∃ r0, look hp k = some r0 := by
        unfold rowOf at h1
        cases hl : look hp k with
        | none => rw [hl] at h1; cases h1
        | some r0 => exact ⟨r0, rfl⟩
      obtain ⟨r0, hr0⟩ := this
      rw [(hv.2 r0 hr0).2]
      simp [ηret, h0, valOf]
  | .sub k i, n, n', x', v, hc, hR, hro, hv => by
    simp only [canon, Option.some.injEq, Prod.mk.injEq] at hc
    obtain ⟨rfl, rfl⟩ := hc
    have h0 : R[n]? = some (k, some i) := by simpa [refs] using hR 0 (by simp [refs])
    refine ⟨by simp [refs], ?_, fun r hr => ?_⟩
    · rw [hlen]; exact (List.getElem?_eq_some_iff.1 h0).1
    · rw [hrows, h0] at hr
      simp only [Option.bind_some] at hr
      refine ⟨hkind n _ r h0 hr, ?_⟩
      obtain ⟨r1, h1⟩ := hro (k, some i) (by simp [refs])
      have : ∃ r0, look hp k = some r0 := by
        unfold rowOf at h1
        cases hl : look hp k with
        | none => rw [hl] at h1; cases h1
        | some r0 => exact ⟨r0, rfl⟩
      obtain ⟨r0, hr0⟩ := this
      have := (hv.2 r0 hr0).2
      simp [ηret, h0, valOf, this]
  | .ag l, n, n', x', v, hc, hR, hro, hv => by
    simp only [canon] at hc
    cases hcs : canons n l with
    | none => rw [hcs] at hc; cases hc
    | some q =>
      obtain ⟨l', m⟩ := q
      rw [hcs] at hc
      simp only [Option.some.injEq, Prod.mk.injEq] at hc
      obtain ⟨rfl, rfl⟩ := hc
      obtain ⟨cs, rfl, hr⟩ := hv
      obtain ⟨h1, h2⟩ := canons_rep hk hlen hrows hkind l hcs (by simpa [refs] using hR) (by simpa [refs] using hro) hr
      exact ⟨by simpa [refs] using h1, cs, rfl, h2⟩
  | .tu l, n, n', x', v, hc, hR, hro, hv => by
    simp only [canon] at hc
    cases hcs : canons n l with
    | none => rw [hcs] at hc; cases hc
    | some q =>
      obtain ⟨l', m⟩ := q
      rw [hcs] at hc
      simp only [Option.some.injEq, Prod.mk.injEq] at hc
      obtain ⟨rfl, rfl⟩ := hc
      obtain ⟨cs, rfl, hr⟩ := hv
      obtain ⟨h1, h2⟩ := canons_rep hk hlen hrows hkind l hcs (by simpa [refs] using hR) (by simpa [refs] using hro) hr
      exact ⟨by simpa [refs] using h1, cs, rfl, h2⟩
  | .un, _, _, _, _, hc, _, _, _ => by simp [canon] at hc
  | .ptr _ _, _, _, _, _, hc, _, _, _ => by simp [canon] at hc
  | .subp _ _ _, _, _, _, _, hc, _, _, _ => by simp [canon] at hc
  | .adr _ _, _, _, _, _, hc, _, _, _ => by simp [canon] at hc
  | .rp _ _, _, _, _, _, hc, _, _, _ => by simp [canon] at hc
  | .clo _ _, _, _, _, _, hc, _, _, _ => by simp [canon] at hc
theorem canons_rep {hp h : List (Nat × ARow)} {nx : Nat} {bad' : Nat → Prop} (hk : Keeps w (badOf ob hp η) w bad') {R : List (Nat × Option Nat)} (hlen : h.length = R.length) (hrows : ∀ j, look h j = (R[j]?).bind (rowOf hp))
    (hkind : ∀ (j : Nat) (p : Nat × Option Nat) (r : ARow), R[j]? = some p → rowOf hp p = some r → r.kind < 4) : ∀ (l : List AVal) {n n' : Nat} {l' : List AVal} {vs : List Value}, canons n l = some (l', n') → (∀ j, j < (refsAll l).length → R[n + j]? = (refsAll l)[j]?) → (∀ p, p ∈ refsAll l → ∃ r, rowOf hp p = some r) →
      VReps w (badOf ob hp η) hp nx η l vs → n' = n + (refsAll l).length ∧ VReps w bad' h h.length (ηret hp η R) l' vs
  | [], n, n', l', [], hc, _, _, _ => by simp only [canons, Option.some.injEq, Prod.mk.injEq] at hc; obtain ⟨rfl, rfl⟩ := hc; exact ⟨by simp [refsAll], trivial⟩
  | x :: l, n, n', l', v :: vs, hc, hR, hro, hv => by
    simp only [canons] at hc
    cases hcx : canon n x with
    | none => rw [hcx] at hc; cases hc
    | some q =>
      obtain ⟨x', m⟩ := q
      rw [hcx] at hc
      simp only at hc
      cases hcs : canons m l with
      | none => rw [hcs] at hc; cases hc
      | some q2 =>
        obtain ⟨r', q⟩ := q2
        rw [hcs] at hc
        simp only [Option.some.injEq, Prod.mk.injEq] at hc
        obtain ⟨rfl, rfl⟩ := hc
        simp only [refsAll] at hR hro
        obtain ⟨h1, h2⟩ := canon_rep hk hlen hrows hkind x hcx (fun j hj => by rw [hR j (by simp; omega), List.getElem?_append_left hj]) (fun p hp => hro p (by simp [hp])) hv.1
        subst h1
        obtain ⟨h3, h4⟩ := canons_rep hk hlen hrows hkind l hcs (fun j hj => by
          have := hR ((refs x).length + j) (by simp; omega)
          rw [List.getElem?_append_right (by omega)] at this
          rw [Nat.add_assoc, this]; simp) (fun p hp => hro p (by simp [hp])) hv.2
        exact ⟨by simp only [refsAll, List.length_append]; omega, h2, h4⟩
  | [], _, _, _, _ :: _, _, _, _, hv => hv.elim
  | _ :: _, _, _, _, [], _, _, _, hv => hv.elim
end

mutual
theorem refs_in {hp : List (Nat × ARow)} {nx : Nat} {bad : Nat → Prop} : ∀ (x : AVal) {v : Value}, VRep w bad hp nx η x v → ∀ p, p ∈ refs x → (∃ r, look hp p.1 = some r) → inOk η p
  | .own k, v, hv, p, hp, _ => by simp only [refs, List.mem_singleton] at hp; subst hp; intro i hi; cases hi
  | .sub k i, v, hv, p, hp, ⟨r, hr⟩ => by
    simp only [refs, List.mem_singleton] at hp
    subst hp
    intro j hj
    simp only [Option.some.injEq] at hj
    subst hj
    exact (List.getElem?_eq_some_iff.1 (hv.2 r hr).2).1
  | .ag l, v, ⟨cs, _, hr⟩, p, hp, hl => refsAll_in l hr p (by simpa [refs] using hp) hl
  | .tu l, v, ⟨cs, _, hr⟩, p, hp, hl => refsAll_in l hr p (by simpa [refs] using hp) hl
  | .un, _, _, p, hp, _ => by simp [refs] at hp
  | .c _, _, _, p, hp, _ => by simp [refs] at hp
  | .t _, _, _, p, hp, _ => by simp [refs] at hp
  | .ptr _ _, _, _, p, hp, _ => by simp [refs] at hp
  | .subp _ _ _, _, _, p, hp, _ => by simp [refs] at hp
  | .adr _ _, _, _, p, hp, _ => by simp [refs] at hp
  | .rp _ _, _, _, p, hp, _ => by simp [refs] at hp
  | .clo _ _, _, _, p, hp, _ => by simp [refs] at hp
theorem refsAll_in {hp : List (Nat × ARow)} {nx : Nat} {bad : Nat → Prop} : ∀ (l : List AVal) {vs : List Value}, VReps w bad hp nx η l vs → ∀ p, p ∈ refsAll l → (∃ r, look hp p.1 = some r) → inOk η p
  | [], [], _, p, hp, _ => by simp [refsAll] at hp
  | x :: l, v :: vs, h, p, hp, hl => by
    simp only [refsAll, List.mem_append] at hp
    rcases hp with hp | hp
    · exact refs_in x h.1 p hp hl
    · exact refsAll_in l h.2 p hp hl
  | [], _ :: _, h, _, _, _ => h.elim
  | _ :: _, [], h, _, _, _ => h.elim
end

theorem rowOf_look {hp : List (Nat × ARow)} {p : Nat × Option Nat} {r : ARow} (h : rowOf hp p = some r) : ∃ r0, look hp p.1 = some r0 := by
  unfold rowOf at h
  cases hl : look hp p.1 with
  | none => rw [hl] at h; cases h
  | some r0 => exact ⟨r0, rfl⟩

theorem rowsOf_all {hp : List (Nat × ARow)} : ∀ {R : List (Nat × Option Nat)} {n : Nat} {h : List (Nat × ARow)}, rowsOf hp n R = some h → ∀ p, p ∈ R → ∃ r, rowOf hp p = some r
  | [], _, _, _, p, hm => by simp at hm
  | q :: R, n, h, hr, p, hm => by
    simp only [rowsOf] at hr
    cases hq : rowOf hp q with
    | none => rw [hq] at hr; cases hr
    | some x =>
      rw [hq] at hr
      simp only at hr
      cases hl : rowsOf hp (n + 1) R with
      | none => rw [hl] at hr; cases hr
      | some l =>
        rcases List.mem_cons.1 hm with rfl | hm
        · exact ⟨x, hq⟩
        · exact rowsOf_all hl p hm

/-- what is handed back -/
theorem afin_sound (h : SRep w0 ob st a w η) {x : AVal} {v : Value} (hv : VR w ob st η x v) {post : AVal → List (Nat × ARow) → Prop} (hk : afin st x post) :
    ∃ x' hr ηr, post x' hr ∧ HRep w w0.B ob hr hr.length ηr ∧ VRep w (fun b => ob b ∨ ownB hr ηr b) hr hr.length ηr x' v := by
  unfold afin at hk
  split at hk
  case h_1 => exact hk.elim
  case h_2 x' m hc =>
    split at hk
    case h_1 => exact hk.elim
    case h_2 hd =>
      split at hk
      case h_1 => exact hk.elim
      case h_2 hr hrs =>
        obtain ⟨hlen, _, hlk⟩ := rowsOf_spec hrs
        have hlk' : ∀ j, look hr j = ((refs x)[j]?).bind (rowOf st.hp) := fun j => by simpa using hlk j
        have hall := rowsOf_all hrs
        have hin : ∀ p, p ∈ refs x → inOk η p := fun p hp => by
          obtain ⟨r, h1⟩ := hall p hp
          exact refs_in x hv p hp (rowOf_look h1)
        have hget : ∀ j r, look hr j = some r → ∃ p, (refs x)[j]? = some p ∧ rowOf st.hp p = some r := fun j r hj => by
          rw [hlk'] at hj
          exact Option.bind_eq_some_iff.1 hj
        have hkeep0 : ∀ bad', (∀ b, bad' b → badOf ob st.hp η b) → Keeps w (badOf ob st.hp η) w bad' := fun bad' hs b o y hb hcell => ⟨fun h1 => hb (hs b h1), hcell⟩
        -- the result's rows are rows of the call's own
        have hown : ∀ b, ownB hr (ηret st.hp η (refs x)) b → ownB st.hp η b := fun b ⟨j, r, hj, hb⟩ => by
          obtain ⟨p, h1, h2⟩ := hget j r hj
          obtain ⟨_, ⟨r0, h3, h4⟩, _, _⟩ := rowOf_rep (bad' := fun _ => False) (hp' := []) (nx' := 0) h.heap h1 h2 (hin p (List.mem_of_getElem? h1)) (Keeps.none w _)
          exact ⟨p.1, r0, h3, h4 b hb⟩
        have hkeep := hkeep0 (fun b => ob b ∨ ownB hr (ηret st.hp η (refs x)) b) (fun b hb => hb.imp id (hown b))
        have hrep : ∀ j r, look hr j = some r → ∃ p, (refs x)[j]? = some p ∧ RowRep w w0.B (fun b => ob b ∨ ownB hr (ηret st.hp η (refs x)) b) hr hr.length (ηret st.hp η (refs x)) j r ∧
            (∃ r0, look st.hp p.1 = some r0 ∧ (∀ b, b ∈ bsOf (ηret st.hp η (refs x)) j r → b ∈ bsOf η p.1 r0)) ∧ (bsOf (ηret st.hp η (refs x)) j r).Nodup := fun j r hj => by
          obtain ⟨p, h1, h2⟩ := hget j r hj
          obtain ⟨g1, g2, g3, _⟩ := rowOf_rep (hp' := hr) (nx' := hr.length) h.heap h1 h2 (hin p (List.mem_of_getElem? h1)) hkeep
          exact ⟨p, h1, g1, g2, g3⟩
        refine ⟨x', hr, ηret st.hp η (refs x), hk, ⟨fun j r hj => ?_, fun j r hj => ?_, fun j r j' r' hj hj' hne b hb hm => ?_, fun j r hj => ?_⟩, ?_⟩
        · obtain ⟨_, _, g, _⟩ := hrep j r hj; exact g
        · obtain ⟨_, _, _, _, g⟩ := hrep j r hj; exact g
        · obtain ⟨p, h1, _, ⟨r0, h2, h3⟩, _⟩ := hrep j r hj
          obtain ⟨p', h1', _, ⟨r0', h2', h3'⟩, _⟩ := hrep j' r' hj'
          exact h.heap.apart p.1 r0 p'.1 r0' h2 h2' (differ_spec hd j j' p p' h1 h1' hne) b (h3 b hb) (h3' b hm)
        · obtain ⟨p, h1, _⟩ := hget j r hj
          rw [hlen]; exact (List.getElem?_eq_some_iff.1 h1).1
        · refine (canon_rep hkeep hlen hlk' (fun j p r h1 h2 => ?_) x hc (fun j _ => by rw [Nat.zero_add]) hall hv).2
          exact (rowOf_rep (bad' := fun _ => False) (hp' := []) (nx' := 0) h.heap h1 h2 (hin p (List.mem_of_getElem? h1)) (Keeps.none w _)).2.2.2

def resOf (tmps : Array Value) (r : ResultVar) : Sem Value :=
  match r with
  | .tmp t => Pure.pure (tmps.getD t undef)
  | .cell p t => do loadVar t (← asAddr (tmps.getD p undef))

theorem ares_sound (hΓ : TysOk P Γ) (h : SRep w0 ob st a w η) : ∀ {rs : List ResultVar} {K : List AVal → Prop}, ares Γ st rs K →
    ∃ xs vs, K xs ∧ VRs w ob st η xs vs ∧ (rs.mapM (resOf a.tmps)).run P w = .ok vs w
  | [], K, hk => ⟨[], [], hk, trivial, by simp⟩
  | .tmp t :: rs, K, hk => by
    simp only [ares] at hk
    cases hx : lk st t with
    | none => rw [hx] at hk; exact hk.elim
    | some x =>
      rw [hx] at hk
      obtain ⟨xs, vs, h1, h2, h3⟩ := ares_sound hΓ h hk
      exact ⟨x :: xs, _ :: vs, h1, ⟨h.tmp hx, h2⟩, by simp [List.mapM_cons, resOf, h3]⟩
  | .cell p t :: rs, K, hk => by
    simp only [ares] at hk
    cases hy : lk st p with
    | none => rw [hy] at hk; exact hk.elim
    | some y =>
      rw [hy] at hk
      simp only at hk
      split at hk
      case h_2 => exact hk.elim
      case h_1 hkey =>
        have hyv := h.tmp hy
        obtain ⟨v, x, hx, hv, hrun⟩ := aload_sound hΓ h hyv hk
        obtain ⟨xs, vs, h1, h2, h3⟩ := ares_sound hΓ h hx
        -- the slot holds an address
        have hptr : ∃ ad, a.tmps.getD p undef = .pointer (some ad) := by
          cases y with
          | ptr k off =>
            simp only at hkey
            unfold isKey at hkey
            cases hr : look st.hp k with
            | none => rw [hr] at hkey; cases hkey
            | some r => obtain ⟨_, b, _, he⟩ := hyv.2 r hr; exact ⟨_, he⟩
          | _ =>
            simp only at hkey
            unfold isKey at hkey
            cases hr : look st.hp st.nx with
            | none => rw [hr] at hkey; cases hkey
            | some r => have := h.heap.lt _ r hr; omega
        obtain ⟨ad, had⟩ := hptr
        have hrun' := hrun w (Below.refl _ _)
        rw [had, run_loadAt] at hrun'
        exact ⟨x :: xs, v :: vs, h1, ⟨hv, h2⟩, by simp [List.mapM_cons, resOf, had, asAddr, hrun', h3]⟩

theorem aret_sound (hΓ : TysOk P Γ) (h : SRep w0 ob st a w η) {fn : Func} {post : AVal → List (Nat × ARow) → Prop} (hk : aret Γ st fn.results.toList post) :
    ∃ v x' hr ηr, (results fn a.tmps).run P w = .ok v w ∧ post x' hr ∧ HRep w w0.B ob hr hr.length ηr ∧ VRep w (fun b => ob b ∨ ownB hr ηr b) hr hr.length ηr x' v := by
  obtain ⟨xs, vs, h1, h2, h3⟩ := ares_sound hΓ h hk
  have hres : (results fn a.tmps).run P w = .ok (if hh : vs.toArray.size = 1 then vs.toArray[0] else .tuple vs.toArray) w := by
    have e : results fn a.tmps = (do
        let vs ← fn.results.mapM (resOf a.tmps)
        Pure.pure (if h : vs.size = 1 then vs[0] else .tuple vs)) := rfl
    rw [e, Array.mapM_eq_mapM_toList]
    simp only [Sem.run_bind, Sem.run_map, h3, Result.andThen_ok, Sem.run_pure]
  have two : ∀ {xs : List AVal} {vs : List Value}, VRs w ob st η xs vs → vs.length ≠ 1 → afin st (.tu xs) post → (results fn a.tmps).run P w = .ok (if hh : vs.toArray.size = 1 then vs.toArray[0] else .tuple vs.toArray) w →
      ∃ v x' hr ηr, (results fn a.tmps).run P w = .ok v w ∧ post x' hr ∧ HRep w w0.B ob hr hr.length ηr ∧ VRep w (fun b => ob b ∨ ownB hr ηr b) hr hr.length ηr x' v := by
    intro xs vs h2 hne hf hres
    obtain ⟨x', hr, ηr, g1, g2, g3⟩ := afin_sound h (x := .tu xs) (v := .tuple vs.toArray) ⟨vs, rfl, h2⟩ hf
    exact ⟨_, x', hr, ηr, by rw [hres, dif_neg (by simpa using hne)], g1, g2, g3⟩
  clear h3
  match xs, vs, h2, h1, hres with
  | [x], [v], h2, h1, hres =>
    obtain ⟨x', hr, ηr, g1, g2, g3⟩ := afin_sound h h2.1 h1
    exact ⟨v, x', hr, ηr, by rw [hres]; rfl, g1, g2, g3⟩
  | [], [], h2, h1, hres => exact two h2 (by simp) h1 hres
  | x :: y :: xs, u :: v :: vs, h2, h1, hres => exact two h2 (by simp) h1 hres

def initSl : Nat → List AVal → List (Nat × AVal)
  | _, [] => []
  | i, a :: r => (i, a) :: initSl (i + 1) r

theorem init_look {bad : Nat → Prop} : ∀ {l : List AVal} {vs : List Value} {n : Nat}, VReps w bad [] 0 η0 l vs → ∀ i x, look (initSl n l) i = some x → ∃ v, n ≤ i ∧ vs[i - n]? = some v ∧ VRep w bad [] 0 η0 x v
  | [], [], n, _, i, x, h => by simp [initSl, look] at h
  | y :: l, v :: vs, n, hr, i, x, h => by
    simp only [initSl] at h
    rw [look_cons] at h
    split at h
    · rename_i hni
      simp only [Option.some.injEq] at h
      subst hni h
      exact ⟨v, Nat.le_refl _, by simp, hr.1⟩
    · obtain ⟨u, h1, h2, h3⟩ := init_look hr.2 i x h
      refine ⟨u, by omega, ?_, h3⟩
      rw [show i - n = (i - (n + 1)) + 1 by omega]
      simpa using h2
  | [], _ :: _, _, h, _, _, _ => h.elim
  | _ :: _, [], _, h, _, _, _ => h.elim

def aend (Γ : Tys) (rs : List ResultVar) (post : AVal → List (Nat × ARow) → Prop) : Exit → St → Prop
  | .ret, st => aret Γ st rs post
  | .normal, st => aret Γ st rs post
  | _, _ => False

/-- THE CONTRACT OF A FUNCTION, by its text -/
theorem fspec (hΓ : TysOk P Γ) (hm : P.follows .mixedOrders = true) {f : FuncId} {fn : Func} {c : Code} {args : List AVal} {post : AVal → List (Nat × ARow) → Prop} (hf : P.funcs[f]? = some fn) (hb : fn.body = some c)
    (hname : (fn.name == "runtime.NumGoroutine") = false) (hn : Nat.ble args.length fn.ntmps = true)
    (h : acode P Γ c ⟨fn.ntmps, initSl 0 args, [], 0⟩ (aend Γ fn.results.toList post)) : FSpec P f args post := by
  refine ⟨⟨fn, hf, hname, by rw [hb]; rfl⟩, fun w bad vs hbl hvs => ?_⟩
  refine calls_of_wp hf hb ?_
  have hle := Nat.le_of_ble_eq_true hn
  have hlen := VReps.length hvs
  have hs : SRep ⟨w, w.heap.size, fun _ => False, fun _ => undef⟩ bad ⟨fn.ntmps, initSl 0 args, [], 0⟩ { tmps := vs.toArray ++ Array.replicate (fn.ntmps - vs.toArray.size) undef, defers := [] } w η0 := by
    refine ⟨rfl, by simp; omega, Below.refl _ _, ⟨Nat.le_refl _, hbl, fun _ h => h.elim⟩, fun _ _ _ => rfl, fun b ⟨k, r, hk, _⟩ => by simp [look] at hk, ⟨fun k r hk => by simp [look] at hk, fun k r hk => by simp [look] at hk, fun k r k' r' hk => by simp [look] at hk, fun k r hk => by simp [look] at hk⟩, fun i x hi => ?_⟩
    obtain ⟨v, _, h2, h3⟩ := init_look hvs i x hi
    simp only [Nat.sub_zero] at h2
    have hlt : i < vs.length := (List.getElem?_eq_some_iff.1 h2).1
    have : (vs.toArray ++ Array.replicate (fn.ntmps - vs.toArray.size) undef).getD i undef = v := by
      rw [Array.getD_eq_getD_getElem?, Array.getElem?_append_left (by simpa using hlt)]
      simp [h2]
    simp only [this]
    refine VRep.frame (fun b o y hb hc => ⟨?_, hc⟩) (Nat.le_refl _) (fun k _ => OwnOk.refl _ _ k) (fun k _ => SubOk.refl _ _ k) h3
    rintro (h1 | ⟨j, r, hj, _⟩)
    · exact hb h1
    · simp [look] at hj
  refine wp_mono (acode_sound (w0 := ⟨w, w.heap.size, fun _ => False, fun _ => undef⟩) hΓ hm c _ _ _ w h ⟨η0, hs⟩) (fun e a' w' hl => ?_)
  obtain ⟨st', hk, η', hs'⟩ := hl
  have fin : aret Γ st' fn.results.toList post → ∃ v, (results fn a'.tmps).run P w' = .ok v w' ∧ ∃ v' x h η, Ending.returned v = .returned v' ∧ post x h ∧ Below w.heap.size w w' ∧
      HRep w' w.heap.size bad h h.length η ∧ VRep w' (fun b => bad b ∨ ownB h η b) h h.length η x v' := fun hk => by
    obtain ⟨v, x', hr, ηr, g1, g2, g3, g4⟩ := aret_sound hΓ hs' hk
    exact ⟨v, g1, v, x', hr, ηr, rfl, g2, hs'.below, g3, g4⟩
  cases e with
  | ret => exact ⟨hs'.defers, fin hk⟩
  | normal => exact ⟨hs'.defers, fin hk⟩
  | _ => exact hk.elim
end
end Go.Aw
