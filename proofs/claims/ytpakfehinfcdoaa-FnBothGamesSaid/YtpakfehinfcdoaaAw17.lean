/- Code, loops, whole functions. -/
import Derived.Test.YtpakfehinfcdoaaAwH
namespace Go.Aw
open Go.RowKit

section
variable {P : Program} {Γ : Tys} {w0 : Base} {w w' : World} {ob : Nat → Prop} {st : St} {a : Act} {η : Env}

theorem lift_mono {K K' : Exit → St → Prop} (h : ∀ e st, K e st → K' e st) {e : Exit} {a : Act} {w : World} (hl : lift w0 ob K e a w) : lift w0 ob K' e a w :=
  let ⟨st, hk, hs⟩ := hl; ⟨st, h e st hk, hs⟩

theorem acode_sound (hΓ : TysOk P Γ) (hm : P.follows .mixedOrders = true) : ∀ (c : Code) (st : St) (K : Exit → St → Prop) (a : Act) (w : World), acode P Γ c st K → StRep w0 ob st a w → c.wp P (lift w0 ob K) a w
  | .skip, st, K, a, w, hk, h => wp_skip ⟨st, hk, h⟩
  | .label _, st, K, a, w, hk, h => wp_label ⟨st, hk, h⟩
  | .region id ops d, st, K, a, w, hk, ⟨η, h⟩ =>
    wp_mono (aregion_sound (K := fun e st => match e with | .normal => frSt st (K .normal) | e => K e st) hΓ h hk) (fun e a' w' hl => by
      obtain ⟨st', hk', η', hs'⟩ := hl
      cases e with
      | normal =>
        obtain ⟨st1, hk1, e1, e2, e3, e4⟩ := frSt_spec (show frSt st' (K .normal) from hk')
        exact ⟨st1, hk1, η', hs'.same e1 e2 e3 e4⟩
      | _ => exact ⟨st', hk', η', hs'⟩)
  | .seq x y, st, K, a, w, hk, h => by
    refine wp_seq ?_
    refine wp_mono (acode_sound hΓ hm x st _ a w hk h) (fun e a' w' hl => ?_)
    obtain ⟨st', hk', hs'⟩ := hl
    cases e with
    | normal => exact acode_sound hΓ hm y st' K a' w' hk' hs'
    | _ => exact ⟨st', hk', hs'⟩
  | .cond c x y, st, K, a, w, hk, h => by
    rw [acode_cond] at hk
    split at hk
    case h_2 => exact hk.elim
    case h_1 t ht =>
      obtain ⟨η, hs⟩ := h
      obtain ⟨hc, _⟩ := ev_sound hs ht
      refine wp_cond_split hc (fun e => ?_) (fun e => ?_)
      · exact acode_sound hΓ hm x st K a w (hk.1 e) ⟨η, hs⟩
      · exact acode_sound hΓ hm y st K a w (hk.2 e) ⟨η, hs⟩
  | .block id b, st, K, a, w, hk, h => by
    refine wp_block ?_
    refine wp_mono (acode_sound hΓ hm b st _ a w hk h) (fun e a' w' hl => ?_)
    obtain ⟨st', hk', hs'⟩ := hl
    cases e with
    | exit id' =>
      simp only [Exit.inBlock]
      simp only at hk'
      split at hk'
      case h_1 hb =>
        rw [if_pos (Nat.eq_of_beq_eq_true hb)]; exact ⟨st', hk', hs'⟩
      case h_2 hb =>
        rw [if_neg (fun e => by rw [e, Nat.beq_refl] at hb; cases hb)]; exact ⟨st', hk', hs'⟩
    | _ => exact ⟨st', hk', hs'⟩
  | .exit id, st, K, a, w, hk, h => wp_exit ⟨st, hk, h⟩
  | .ret, st, K, a, w, hk, h => wp_ret ⟨st, hk, h⟩
  | .loop b, st, K, a, w, hk, h => hk.run w0 ob a w h
  | .rangeFunc .., _, _, _, _, hk, _ => hk.elim
  | .scope _, _, _, _, _, hk, _ => hk.elim
  | .goto _, _, _, _, _, hk, _ => hk.elim
  | .refuse _, _, _, _, _, hk, _ => hk.elim

end

/-! ### the same state told otherwise -/
inductive Org where
  | row (k : Nat)
  | sub (k i : Nat)
  | nil

def keyIn (k : Nat) : List (Nat × Org) → Bool
  | [] => false
  | (_, .row j) :: r => match Nat.beq j k with | true => true | false => keyIn k r
  | (_, .sub j _) :: r => match Nat.beq j k with | true => true | false => keyIn k r
  | (_, .nil) :: r => keyIn k r

def distinct : List (Nat × Org) → Bool
  | [] => true
  | (_, .row j) :: r => match keyIn j r with | true => false | false => distinct r
  | (_, .sub j _) :: r => match keyIn j r with | true => false | false => distinct r
  | (_, .nil) :: r => distinct r

section
variable (hp : List (Nat × ARow)) (R : List (Nat × Org)) (nx : Nat)
mutual
/-- a value of the one state as the other tells it -/
def vw : AVal → AVal → Prop
  | .un, y => match y with | .un => True | _ => False
  | .c v, y => match y with
    | .c v' => v = v'
    | .own j => v = .slice none 0 0 ∧ Nat.blt j nx = true ∧ look R j = some .nil
    | .t (.ints _ []) => v = .slice none 0 0
    | .t (.rows []) => v = .slice none 0 0
    | .t (.recs _ []) => v = .slice none 0 0
    | .un => True
    | _ => False
  | .t t, y => match y with | .t t' => t = t' | .un => True | _ => False
  | .adr t i, y => match y with | .adr t' i' => t = t' ∧ i = i' | .un => True | _ => False
  | .ag l, y => match y with | .ag l' => vws l l' | .un => True | _ => False
  | .tu l, y => match y with | .tu l' => vws l l' | .un => True | _ => False
  | .clo f l, y => match y with | .clo g l' => f = g ∧ vws l l' | .un => True | _ => False
  | .rp l o, y => match y with | .rp l' o' => o = o' ∧ vws l l' | .un => True | _ => False
  | .knot f l n, y => match y with | .knot g l' n' => f = g ∧ n = n' ∧ vws l l' | .un => True | _ => False
  | .nul, y => match y with | .nul => True | .t (.ints .i64 []) => True | .un => True | _ => False
  | .own k, y => match y with
    | .own j => Nat.blt j nx = true ∧ look R j = some (.row k)
    | .t t => keyIn k R = false ∧ match look hp k with | some r => closeRow r = some t | none => False
    | .un => True
    | _ => False
  | .sub k i, y => match y with
    | .sub j i' => Nat.blt j nx = true ∧ look R j = some (.row k) ∧ i = i'
    | .own j => Nat.blt j nx = true ∧ look R j = some (.sub k i)
    | .t (.ints .i64 l) => keyIn k R = false ∧ match look hp k with | some (.rows _ _ true m) => m.getD i [] = l | _ => False
    | .un => True
    | _ => False
  | .ptr k o, y => match y with
    | .ptr j o' => Nat.blt j nx = true ∧ look R j = some (.row k) ∧ o = o'
    | .un => True
    | _ => False
  | .subp k i o, y => match y with
    | .subp j i' o' => Nat.blt j nx = true ∧ look R j = some (.row k) ∧ i = i' ∧ o = o'
    | .un => True
    | _ => False
def vws : List AVal → List AVal → Prop
  | [], y => match y with | [] => True | _ :: _ => False
  | a :: l, y => match y with | [] => False | b :: r => vw a b ∧ vws l r
end

def rowVw (s : Org) (r' : ARow) : Prop :=
  match s with
  | .row k => match look hp k with
    | some (.cells e l) => match r' with | .cells e' l' => e = e' ∧ vws hp R nx l l' | _ => False
    | some r => r = r'
    | none => False
  | .sub k i => match look hp k with
    | some (.rows _ e1 true m) => i < m.length ∧ ARow.ints e1 .i64 (m.getD i []) = r'
    | _ => False
  | .nil => match r' with
    | .ints _ _ [] => True
    | .rows _ _ _ [] => True
    | .recs _ _ [] => True
    | _ => False

def rowsVw : List (Nat × ARow) → Prop
  | [] => True
  | (j, r) :: h => Nat.blt j nx = true ∧ (match look R j with | some s => rowVw hp R nx s r | none => False) ∧ rowsVw h

def slotsVw (sl : List (Nat × AVal)) : List (Nat × AVal) → Prop
  | [] => True
  | (i, x) :: r => (match look sl i with | some y => vw hp R nx y x | none => False) ∧ slotsVw sl r
end

def idR : List (Nat × ARow) → List (Nat × Org)
  | [] => []
  | (j, _) :: r => (j, .row j) :: idR r

/-- the second state tells what the first one tells, by other names ('R': where its rows come from), and maybe less -/
structure View (R : List (Nat × Org)) (st st' : St) : Prop where
  sz : st.sz = st'.sz
  di : distinct R = true
  sl : slotsVw st.hp R st'.nx st.sl st'.sl
  hp : rowsVw st.hp R st'.nx st'.hp

/-! ### it stays true -/
def ηV (hp : List (Nat × ARow)) (η : Env) (R : List (Nat × Org)) : Env :=
  ⟨fun j => match look R j with
    | some (.row k) => η.val k
    | some (.sub k i) => (η.cel k).getD i undef
    | some .nil => .slice none 0 0
    | none => undef,
   fun j => match look R j with
    | some (.row k) => η.cel k
    | some (.sub k i) => match look hp k with
      | some (.rows _ _ _ m) => (m.getD i []).map (Value.int .i64)
      | _ => []
    | some .nil => []
    | none => []⟩

section
variable {w : World} {B : Nat} {ob : Nat → Prop} {hp hp' : List (Nat × ARow)} {nx nx' : Nat} {η : Env} {R : List (Nat × Org)}

theorem keyIn_row {k j : Nat} : ∀ {R : List (Nat × Org)} {s : Org}, keyIn k R = false → look R j = some s → s ≠ .row k ∧ ∀ i, s ≠ .sub k i
  | [], s, _, h => by simp [look] at h
  | (i, s0) :: R, s, hk, h => by
    rw [look_cons] at h
    cases s0 with
    | row m =>
      simp only [keyIn] at hk
      split at hk
      case h_1 => cases hk
      case h_2 hb =>
        by_cases hij : i = j
        · rw [if_pos hij] at h
          simp only [Option.some.injEq] at h
          subst h
          refine ⟨fun e => ?_, fun _ e => by cases e⟩
          simp only [Org.row.injEq] at e
          rw [e, Nat.beq_refl] at hb; cases hb
        · rw [if_neg hij] at h; exact keyIn_row hk h
    | sub m q =>
      simp only [keyIn] at hk
      split at hk
      case h_1 => cases hk
      case h_2 hb =>
        by_cases hij : i = j
        · rw [if_pos hij] at h
          simp only [Option.some.injEq] at h
          subst h
          refine ⟨fun e => (by cases e), fun _ e => ?_⟩
          simp only [Org.sub.injEq] at e
          rw [e.1, Nat.beq_refl] at hb; cases hb
        · rw [if_neg hij] at h; exact keyIn_row hk h
    | nil =>
      simp only [keyIn] at hk
      by_cases hij : i = j
      · rw [if_pos hij] at h
        simp only [Option.some.injEq] at h
        subst h
        exact ⟨fun e => (by cases e), fun _ e => (by cases e)⟩
      · rw [if_neg hij] at h; exact keyIn_row hk h

def Org.key : Org → Option Nat
  | .row k => some k
  | .sub k _ => some k
  | .nil => none

theorem keyIn_key {k j : Nat} {R : List (Nat × Org)} {s : Org} (h : keyIn k R = false) (hl : look R j = some s) : s.key ≠ some k := by
  obtain ⟨h1, h2⟩ := keyIn_row h hl
  cases s with
  | row m => intro e; simp only [Org.key, Option.some.injEq] at e; exact h1 (by rw [e])
  | sub m i => intro e; simp only [Org.key, Option.some.injEq] at e; exact h2 i (by rw [e])
  | nil => intro e; cases e

theorem distinct_spec : ∀ {R : List (Nat × Org)}, distinct R = true → ∀ {j j' : Nat} {s s' : Org} {k : Nat}, look R j = some s → look R j' = some s' → j ≠ j' → s.key = some k → s'.key ≠ some k
  | [], _, j, j', s, s', k, h, _, _, _ => by simp [look] at h
  | (i, s0) :: R, hd, j, j', s, s', k, h, h', hne, hk => by
    have hd' : distinct R = true ∧ ∀ m, s0.key = some m → keyIn m R = false := by
      cases s0 with
      | row m =>
        simp only [distinct] at hd
        split at hd
        case h_1 => cases hd
        case h_2 hb => exact ⟨hd, fun q e => by simp only [Org.key, Option.some.injEq] at e; subst e; exact hb⟩
      | sub m q =>
        simp only [distinct] at hd
        split at hd
        case h_1 => cases hd
        case h_2 hb => exact ⟨hd, fun q e => by simp only [Org.key, Option.some.injEq] at e; subst e; exact hb⟩
      | nil => exact ⟨hd, fun _ e => by cases e⟩
    rw [look_cons] at h h'
    by_cases hij : i = j
    · rw [if_pos hij] at h
      simp only [Option.some.injEq] at h
      subst h
      rw [if_neg (by omega)] at h'
      exact keyIn_key (hd'.2 k hk) h'
    · rw [if_neg hij] at h
      by_cases hij' : i = j'
      · rw [if_pos hij'] at h'
        simp only [Option.some.injEq] at h'
        subst h'
        intro e
        exact keyIn_key (hd'.2 k e) h hk
      · rw [if_neg hij'] at h'
        exact distinct_spec hd'.1 h h' hne hk

theorem rowsVw_at : ∀ {h : List (Nat × ARow)}, rowsVw hp R nx' h → ∀ {j r'}, look h j = some r' → j < nx' ∧ ∃ s, look R j = some s ∧ rowVw hp R nx' s r'
  | [], _, j, r', h => by simp [look] at h
  | (i, x) :: h, hv, j, r', hl => by
    rw [look_cons] at hl
    by_cases hij : i = j
    · rw [if_pos hij] at hl
      simp only [Option.some.injEq] at hl
      subst hij hl
      obtain ⟨h1, h2, _⟩ := hv
      refine ⟨Nat.le_of_ble_eq_true h1, ?_⟩
      cases hs : look R i with
      | none => rw [hs] at h2; exact h2.elim
      | some s => rw [hs] at h2; exact ⟨s, rfl, h2⟩
    · rw [if_neg hij] at hl; exact rowsVw_at hv.2.2 hl

theorem slotsVw_at {sl : List (Nat × AVal)} : ∀ {l : List (Nat × AVal)}, slotsVw hp R nx' sl l → ∀ {i x}, look l i = some x → ∃ y, look sl i = some y ∧ vw hp R nx' y x
  | [], _, i, x, h => by simp [look] at h
  | (j, z) :: l, hv, i, x, hl => by
    rw [look_cons] at hl
    by_cases hij : j = i
    · rw [if_pos hij] at hl
      simp only [Option.some.injEq] at hl
      subst hij hl
      obtain ⟨h1, _⟩ := hv
      cases hs : look sl j with
      | none => rw [hs] at h1; exact h1.elim
      | some y => rw [hs] at h1; exact ⟨y, rfl, h1⟩
    · rw [if_neg hij] at hl; exact slotsVw_at hv.2 hl

theorem rowVw_kind {k : Nat} {r' : ARow} (hv : rowVw hp R nx' (.row k) r') : ∃ r, look hp k = some r ∧ r.kind = r'.kind := by
  unfold rowVw at hv
  simp only at hv
  split at hv
  case h_1 e l hl =>
    split at hv
    case h_1 => exact ⟨_, hl, rfl⟩
    case h_2 => exact hv.elim
  case h_2 r _ hl => exact ⟨r, hl, by rw [hv]⟩
  case h_3 => exact hv.elim

/-- the blocks of a row told otherwise are of the row that it comes from -/
theorem vw_blocks (hh : HRep w B ob hp nx η) {j : Nat} {s : Org} {r' : ARow} (hs : look R j = some s) (hv : rowVw hp R nx' s r') :
    (∀ b, b ∈ bsOf (ηV hp η R) j r' → ∃ k r, s.key = some k ∧ look hp k = some r ∧ b ∈ bsOf η k r) ∧ (bsOf (ηV hp η R) j r').Nodup := by
  have hval : (ηV hp η R).val j = match s with | .row k => η.val k | .sub k i => (η.cel k).getD i undef | .nil => .slice none 0 0 := by
    simp only [ηV, hs]; cases s <;> rfl
  have hcel : (ηV hp η R).cel j = match s with | .row k => η.cel k | .sub k i => (match look hp k with | some (.rows _ _ _ m) => (m.getD i []).map (Value.int .i64) | _ => []) | .nil => [] := by
    simp only [ηV, hs]; cases s <;> rfl
  cases s with
  | nil =>
    have hb : bsOf (ηV hp η R) j r' = [] := by
      simp only at hval hcel
      simp [bsOf, hval, hcel, blk]
    rw [hb]
    exact ⟨fun b hm => by simp at hm, List.nodup_nil⟩
  | row k =>
    simp only at hval hcel
    have hk : ∃ r, look hp k = some r ∧ r.kind = r'.kind := by
      unfold rowVw at hv
      simp only at hv
      split at hv
      case h_1 e l hl =>
        split at hv
        case h_1 => exact ⟨_, hl, rfl⟩
        case h_2 => exact hv.elim
      case h_2 r _ hl => exact ⟨r, hl, by rw [hv]⟩
      case h_3 => exact hv.elim
    obtain ⟨r, hr, hkind⟩ := hk
    have hb : bsOf (ηV hp η R) j r' = bsOf η k r := by simp only [bsOf, hval, hcel, hkind]
    rw [hb]
    exact ⟨fun b hm => ⟨k, r, rfl, hr, hm⟩, hh.nodup k r hr⟩
  | sub k i =>
    simp only at hval hcel
    unfold rowVw at hv
    simp only at hv
    split at hv
    case h_2 => exact hv.elim
    case h_1 e e1 m hl =>
      obtain ⟨hi, rfl⟩ := hv
      have hrow := hh.row k _ hl
      have hnd := hh.nodup k _ hl
      obtain ⟨v, hvi, ho⟩ := F2.at hrow.2 (List.getElem?_eq_getElem hi)
      have hval' : (ηV hp η R).val j = v := by rw [hval]; exact getD_of hvi
      have hb : bsOf (ηV hp η R) j (.ints e1 .i64 (m.getD i [])) = blk v := by simp [bsOf, ARow.kind, hval']
      rw [hb]
      refine ⟨fun b hm => ⟨k, _, rfl, hl, ?_⟩, ?_⟩
      · simp only [bsOf, ARow.kind, if_true]
        exact List.mem_append.2 (.inr (List.mem_flatMap.2 ⟨v, List.mem_of_getElem? hvi, hm⟩))
      · have hflat : ((η.cel k).flatMap blk).Nodup := by
          simp only [bsOf, ARow.kind, if_true] at hnd
          exact (List.nodup_append.1 hnd).2.1
        have hsub : (blk v).Sublist ((η.cel k).flatMap blk) := by
          obtain ⟨s, t, hst⟩ := List.append_of_mem (List.mem_of_getElem? hvi)
          rw [hst]
          simp only [List.flatMap_append, List.flatMap_cons]
          exact (List.sublist_append_left _ _).trans (List.sublist_append_right _ _)
        exact hflat.sublist hsub

theorem vw_own (hh : HRep w B ob hp nx η) (hv : rowsVw hp R nx' hp') {b : Nat} (hb : ownB hp' (ηV hp η R) b) : ∃ j s k r, look R j = some s ∧ s.key = some k ∧ look hp k = some r ∧ b ∈ bsOf η k r := by
  obtain ⟨j, r', hj, hm⟩ := hb
  obtain ⟨_, s, hs, hr⟩ := rowsVw_at hv hj
  obtain ⟨k, r, h1, h2, h3⟩ := (vw_blocks hh hs hr).1 b hm
  exact ⟨j, s, k, r, hs, h1, h2, h3⟩

/-- a row that is not taken over is nobody's any more -/
theorem vw_free (hh : HRep w B ob hp nx η) (hfree : ∀ b, ownB hp η b → ¬ ob b) (hv : rowsVw hp R nx' hp') {k : Nat} (hk : keyIn k R = false) {r : ARow} (hr : look hp k = some r) {b : Nat} (hb : b ∈ bsOf η k r) :
    ¬ badOf ob hp' (ηV hp η R) b := by
  rintro (h1 | h1)
  · exact hfree b ⟨k, r, hr, hb⟩ h1
  · obtain ⟨j, s, k', r0, h2, h3, h4, h5⟩ := vw_own hh hv h1
    refine hh.apart k r k' r0 hr h4 (fun e => ?_) b hb h5
    subst e
    exact keyIn_key hk h2 h3

theorem vw_keeps (hh : HRep w B ob hp nx η) (hv : rowsVw hp R nx' hp') : Keeps w (badOf ob hp η) w (badOf ob hp' (ηV hp η R)) := by
  intro b o x hb hc
  refine ⟨?_, hc⟩
  rintro (h1 | h1)
  · exact hb (.inl h1)
  · obtain ⟨_, _, k, r, _, _, h4, h5⟩ := vw_own hh hv h1
    exact hb (.inr ⟨k, r, h4, h5⟩)

theorem own_ints' {e : Nat} {k : IntKind} {l : List Int} {v : Value} {bad : Nat → Prop} (h : OwnInts w B e k l v) (hb : ∀ b, b ∈ blk v → ¬ bad b) : SInts w bad k l v := by
  obtain ⟨a, c, hv, h1, h2, h3⟩ := own_ints h
  refine ⟨a, c, hv, h1, h2, fun i x hi => ?_⟩
  obtain ⟨b, o, ha, _, hc⟩ := h3 i x hi
  exact ⟨b, o, ha, hb b (by rw [hv, ha]; simp [blk]), hc⟩

theorem own_rows' {e : Nat} {m : List (List Int)} {cs : List Value} {v : Value} {bad : Nat → Prop} (h : w.ownsRow B e 1 v m.length cs) (hF : F2 (SInts w bad .i64) m cs) (hb : ∀ b, b ∈ blk v → ¬ bad b) : SRows w bad m v := by
  rcases h.2 with ⟨hv, h0⟩ | ⟨g, cap, cur, hv, hg, hh, hnc, hcm, r⟩
  · have : m = [] := List.eq_nil_of_length_eq_zero h0
    subst this
    exact ⟨none, 0, by simpa using hv, by simp, by unfold maxLen; omega, fun i x hi => by simp at hi⟩
  · refine ⟨some ⟨g, 0, none⟩, cap, hv, hnc, hcm, fun i x hi => ?_⟩
    obtain ⟨u, hu, hs⟩ := F2.at hF hi
    refine ⟨g, 0, u, rfl, hb g (by rw [hv]; simp [blk]), ?_, hs⟩
    rw [Nat.zero_add]
    exact own_ptr h (by rw [hv]; rfl) hu

theorem blk_own {k : Nat} {r : ARow} {b : Nat} (h : b ∈ blk (η.val k)) : b ∈ bsOf η k r := by
  simp only [bsOf]; exact List.mem_append.2 (.inl h)

mutual
theorem vw_sound (hh : HRep w B ob hp nx η) (hfree : ∀ b, ownB hp η b → ¬ ob b) (hv : rowsVw hp R nx' hp') : ∀ (y x : AVal) {v : Value}, vw hp R nx' y x → VRep w (badOf ob hp η) hp nx η y v → VRep w (badOf ob hp' (ηV hp η R)) hp' nx' (ηV hp η R) x v
  | .un, x, v, hx, hr => by cases x <;> simp only [vw] at hx <;> first | exact hx.elim | trivial
  | .c y, x, v, hx, hr => by
    obtain ⟨rfl, h1⟩ := hr
    unfold vw at hx
    split at hx
    case h_1 => subst hx; exact ⟨rfl, h1⟩
    case h_2 j =>
      obtain ⟨rfl, h2, h3⟩ := hx
      refine ⟨Nat.le_of_ble_eq_true h2, fun r' hr' => ?_⟩
      obtain ⟨_, s, hs, hrv⟩ := rowsVw_at hv hr'
      rw [h3] at hs
      obtain rfl := Option.some.inj hs
      refine ⟨?_, by simp only [ηV, h3]⟩
      unfold rowVw at hrv
      simp only at hrv
      split at hrv
      case h_1 => simp [ARow.kind]
      case h_2 _ _ u => cases u <;> simp [ARow.kind]
      case h_3 => simp [ARow.kind]
      case h_4 => exact hrv.elim
    case h_3 => subst hx; exact ⟨none, 0, rfl, Nat.le_refl _, Nat.zero_le _, fun i x hi => by simp at hi⟩
    case h_4 => subst hx; exact ⟨none, 0, rfl, Nat.le_refl _, Nat.zero_le _, fun i x hi => by simp at hi⟩
    case h_5 => subst hx; exact ⟨none, 0, rfl, Nat.le_refl _, Nat.zero_le _, fun i x hi => by simp at hi⟩
    case h_6 => trivial
    case h_7 => exact hx.elim
  | .knot f l n, x, v, hx, hr => by
    unfold vw at hx
    split at hx
    case h_1 =>
      obtain ⟨rfl, rfl, hx⟩ := hx
      obtain ⟨b, cs, rfl, hr, hb, hc⟩ := hr
      obtain ⟨hb', hc'⟩ := vw_keeps hh hv b 0 _ hb hc
      exact ⟨b, cs, rfl, vws_sound hh hfree hv l _ hx hr, hb', hc'⟩
    case h_2 => trivial
    case h_3 => exact hx.elim
  | .nul, x, v, hx, hr => by
    unfold vw at hx
    split at hx
    case h_1 => exact hr
    case h_2 => obtain ⟨ba, rfl⟩ := hr; exact ⟨ba, 0, rfl, Nat.le_refl _, Nat.zero_le _, fun i x hi => by simp at hi⟩
    case h_3 => trivial
    case h_4 => exact hx.elim
  | .t t, x, v, hx, hr => by
    unfold vw at hx
    split at hx
    case h_1 => subst hx; exact TRep.keeps (vw_keeps hh hv) hr
    case h_2 => trivial
    case h_3 => exact hx.elim
  | .adr t i, x, v, hx, hr => by
    unfold vw at hx
    split at hx
    case h_1 => obtain ⟨rfl, rfl⟩ := hx; exact ARep.keeps (vw_keeps hh hv) hr
    case h_2 => trivial
    case h_3 => exact hx.elim
  | .ag l, x, v, hx, hr => by
    unfold vw at hx
    split at hx
    case h_1 => obtain ⟨cs, rfl, hr⟩ := hr; exact ⟨cs, rfl, vws_sound hh hfree hv l _ hx hr⟩
    case h_2 => trivial
    case h_3 => exact hx.elim
  | .tu l, x, v, hx, hr => by
    unfold vw at hx
    split at hx
    case h_1 => obtain ⟨cs, rfl, hr⟩ := hr; exact ⟨cs, rfl, vws_sound hh hfree hv l _ hx hr⟩
    case h_2 => trivial
    case h_3 => exact hx.elim
  | .clo f l, x, v, hx, hr => by
    unfold vw at hx
    split at hx
    case h_1 => obtain ⟨rfl, hx⟩ := hx; obtain ⟨cs, rfl, hr⟩ := hr; exact ⟨cs, rfl, vws_sound hh hfree hv l _ hx hr⟩
    case h_2 => trivial
    case h_3 => exact hx.elim
  | .rp l o, x, v, hx, hr => by
    unfold vw at hx
    split at hx
    case h_1 =>
      obtain ⟨rfl, hx⟩ := hx
      obtain ⟨b, cs, rfl, hr, hc⟩ := hr
      exact ⟨b, cs, rfl, vws_sound hh hfree hv l _ hx hr, fun i u hu => by obtain ⟨h1, h2⟩ := hc i u hu; exact vw_keeps hh hv b i u h1 h2⟩
    case h_2 => trivial
    case h_3 => exact hx.elim
  | .own k, x, v, hx, hr => by
    unfold vw at hx
    split at hx
    case h_1 j =>
      obtain ⟨h2, h3⟩ := hx
      refine ⟨Nat.le_of_ble_eq_true h2, fun r' hr' => ?_⟩
      obtain ⟨_, s, hs, hrv⟩ := rowsVw_at hv hr'
      rw [h3] at hs
      obtain rfl := Option.some.inj hs
      obtain ⟨r, h4, h5⟩ := rowVw_kind hrv
      obtain ⟨h6, h7⟩ := hr.2 r h4
      exact ⟨by rw [← h5]; exact h6, by rw [h7]; simp only [ηV, h3]⟩
    case h_2 t =>
      obtain ⟨h2, h3⟩ := hx
      split at h3
      case h_2 => exact h3.elim
      case h_1 r hlk =>
        obtain ⟨_, h7⟩ := hr.2 r hlk
        have hfr : ∀ b, b ∈ bsOf η k r → ¬ badOf ob hp' (ηV hp η R) b := fun b hb => vw_free hh hfree hv h2 hlk hb
        have hrow := hh.row k r hlk
        rw [h7]
        match r with
        | .ints e kd l => simp only [closeRow, Option.some.injEq] at h3; subst h3; exact own_ints' hrow.1 (fun b hb => hfr b (blk_own hb))
        | .rows e e1 true m =>
          simp only [closeRow, Option.some.injEq] at h3; subst h3
          refine own_rows' hrow.1 (F2.imp (fun l v hm ho => own_ints' ho (fun b hb => hfr b ?_)) hrow.2) (fun b hb => hfr b (blk_own hb))
          simp only [bsOf, ARow.kind, if_true]
          exact List.mem_append.2 (.inr (List.mem_flatMap.2 ⟨v, hm, hb⟩))
        | .rows e e1 false m => simp only [closeRow, Option.some.injEq] at h3; subst h3; exact own_rows' hrow.1 (F2.imp (fun _ _ _ h => h.keeps (vw_keeps hh hv)) hrow.2) (fun b hb => hfr b (blk_own hb))
        | .cells e l => simp [closeRow] at h3
        | .recs e s L =>
          simp only [closeRow, Option.some.injEq] at h3; subst h3
          obtain ⟨g1, css, g2, g3⟩ := hrow
          exact own_recs g2 g1 (F2.imp (fun _ _ _ h => h.keeps (vw_keeps hh hv)) g3) (fun b hb => hfr b (blk_own hb))
    case h_3 => trivial
    case h_4 => exact hx.elim
  | .sub k i, x, v, hx, hr => by
    unfold vw at hx
    split at hx
    case h_1 j i' =>
      obtain ⟨h2, h3, rfl⟩ := hx
      refine ⟨Nat.le_of_ble_eq_true h2, fun r' hr' => ?_⟩
      obtain ⟨_, s, hs, hrv⟩ := rowsVw_at hv hr'
      rw [h3] at hs
      obtain rfl := Option.some.inj hs
      obtain ⟨r, h4, h5⟩ := rowVw_kind hrv
      obtain ⟨h6, h7⟩ := hr.2 r h4
      exact ⟨by rw [← h5]; exact h6, by simp only [ηV, h3]; exact h7⟩
    case h_2 j =>
      obtain ⟨h2, h3⟩ := hx
      refine ⟨Nat.le_of_ble_eq_true h2, fun r' hr' => ?_⟩
      obtain ⟨_, s, hs, hrv⟩ := rowsVw_at hv hr'
      rw [h3] at hs
      obtain rfl := Option.some.inj hs
      unfold rowVw at hrv
      simp only at hrv
      split at hrv
      case h_2 => exact hrv.elim
      case h_1 e e1 m hlk =>
        obtain ⟨_, rfl⟩ := hrv
        obtain ⟨_, h7⟩ := hr.2 _ hlk
        exact ⟨by simp [ARow.kind], by simp only [ηV, h3]; exact (getD_of h7).symm⟩
    case h_3 l =>
      obtain ⟨h2, h3⟩ := hx
      split at h3
      case h_2 => exact h3.elim
      case h_1 e e1 m hlk =>
        subst h3
        obtain ⟨_, h7⟩ := hr.2 _ hlk
        have hrow := hh.row k _ hlk
        obtain ⟨l', hl', ho⟩ := F2.at' hrow.2 h7
        rw [getD_of hl']
        refine own_ints' ho (fun b hb => vw_free hh hfree hv h2 hlk ?_)
        simp only [bsOf, ARow.kind, if_true]
        exact List.mem_append.2 (.inr (List.mem_flatMap.2 ⟨v, List.mem_of_getElem? h7, hb⟩))
    case h_4 => trivial
    case h_5 => exact hx.elim
  | .ptr k o, x, v, hx, hr => by
    unfold vw at hx
    split at hx
    case h_1 j i' =>
      obtain ⟨h2, h3, rfl⟩ := hx
      refine ⟨Nat.le_of_ble_eq_true h2, fun r' hr' => ?_⟩
      obtain ⟨_, s, hs, hrv⟩ := rowsVw_at hv hr'
      rw [h3] at hs
      obtain rfl := Option.some.inj hs
      obtain ⟨r, h4, h5⟩ := rowVw_kind hrv
      have := hr.2 r h4
      simpa only [ηV, h3] using this
    case h_2 => trivial
    case h_3 => exact hx.elim
  | .subp k i o, x, v, hx, hr => by
    unfold vw at hx
    split at hx
    case h_1 j i' o' =>
      obtain ⟨h2, h3, rfl, rfl⟩ := hx
      refine ⟨Nat.le_of_ble_eq_true h2, fun r' hr' => ?_⟩
      obtain ⟨_, s, hs, hrv⟩ := rowsVw_at hv hr'
      rw [h3] at hs
      obtain rfl := Option.some.inj hs
      obtain ⟨r, h4, h5⟩ := rowVw_kind hrv
      have := hr.2 r h4
      simpa only [ηV, h3, ← h5] using this
    case h_2 => trivial
    case h_3 => exact hx.elim
theorem vws_sound (hh : HRep w B ob hp nx η) (hfree : ∀ b, ownB hp η b → ¬ ob b) (hv : rowsVw hp R nx' hp') : ∀ (l l' : List AVal) {vs : List Value}, vws hp R nx' l l' → VReps w (badOf ob hp η) hp nx η l vs → VReps w (badOf ob hp' (ηV hp η R)) hp' nx' (ηV hp η R) l' vs
  | [], l', [], hx, _ => by cases l' with | nil => trivial | cons => exact hx.elim
  | y :: l, l', v :: vs, hx, h => by
    cases l' with
    | nil => exact hx.elim
    | cons x r => exact ⟨vw_sound hh hfree hv y x hx.1 h.1, vws_sound hh hfree hv l r hx.2 h.2⟩
  | [], _, _ :: _, _, h => h.elim
  | _ :: _, _, [], _, h => h.elim
end
end

section
variable {P : Program} {Γ : Tys} {w0 : Base} {w w' : World} {ob : Nat → Prop} {st st' : St} {a : Act} {η : Env} {R : List (Nat × Org)}

theorem owns_nil (w : World) (B e : Nat) : w.ownsRow B e 1 (.slice none 0 0) 0 [] := ⟨rfl, .inl ⟨rfl, rfl⟩⟩

theorem View.heap {B nx nx' : Nat} {hp hp' : List (Nat × ARow)} (hh : HRep w B ob hp nx η) (hfree : ∀ b, ownB hp η b → ¬ ob b) (hd : distinct R = true) (hv : rowsVw hp R nx' hp') : HRep w B ob hp' nx' (ηV hp η R) := by
  refine ⟨fun j r' hj => ?_, fun j r' hj => ?_, fun j r j' r' hj hj' hne b hb hm => ?_, fun j r' hj => (rowsVw_at hv hj).1⟩
  · obtain ⟨_, s, hs, hrv⟩ := rowsVw_at hv hj
    cases s with
    | nil =>
      unfold rowVw at hrv
      simp only at hrv
      split at hrv
      case h_1 => exact ⟨by simp only [ηV, hs, OwnInts]; exact owns_nil _ _ _, by simp only [ηV, hs]; rfl⟩
      case h_2 e e1 u =>
        cases u with
        | true => exact ⟨by simp only [ηV, hs]; exact owns_nil _ _ _, by simp only [ηV, hs]; trivial⟩
        | false => exact ⟨by simp only [ηV, hs]; exact owns_nil _ _ _, by simp only [ηV, hs]; trivial⟩
      case h_3 e s => exact ⟨by simp only [ηV, hs]; exact ⟨by simp, .inl ⟨rfl, rfl⟩⟩, [], by simp only [ηV, hs]; rfl, trivial⟩
      case h_4 => exact hrv.elim
    | row k =>
      unfold rowVw at hrv
      simp only at hrv
      split at hrv
      case h_3 => exact hrv.elim
      case h_1 e l hlk =>
        split at hrv
        case h_2 => exact hrv.elim
        case h_1 e' l' =>
          obtain ⟨rfl, hx⟩ := hrv
          obtain ⟨b, h1, h2, h3, h4⟩ := hh.row k _ hlk
          exact ⟨b, by simp only [ηV, hs]; exact h1, h2, by simp only [ηV, hs]; exact h3, by
            have := vws_sound hh hfree hv l l' hx h4
            simpa only [ηV, hs] using this⟩
      case h_2 r _ hlk =>
        subst hrv
        have hrow := hh.row k r hlk
        match r with
        | .ints e kd l => simpa only [RowRep, OwnInts, ηV, hs] using hrow
        | .rows e e1 true m => simpa only [RowRep, ηV, hs] using hrow
        | .rows e e1 false m =>
          refine ⟨by simpa only [ηV, hs] using hrow.1, ?_⟩
          have := F2.imp (fun _ _ _ h => SInts.keeps (vw_keeps hh hv) h) hrow.2
          simpa only [ηV, hs] using this
        | .cells e l =>
          rename_i hnc
          exact (hnc e l rfl).elim
        | .recs e s L =>
          obtain ⟨g1, css, g2, g3⟩ := hrow
          refine ⟨by simpa only [ηV, hs] using g1, css, by simpa only [ηV, hs] using g2, ?_⟩
          exact F2.imp (fun _ _ _ h => h.keeps (vw_keeps hh hv)) g3
    | sub k i =>
      unfold rowVw at hrv
      simp only at hrv
      split at hrv
      case h_2 => exact hrv.elim
      case h_1 e e1 m hlk =>
        obtain ⟨hi, rfl⟩ := hrv
        have hrow := hh.row k _ hlk
        obtain ⟨v, hvi, ho⟩ := F2.at hrow.2 (List.getElem?_eq_getElem hi)
        have e1 : m.getD i [] = m[i] := getD_of (List.getElem?_eq_getElem hi)
        refine ⟨?_, by simp only [ηV, hs, hlk]⟩
        simp only [ηV, hs, OwnInts]
        rw [getD_of hvi, e1]
        exact ho
  · obtain ⟨_, s, hs, hrv⟩ := rowsVw_at hv hj
    exact (vw_blocks hh hs hrv).2
  · obtain ⟨_, s, hs, hrv⟩ := rowsVw_at hv hj
    obtain ⟨_, s', hs', hrv'⟩ := rowsVw_at hv hj'
    obtain ⟨k, r0, h1, h2, h3⟩ := (vw_blocks hh hs hrv).1 b hb
    obtain ⟨k', r0', h1', h2', h3'⟩ := (vw_blocks hh hs' hrv').1 b hm
    refine hh.apart k r0 k' r0' h2 h2' (fun e => ?_) b h3 h3'
    subst e
    exact distinct_spec hd hs hs' hne h1 h1'

theorem View.rep (hs : View R st st') (h : SRep w0 ob st a w η) : SRep w0 ob st' a w (ηV st.hp η R) := by
  refine ⟨h.defers, h.size.trans hs.sz, h.below, h.base, h.frame, fun b hb => ?_, View.heap h.heap (fun b hb => h.free hb) hs.di hs.hp, fun i x hi => ?_⟩
  · obtain ⟨_, _, k, r, _, _, h4, h5⟩ := vw_own h.heap hs.hp hb
    exact h.src b ⟨k, r, h4, h5⟩
  · obtain ⟨y, h1, h2⟩ := slotsVw_at hs.sl hi
    exact vw_sound h.heap (fun b hb => h.free hb) hs.hp y x h2 (h.slot i y h1)

theorem acode_view {b : Code} {K : Exit → St → Prop} (hs : View R st st') (h : ALoop P b st' K) : ALoop P b st K :=
  ⟨fun w0 ob a w ⟨_, hr⟩ => h.run w0 ob a w ⟨_, hs.rep hr⟩⟩

/-- .. of which all orders come to one state -/
theorem ADraw.mid {ops : Array Oper} {K : St → Prop} (mid : St) (h : ADraw P ops st (fun st1 => ∃ R, View R st1 mid)) (hk : K mid) : ADraw P ops st K :=
  ⟨fun id w0 ob a w hr => wp_mono (h.run id w0 ob a w hr) (fun _ _ _ ⟨he, _, ⟨_, hv⟩, ⟨_, hs⟩⟩ => ⟨he, mid, hk, _, hv.rep hs⟩)⟩

def orId (o : Option (List (Nat × Org))) (h : List (Nat × ARow)) : List (Nat × Org) :=
  match o with
  | some R => R
  | none => idR h

/-- the view by which the second state is to be had ('none': every row by its own name) -/
abbrev Seen (o : Option (List (Nat × Org))) (st st' : St) : Prop := View (orId o st'.hp) st st'

/-- THE LOOP: states told by an index with a fact on it, and a number that every round lowers -/
theorem aloopI {ι : Type} (hΓ : TysOk P Γ) (hm : P.follows .mixedOrders = true) (inv : ι → St) (I : ι → Prop) (μ : ι → Nat) {b : Code} {K : Exit → St → Prop} (i0 : ι) (hI : I i0) (o0 : Option (List (Nat × Org))) (h0 : Seen o0 st (inv i0))
    (round : ∀ i, I i → acode P Γ b (inv i) fun e st' => match e with | .normal => ∃ j o, Seen o st' (inv j) ∧ I j ∧ μ j < μ i | e => K e st') : ALoop P b st K := by
  refine ⟨fun w0 ob a w ⟨η, h⟩ => ?_⟩
  intro fb k cs
  have key : ∀ (n : Nat) (i : ι), I i → μ i = n → ∀ a w, StRep w0 ob (inv i) a w →
      ∃ e a' w', lift w0 ob K e a' w' ∧ Arrives P (lone (fb.at a (.code b :: .inLoop b :: k)) cs w) fb k cs e a' w' := by
    intro n
    induction n using Nat.strongRecOn with
    | _ n ih =>
      intro i hIi hi a w hr
      obtain ⟨e, a', w', ⟨st', hk', η', hs'⟩, harr⟩ := acode_sound (w0 := w0) (ob := ob) hΓ hm b (inv i) _ a w (round i hIi) hr fb (.inLoop b :: k) cs
      cases e with
      | normal =>
        obtain ⟨j, o, hsub, hIj, hlt⟩ := hk'
        obtain ⟨e2, a2, w2, hq2, harr2⟩ := ih (μ j) (hi ▸ hlt) j hIj rfl a' w' ⟨_, View.rep hsub hs'⟩
        exact ⟨e2, a2, w2, hq2, .of_steps (Steps.trans harr (.one step_inLoop)) harr2⟩
      | exit id => exact ⟨_, a', w', ⟨st', hk', η', hs'⟩, .pass (x := .inLoop b) rfl (fun _ _ => .inl (by simp)) harr⟩
      | goto l => exact ⟨_, a', w', ⟨st', hk', η', hs'⟩, .pass (x := .inLoop b) rfl (fun _ _ => .inl (by simp)) harr⟩
      | ret => exact ⟨_, a', w', ⟨st', hk', η', hs'⟩, .pass (x := .inLoop b) rfl (fun _ _ => .inl (by simp)) harr⟩
      | panic ch => exact ⟨_, a', w', ⟨st', hk', η', hs'⟩, .pass (x := .inLoop b) rfl (fun _ _ => .inl (by simp)) harr⟩
      | outgrown => exact ⟨_, a', w', ⟨st', hk', η', hs'⟩, .pass (x := .inLoop b) rfl (fun _ _ => .inl (by simp)) harr⟩
  obtain ⟨e, a', w', hq, harr⟩ := key (μ i0) i0 hI rfl a w ⟨_, View.rep h0 h⟩
  exact ⟨e, a', w', hq, .of_steps (.one step_loop) harr⟩
end
end Go.Aw
