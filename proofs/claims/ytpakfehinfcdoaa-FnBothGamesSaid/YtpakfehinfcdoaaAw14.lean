/- Calls: what a callee is handed, and what comes back. -/
import Derived.Test.YtpakfehinfcdoaaAw13
namespace Go.Aw
open Go.RowKit

section
variable {P : Program} {Γ : Tys} {w0 : Base} {w w' : World} {ob : Nat → Prop} {st : St} {a : Act} {η : Env} {B : Nat} {hp : List (Nat × ARow)} {nx : Nat}

theorem own_ints {e : Nat} {k : IntKind} {l : List Int} {v : Value} (h : OwnInts w B e k l v) : SInts w (fun _ => False) k l v := by
  rcases h.2 with ⟨hv, h0⟩ | ⟨g, cap, cur, hv, hg, hh, hnc, hcm, r⟩
  · have : l = [] := List.eq_nil_of_length_eq_zero h0
    subst this
    exact ⟨none, 0, by simpa using hv, by simp, by unfold maxLen; omega, fun i x hi => by simp at hi⟩
  · refine ⟨some ⟨g, 0, none⟩, cap, hv, hnc, hcm, fun i x hi => ⟨g, 0, rfl, fun h => h, ?_⟩⟩
    rw [Nat.zero_add]
    exact own_ptr h (by rw [hv]; rfl) (by rw [List.getElem?_map, hi]; rfl)

theorem own_rows {e : Nat} {m : List (List Int)} {cs : List Value} {v : Value} (h : w.ownsRow B e 1 v m.length cs) (hF : F2 (SInts w (fun _ => False) .i64) m cs) : SRows w (fun _ => False) m v := by
  rcases h.2 with ⟨hv, h0⟩ | ⟨g, cap, cur, hv, hg, hh, hnc, hcm, r⟩
  · have : m = [] := List.eq_nil_of_length_eq_zero h0
    subst this
    exact ⟨none, 0, by simpa using hv, by simp, by unfold maxLen; omega, fun i x hi => by simp at hi⟩
  · refine ⟨some ⟨g, 0, none⟩, cap, hv, hnc, hcm, fun i x hi => ?_⟩
    obtain ⟨u, hu, hs⟩ := F2.at hF hi
    refine ⟨g, 0, u, rfl, fun h => h, ?_, hs⟩
    rw [Nat.zero_add]
    exact own_ptr h (by rw [hv]; rfl) hu

theorem Keeps.none (w : World) (bad : Nat → Prop) : Keeps w bad w (fun _ => False) := fun _ _ _ _ h => ⟨fun h => h, h⟩

theorem own_recs {e s : Nat} {L : List (List Int × List (List Int))} {css : List (List Value)} {v : Value} {bad : Nat → Prop} {cs : List Value} (hcs : cs = css.flatten) (h : w.ownsRow B e (s + 1) v L.length cs) (hF : F2 (SRec w bad s) L css) (hb : ∀ b, b ∈ blk v → ¬ bad b) : SRecs w bad s L v := by
  subst hcs
  rcases h.2 with ⟨hv, h0⟩ | ⟨g, cap, cur, hv, hg, hh, hnc, hcm, r⟩
  · have : L = [] := List.eq_nil_of_length_eq_zero h0
    subst this
    exact ⟨none, 0, by simpa using hv, by simp, by unfold maxLen; omega, fun i x hi => by simp at hi⟩
  · refine ⟨some ⟨g, 0, none⟩, cap, hv, hnc, hcm, fun i x hi => ?_⟩
    obtain ⟨cs, hcs, hs⟩ := F2.at hF hi
    refine ⟨g, 0, cs, rfl, hb g (by rw [hv]; simp [blk]), hs, fun j u hj => ?_⟩
    rw [Nat.zero_add]
    refine own_ptr h (by rw [hv]; rfl) ?_
    have key : ∀ {L : List (List Int × List (List Int))} {css : List (List Value)} {i j : Nat} {cs : List Value} {u : Value}, F2 (SRec w bad s) L css → css[i]? = some cs → cs[j]? = some u → css.flatten[i * (s + 1) + j]? = some u := by
      intro L
      induction L with
      | nil => intro css i j cs u hf hi _; cases css with | nil => simp at hi | cons _ _ => exact hf.elim
      | cons r L ih =>
        intro css i j cs u hf hi hj
        cases css with
        | nil => exact hf.elim
        | cons c0 css =>
          have hl0 : c0.length = s + 1 := by
            obtain ⟨h1, v, h2, _⟩ := hf.1
            rw [h2]; simp; omega
          rw [List.flatten_cons]
          match i with
          | 0 =>
            simp only [List.getElem?_cons_zero, Option.some.injEq] at hi
            subst hi
            have hlt := (List.getElem?_eq_some_iff.1 hj).1
            rw [Nat.zero_mul, Nat.zero_add, List.getElem?_append_left hlt]
            exact hj
          | i + 1 =>
            simp only [List.getElem?_cons_succ] at hi
            have := ih hf.2 hi hj
            rw [List.getElem?_append_right (by rw [hl0, Nat.add_mul]; omega), hl0]
            rw [show (i + 1) * (s + 1) + j - (s + 1) = i * (s + 1) + j by rw [Nat.add_mul, Nat.one_mul]; omega]
            exact this
    exact key hF hcs hj

theorem closeRow_sound (hh : HRep w B ob hp nx η) {k : Nat} {r : ARow} (hr : look hp k = some r) {t : T} (hc : closeRow r = some t) : TRep w (fun _ => False) t (η.val k) := by
  have hrow := hh.row k r hr
  match r with
  | .ints e kd l => simp only [closeRow, Option.some.injEq] at hc; subst hc; exact own_ints hrow.1
  | .rows e e1 true m => simp only [closeRow, Option.some.injEq] at hc; subst hc; exact own_rows hrow.1 (F2.imp (fun _ _ _ h => own_ints h) hrow.2)
  | .rows e e1 false m => simp only [closeRow, Option.some.injEq] at hc; subst hc; exact own_rows hrow.1 (F2.imp (fun _ _ _ h => h.keeps (Keeps.none w _)) hrow.2)
  | .cells e l => simp [closeRow] at hc
  | .recs e s L =>
    simp only [closeRow, Option.some.injEq] at hc; subst hc
    obtain ⟨h1, css, h2, h3⟩ := hrow
    exact own_recs h2 h1 (F2.imp (fun _ _ _ h => h.keeps (Keeps.none w _)) h3) (fun _ _ h => h)

mutual
theorem clo1_sound (hh : HRep w B ob hp nx η) {g : Nat → Nat → Option AVal} (hg : ∀ k off x v, g k off = some x → VRep w (badOf ob hp η) hp nx η (.ptr k off) v → VRep w (fun _ => False) [] 0 η0 x v) :
    ∀ (x : AVal) {x' : AVal} {v : Value}, clo1 g hp x = some x' → VRep w (badOf ob hp η) hp nx η x v → VRep w (fun _ => False) [] 0 η0 x' v
  | .c y, x', v, h, hv => by simp only [clo1, Option.some.injEq] at h; subst h; exact hv
  | .t t, x', v, h, hv => by simp only [clo1, Option.some.injEq] at h; subst h; exact TRep.keeps (Keeps.none w _) hv
  | .own k, x', v, h, hv => by
    simp only [clo1] at h
    cases hr : look hp k with
    | none => rw [hr] at h; cases h
    | some r =>
      rw [hr] at h
      simp only at h
      cases hc : closeRow r with
      | none => rw [hc] at h; cases h
      | some t =>
        rw [hc] at h
        simp only [Option.some.injEq] at h
        subst h
        rw [(hv.2 r hr).2]
        exact closeRow_sound hh hr hc
  | .sub k i, x', v, h, hv => by
    simp only [clo1] at h
    split at h
    case h_2 => cases h
    case h_1 e e1 m hr =>
      simp only [Option.some.injEq] at h
      subst h
      obtain ⟨_, hcel⟩ := hv.2 _ hr
      have hrow := hh.row k _ hr
      obtain ⟨l, hl, ho⟩ := F2.at' hrow.2 hcel
      rw [getD_of hl]
      exact own_ints ho
  | .ptr k off, x', v, h, hv => hg k off x' v (by simpa [clo1] using h) hv
  | .ag l, x', v, h, hv => by
    simp only [clo1] at h
    cases hc : clos g hp l with
    | none => rw [hc] at h; cases h
    | some l' =>
      rw [hc] at h
      simp only [Option.some.injEq] at h
      subst h
      obtain ⟨cs, rfl, hr⟩ := hv
      exact ⟨cs, rfl, clos_sound hh hg l hc hr⟩
  | .rp l off, x', v, h, hv => by
    simp only [clo1] at h
    cases hc : clos g hp l with
    | none => rw [hc] at h; cases h
    | some l' =>
      rw [hc] at h
      simp only [Option.some.injEq] at h
      subst h
      obtain ⟨b, cs, rfl, hr, hcell⟩ := hv
      exact ⟨b, cs, rfl, clos_sound hh hg l hc hr, fun i u hu => ⟨fun h => h, (hcell i u hu).2⟩⟩
  | .clo f l, x', v, h, hv => by
    simp only [clo1] at h
    cases hc : clos g hp l with
    | none => rw [hc] at h; cases h
    | some l' =>
      rw [hc] at h
      simp only [Option.some.injEq] at h
      subst h
      obtain ⟨cs, rfl, hr⟩ := hv
      exact ⟨cs, rfl, clos_sound hh hg l hc hr⟩
  | .knot f l n, x', v, h, hv => by
    simp only [clo1] at h
    cases hc : clos g hp l with
    | none => rw [hc] at h; cases h
    | some l' =>
      rw [hc] at h
      simp only [Option.some.injEq] at h
      subst h
      obtain ⟨b, cs, rfl, hr, _, hcell⟩ := hv
      exact ⟨b, cs, rfl, clos_sound hh hg l hc hr, fun h => h, hcell⟩
  | .nul, x', v, h, hv => by
    simp only [clo1, Option.some.injEq] at h
    subst h
    obtain ⟨ba, rfl⟩ := hv
    exact ⟨ba, 0, rfl, Nat.le_refl _, Nat.zero_le _, fun i x hi => by simp at hi⟩
  | .un, _, _, h, _ => by simp [clo1] at h
  | .tu _, _, _, h, _ => by simp [clo1] at h
  | .subp _ _ _, _, _, h, _ => by simp [clo1] at h
  | .adr _ _, _, _, h, _ => by simp [clo1] at h
theorem clos_sound (hh : HRep w B ob hp nx η) {g : Nat → Nat → Option AVal} (hg : ∀ k off x v, g k off = some x → VRep w (badOf ob hp η) hp nx η (.ptr k off) v → VRep w (fun _ => False) [] 0 η0 x v) :
    ∀ (l : List AVal) {l' : List AVal} {vs : List Value}, clos g hp l = some l' → VReps w (badOf ob hp η) hp nx η l vs → VReps w (fun _ => False) [] 0 η0 l' vs
  | [], l', [], h, _ => by simp only [clos, Option.some.injEq] at h; subst h; trivial
  | x :: l, l', v :: vs, h, hv => by
    simp only [clos] at h
    cases hc : clo1 g hp x with
    | none => rw [hc] at h; cases h
    | some x' =>
      rw [hc] at h
      simp only at h
      cases hl : clos g hp l with
      | none => rw [hl] at h; cases h
      | some l1 =>
        rw [hl] at h
        simp only [Option.some.injEq] at h
        subst h
        exact ⟨clo1_sound hh hg x hc hv.1, clos_sound hh hg l hl hv.2⟩
  | [], _, _ :: _, _, hv => hv.elim
  | _ :: _, _, [], _, hv => hv.elim
end

theorem selfAt_spec {k : Nat} : ∀ {l : List AVal} {n : Nat}, selfAt k l = some n → nth l n = some (.ptr k 0)
  | [], n, h => by simp [selfAt] at h
  | x :: r, n, h => by
    have rest : (match selfAt k r with | some n => some (n + 1) | none => none) = some n → nth (x :: r) n = some (.ptr k 0) := fun h => by
      split at h
      case h_1 m hm =>
        simp only [Option.some.injEq] at h
        subst h
        show nth r m = _
        exact selfAt_spec hm
      case h_2 => cases h
    unfold selfAt at h
    split at h
    case h_1 heq => cases heq
    case h_2 j r' heq =>
      simp only [List.cons.injEq] at heq
      obtain ⟨rfl, rfl⟩ := heq
      split at h
      case h_1 hb =>
        simp only [Option.some.injEq] at h
        subst h
        rw [Nat.eq_of_beq_eq_true hb]; rfl
      case h_2 => exact rest h
    case h_3 heq =>
      simp only [List.cons.injEq] at heq
      obtain ⟨rfl, rfl⟩ := heq
      exact rest h

theorem selfClo_spec {k off : Nat} {l : List AVal} {f : FuncId} {caps : List AVal} {n : Nat} (h : selfClo k off l = some (f, caps, n)) : l = [.clo f caps] ∧ off = 0 ∧ selfAt k caps = some n := by
  unfold selfClo at h
  split at h
  case h_2 => cases h
  case h_1 =>
    split at h
    case h_2 => cases h
    case h_1 =>
      split at h
      case h_2 => cases h
      case h_1 hs =>
        simp only [Option.some.injEq, Prod.mk.injEq] at h
        obtain ⟨rfl, rfl, rfl⟩ := h
        exact ⟨rfl, rfl, hs⟩

theorem clo0_sound (hh : HRep w B ob hp nx η) : ∀ (n k off : Nat) (x : AVal) (v : Value), clo0 hp n k off = some x → VRep w (badOf ob hp η) hp nx η (.ptr k off) v → VRep w (fun _ => False) [] 0 η0 x v
  | 0, _, _, _, _, h, _ => by simp [clo0] at h
  | n + 1, k, off, x, v, h, hv => by
    simp only [clo0, cloP] at h
    split at h
    case h_2 => cases h
    case h_1 e l hr =>
      split at h
      case h_2 =>
        split at h
        case h_2 => cases h
        case h_1 l' hl =>
          simp only [Option.some.injEq] at h
          subst h
          obtain ⟨_, b, hb, rfl⟩ := hv.2 _ hr
          have hrow := hh.row k _ hr
          have hrow' := hrow
          obtain ⟨b', h1, h2, h3, h4⟩ := hrow
          exact ⟨b, η.cel k, rfl, clos_sound hh (fun k off x v => clo0_sound hh n k off x v) l hl h4, fun i u hu => ⟨fun h => h, row_cell hrow' hb hu⟩⟩
      case h_1 f caps m hsc =>
        split at h
        case h_2 => cases h
        case h_1 l' hl =>
          simp only [Option.some.injEq] at h
          subst h
          obtain ⟨rfl, rfl, hself⟩ := selfClo_spec hsc
          obtain ⟨_, b, hb, rfl⟩ := hv.2 _ hr
          have hrow := hh.row k _ hr
          have hrow' := hrow
          obtain ⟨b', h1, h2, h3, h4⟩ := hrow
          match hcel : η.cel k, h4 with
          | [u], h4 =>
            obtain ⟨⟨cs, rfl, hcs⟩, _⟩ := h4
            obtain ⟨v', hv', hp'⟩ := hcs.nth (selfAt_spec hself)
            have hbb : v' = .pointer (some ⟨b, 0, none⟩) := by
              obtain ⟨_, b2, hb2, rfl⟩ := hp'.2 _ hr
              rw [hb] at hb2
              simp only [List.cons.injEq, and_true] at hb2
              rw [hb2]
            have hlen := VReps.length hcs
            have hm : m < cs.length := (List.getElem?_eq_some_iff.1 hv').1
            have hsplit : cs.take m ++ v' :: cs.drop (m + 1) = cs := by
              have : cs[m] = v' := (List.getElem?_eq_some_iff.1 hv').2
              rw [← this, ← List.drop_eq_getElem_cons hm, List.take_append_drop]
            have htl : (cs.take m).length = m := by rw [List.length_take]; omega
            refine ⟨b, cs.take m ++ cs.drop (m + 1), rfl, clos_sound hh (fun k off x v => clo0_sound hh n k off x v) _ hl ((hcs.take m).append (hcs.drop (m + 1))), fun h => h, ?_⟩
            have hcell := row_cell hrow' hb (i := 0) (u := .func (.func f) #[] cs.toArray) (by rw [hcel]; rfl)
            rw [hcell]
            have e1 : (cs.take m ++ cs.drop (m + 1)).take m = cs.take m := by
              rw [List.take_append_of_le_length (by omega), List.take_take, Nat.min_self]
            have e2 : (cs.take m ++ cs.drop (m + 1)).drop m = cs.drop (m + 1) := by
              have := List.drop_left (l₁ := cs.take m) (l₂ := cs.drop (m + 1))
              rw [htl] at this; exact this
            rw [e1, e2, ← hbb, hsplit]
          | [], h4 => exact h4.elim
          | _ :: _ :: _, h4 => exact h4.2.elim

theorem closeArgs_sound (hh : HRep w B ob hp nx η) {l l' : List AVal} {vs : List Value} (h : closeArgs hp l = some l') (hv : VReps w (badOf ob hp η) hp nx η l vs) : VReps w (fun _ => False) [] 0 η0 l' vs :=
  clos_sound hh (fun k off x v => clo0_sound hh 3 k off x v) l h hv

mutual
theorem clo1_plain {bad : Nat → Prop} {g : Nat → Nat → Option AVal} : ∀ (x : AVal) {x' : AVal} {v : Value}, hasOwn x = false → clo1 g hp x = some x' → VRep w bad hp nx η x v → VRep w bad [] 0 η0 x' v
  | .c y, x', v, _, h, hv => by simp only [clo1, Option.some.injEq] at h; subst h; exact hv
  | .t t, x', v, _, h, hv => by simp only [clo1, Option.some.injEq] at h; subst h; exact hv
  | .ag l, x', v, ho, h, hv => by
    simp only [clo1] at h
    cases hc : clos g hp l with
    | none => rw [hc] at h; cases h
    | some l' =>
      rw [hc] at h
      simp only [Option.some.injEq] at h
      subst h
      obtain ⟨cs, rfl, hr⟩ := hv
      exact ⟨cs, rfl, clos_plain l (by simpa [hasOwn] using ho) hc hr⟩
  | .rp l off, x', v, ho, h, hv => by
    simp only [clo1] at h
    cases hc : clos g hp l with
    | none => rw [hc] at h; cases h
    | some l' =>
      rw [hc] at h
      simp only [Option.some.injEq] at h
      subst h
      obtain ⟨b, cs, rfl, hr, hcell⟩ := hv
      exact ⟨b, cs, rfl, clos_plain l (by simpa [hasOwn] using ho) hc hr, hcell⟩
  | .clo f l, x', v, ho, h, hv => by
    simp only [clo1] at h
    cases hc : clos g hp l with
    | none => rw [hc] at h; cases h
    | some l' =>
      rw [hc] at h
      simp only [Option.some.injEq] at h
      subst h
      obtain ⟨cs, rfl, hr⟩ := hv
      exact ⟨cs, rfl, clos_plain l (by simpa [hasOwn] using ho) hc hr⟩
  | .knot f l n, x', v, ho, h, hv => by
    simp only [clo1] at h
    cases hc : clos g hp l with
    | none => rw [hc] at h; cases h
    | some l' =>
      rw [hc] at h
      simp only [Option.some.injEq] at h
      subst h
      obtain ⟨b, cs, rfl, hr, hb, hcell⟩ := hv
      exact ⟨b, cs, rfl, clos_plain l (by simpa [hasOwn] using ho) hc hr, hb, hcell⟩
  | .nul, x', v, _, h, hv => by
    simp only [clo1, Option.some.injEq] at h
    subst h
    obtain ⟨ba, rfl⟩ := hv
    exact ⟨ba, 0, rfl, Nat.le_refl _, Nat.zero_le _, fun i x hi => by simp at hi⟩
  | .own _, _, _, ho, _, _ => by simp [hasOwn] at ho
  | .sub _ _, _, _, ho, _, _ => by simp [hasOwn] at ho
  | .ptr _ _, _, _, ho, _, _ => by simp [hasOwn] at ho
  | .subp _ _ _, _, _, ho, _, _ => by simp [hasOwn] at ho
  | .un, _, _, ho, _, _ => by simp [hasOwn] at ho
  | .tu _, _, _, _, h, _ => by simp [clo1] at h
  | .adr _ _, _, _, _, h, _ => by simp [clo1] at h
theorem clos_plain {bad : Nat → Prop} {g : Nat → Nat → Option AVal} : ∀ (l : List AVal) {l' : List AVal} {vs : List Value}, hasOwns l = false → clos g hp l = some l' → VReps w bad hp nx η l vs → VReps w bad [] 0 η0 l' vs
  | [], l', [], _, h, _ => by simp only [clos, Option.some.injEq] at h; subst h; trivial
  | x :: l, l', v :: vs, ho, h, hv => by
    simp only [hasOwns, Bool.or_eq_false_iff] at ho
    simp only [clos] at h
    cases hc : clo1 g hp x with
    | none => rw [hc] at h; cases h
    | some x' =>
      rw [hc] at h
      simp only at h
      cases hl : clos g hp l with
      | none => rw [hl] at h; cases h
      | some l1 =>
        rw [hl] at h
        simp only [Option.some.injEq] at h
        subst h
        exact ⟨clo1_plain x ho.1 hc hv.1, clos_plain l ho.2 hl hv.2⟩
  | [], _, _ :: _, _, _, hv => hv.elim
  | _ :: _, _, [], _, _, hv => hv.elim
end

/-! ### results -/
mutual
theorem noSh_bad {bad bad' : Nat → Prop} : ∀ (x : AVal) {v : Value}, noSh x = true → VRep w bad hp nx η x v → VRep w bad' hp nx η x v
  | .c _, _, _, h => h
  | .own _, _, _, h => h
  | .ag l, _, hn, ⟨cs, hv, h⟩ => ⟨cs, hv, noShs_bad l (by simpa [noSh] using hn) h⟩
  | .tu l, _, hn, ⟨cs, hv, h⟩ => ⟨cs, hv, noShs_bad l (by simpa [noSh] using hn) h⟩
  | .un, _, hn, _ => by simp [noSh] at hn
  | .t _, _, hn, _ => by simp [noSh] at hn
  | .sub _ _, _, hn, _ => by simp [noSh] at hn
  | .ptr _ _, _, hn, _ => by simp [noSh] at hn
  | .subp _ _ _, _, hn, _ => by simp [noSh] at hn
  | .adr _ _, _, hn, _ => by simp [noSh] at hn
  | .rp _ _, _, hn, _ => by simp [noSh] at hn
  | .clo _ _, _, hn, _ => by simp [noSh] at hn
  | .knot _ _ _, _, hn, _ => by simp [noSh] at hn
  | .nul, _, _, h => h
theorem noShs_bad {bad bad' : Nat → Prop} : ∀ (l : List AVal) {vs : List Value}, noShs l = true → VReps w bad hp nx η l vs → VReps w bad' hp nx η l vs
  | [], [], _, _ => trivial
  | x :: l, v :: vs, hn, h => by
    simp only [noShs, Bool.and_eq_true] at hn
    exact ⟨noSh_bad x hn.1 h.1, noShs_bad l hn.2 h.2⟩
  | [], _ :: _, _, h => h.elim
  | _ :: _, [], _, h => h.elim
end

theorem rowsOwn_at : ∀ {h : List (Nat × ARow)}, rowsOwn h = true → ∀ k r, look h k = some r → r.kind = 1 ∨ r.kind = 2
  | [], _, k, r, hl => by simp [look] at hl
  | (j, .ints ..) :: h, ho, k, r, hl => by
    rw [look_cons] at hl
    split at hl
    · simp only [Option.some.injEq] at hl; subst hl; exact .inl rfl
    · exact rowsOwn_at (by simpa [rowsOwn] using ho) k r hl
  | (j, .rows _ _ true _) :: h, ho, k, r, hl => by
    rw [look_cons] at hl
    split at hl
    · simp only [Option.some.injEq] at hl; subst hl; exact .inr rfl
    · exact rowsOwn_at (by simpa [rowsOwn] using ho) k r hl
  | (j, .rows _ _ false _) :: h, ho, _, _, _ => by simp [rowsOwn] at ho
  | (j, .cells ..) :: h, ho, _, _, _ => by simp [rowsOwn] at ho
  | (j, .recs ..) :: h, ho, _, _, _ => by simp [rowsOwn] at ho

theorem HRep.bad {ob' : Nat → Prop} (h : HRep w B ob hp nx η) (ho : rowsOwn hp = true) : HRep w B ob' hp nx η := by
  refine ⟨fun k r hr => ?_, h.nodup, h.apart, h.lt⟩
  have hrow := h.row k r hr
  match r, rowsOwn_at ho k r hr with
  | .ints .., _ => exact hrow
  | .rows _ _ true _, _ => exact hrow
  | .rows _ _ false _, hk => simp [ARow.kind] at hk
  | .cells .., hk => simp [ARow.kind] at hk
  | .recs .., hk => simp [ARow.kind] at hk

def Env.join (d : Nat) (η ηh : Env) : Env := ⟨fun j => if j < d then η.val j else ηh.val (j - d), fun j => if j < d then η.cel j else ηh.cel (j - d)⟩

theorem look_shift (d : Nat) : ∀ (h : List (Nat × ARow)) (j : Nat), look (shiftH d h) (j + d) = (look h j).map (ARow.shift d)
  | [], _ => rfl
  | (i, r) :: h, j => by
    simp only [shiftH]
    rw [look_cons, look_cons]
    by_cases hij : i = j
    · simp [hij]
    · rw [if_neg hij, if_neg (by omega)]
      exact look_shift d h j

theorem look_shift_lt (d : Nat) : ∀ (h : List (Nat × ARow)) (j : Nat), j < d → look (shiftH d h) j = none
  | [], _, _ => rfl
  | (i, r) :: h, j, hj => by
    simp only [shiftH]
    rw [look_cons, if_neg (by omega)]
    exact look_shift_lt d h j hj

theorem look_append {α : Type} : ∀ (l r : List (Nat × α)) (j : Nat), look (l ++ r) j = match look l j with | some x => some x | none => look r j
  | [], _, _ => rfl
  | (i, x) :: l, r, j => by
    rw [List.cons_append, look_cons, look_cons]
    by_cases h : i = j
    · simp [h]
    · rw [if_neg h, if_neg h]; exact look_append l r j

theorem kind_shift (d : Nat) (r : ARow) : (r.shift d).kind = r.kind := by cases r <;> rfl

mutual
theorem VRep.shift {bad bad' : Nat → Prop} {h hp' : List (Nat × ARow)} {n nx' d : Nat} {ηh η' : Env} (hk : Keeps w bad w bad') (hn : n + d ≤ nx')
    (hl : ∀ j r', look hp' (j + d) = some r' → ∃ r, look h j = some r ∧ r' = r.shift d) (hη : ∀ j, η'.val (j + d) = ηh.val j ∧ η'.cel (j + d) = ηh.cel j) :
    ∀ (x : AVal) {v : Value}, VRep w bad h n ηh x v → VRep w bad' hp' nx' η' (x.shift d) v
  | .un, _, _ => trivial
  | .c _, _, h => h
  | .t _, _, h => TRep.keeps hk h
  | .adr _ _, _, h => ARep.keeps hk h
  | .ag l, _, ⟨cs, hv, h⟩ => ⟨cs, hv, VReps.shift hk hn hl hη l h⟩
  | .tu l, _, ⟨cs, hv, h⟩ => ⟨cs, hv, VReps.shift hk hn hl hη l h⟩
  | .clo _ l, _, ⟨cs, hv, h⟩ => ⟨cs, hv, VReps.shift hk hn hl hη l h⟩
  | .rp l _, _, ⟨b, cs, hv, h, hc⟩ => ⟨b, cs, hv, VReps.shift hk hn hl hη l h, fun i u hu => by obtain ⟨h1, h2⟩ := hc i u hu; exact hk b i u h1 h2⟩
  | .knot _ l _, _, ⟨b, cs, hv, h, hb, hc⟩ => ⟨b, cs, hv, VReps.shift hk hn hl hη l h, (hk b 0 _ hb hc).1, (hk b 0 _ hb hc).2⟩
  | .nul, _, h => h
  | .own k, v, h => by
    simp only [AVal.shift, VRep] at h ⊢
    refine ⟨by omega, fun r' hr' => ?_⟩
    obtain ⟨r, hr, rfl⟩ := hl k r' hr'
    obtain ⟨h1, h2⟩ := h.2 r hr
    exact ⟨by rw [kind_shift]; exact h1, by rw [(hη k).1]; exact h2⟩
  | .sub k i, v, h => by
    simp only [AVal.shift, VRep] at h ⊢
    refine ⟨by omega, fun r' hr' => ?_⟩
    obtain ⟨r, hr, rfl⟩ := hl k r' hr'
    obtain ⟨h1, h2⟩ := h.2 r hr
    exact ⟨by rw [kind_shift]; exact h1, by rw [(hη k).2]; exact h2⟩
  | .ptr k o, v, h => by
    simp only [AVal.shift, VRep] at h ⊢
    refine ⟨by omega, fun r' hr' => ?_⟩
    obtain ⟨r, hr, rfl⟩ := hl k r' hr'
    obtain ⟨h1, b, h2, h3⟩ := h.2 r hr
    exact ⟨by rw [(hη k).2]; exact h1, b, by rw [(hη k).1]; exact h2, h3⟩
  | .subp k i j, v, h => by
    simp only [AVal.shift, VRep] at h ⊢
    refine ⟨by omega, fun r' hr' => ?_⟩
    obtain ⟨r, hr, rfl⟩ := hl k r' hr'
    obtain ⟨h0, b, n', c, h1, h2, h3⟩ := h.2 r hr
    exact ⟨by rw [kind_shift]; exact h0, b, n', c, by rw [(hη k).2]; exact h1, h2, h3⟩
theorem VReps.shift {bad bad' : Nat → Prop} {h hp' : List (Nat × ARow)} {n nx' d : Nat} {ηh η' : Env} (hk : Keeps w bad w bad') (hn : n + d ≤ nx')
    (hl : ∀ j r', look hp' (j + d) = some r' → ∃ r, look h j = some r ∧ r' = r.shift d) (hη : ∀ j, η'.val (j + d) = ηh.val j ∧ η'.cel (j + d) = ηh.cel j) :
    ∀ (l : List AVal) {vs : List Value}, VReps w bad h n ηh l vs → VReps w bad' hp' nx' η' (shifts d l) vs
  | [], [], _ => trivial
  | x :: l, _ :: _, h => ⟨VRep.shift hk hn hl hη x h.1, VReps.shift hk hn hl hη l h.2⟩
  | [], _ :: _, h => h.elim
  | _ :: _, [], h => h.elim
end

theorem ownsRow_base {B' e n sz : Nat} {v : Value} {xs : List Value} (h : w.ownsRow B' e sz v n xs) (hB : B ≤ B') : w.ownsRow B e sz v n xs := by
  refine ⟨h.1, ?_⟩
  rcases h.2 with h2 | ⟨g, cap, cur, h1, h2, r⟩
  · exact .inl h2
  · exact .inr ⟨g, cap, cur, h1, by omega, r⟩

/-- what came back joins what is there -/
theorem SRep.join (h : SRep w0 ob st a w η) {hr : List (Nat × ARow)} {ηh : Env} (hw : Below w.heap.size w w') (hh : HRep w' w.heap.size (badOf ob st.hp η) hr hr.length ηh) :
    SRep w0 ob (st.add hr) a w' (Env.join st.nx η ηh) ∧
      ∀ x v, VRep w' (fun b => badOf ob st.hp η b ∨ ownB hr ηh b) hr hr.length ηh x v → VR w' ob (st.add hr) (Env.join st.nx η ηh) (x.shift st.nx) v := by
  have hη1 : ∀ j, j < st.nx → (Env.join st.nx η ηh).val j = η.val j ∧ (Env.join st.nx η ηh).cel j = η.cel j := fun j hj => by simp [Env.join, hj]
  have hη2 : ∀ j, (Env.join st.nx η ηh).val (j + st.nx) = ηh.val j ∧ (Env.join st.nx η ηh).cel (j + st.nx) = ηh.cel j := fun j => by
    have : ¬ (j + st.nx < st.nx) := by omega
    simp only [Env.join, this, if_false, Nat.add_sub_cancel]
    exact ⟨trivial, trivial⟩
  have hl1 : ∀ j, j < st.nx → look (st.add hr).hp j = look st.hp j := fun j hj => by
    simp only [St.add]; rw [look_append, look_shift_lt _ _ _ hj]
  have hl2 : ∀ j, look (st.add hr).hp (j + st.nx) = (look hr j).map (ARow.shift st.nx) := fun j => by
    simp only [St.add]; rw [look_append, look_shift]
    cases hj : look hr j with
    | some r => rfl
    | none =>
      simp only [Option.map_none]
      cases hx : look st.hp (j + st.nx) with
      | none => rfl
      | some r => have := h.heap.lt _ r hx; omega
  have hbs1 : ∀ j r, j < st.nx → bsOf (Env.join st.nx η ηh) j r = bsOf η j r := fun j r hj => bsOf_congr (hη1 j hj).1 (hη1 j hj).2 rfl
  have hbs2 : ∀ j r, bsOf (Env.join st.nx η ηh) (j + st.nx) (ARow.shift st.nx r) = bsOf ηh j r := fun j r => by
    simp only [bsOf, (hη2 j).1, (hη2 j).2, kind_shift]
  have hsplit : ∀ j r, look (st.add hr).hp j = some r → (j < st.nx ∧ look st.hp j = some r) ∨ ∃ i r0, j = i + st.nx ∧ look hr i = some r0 ∧ r = r0.shift st.nx := fun j r hj => by
    by_cases hlt : j < st.nx
    · exact .inl ⟨hlt, by rw [hl1 j hlt] at hj; exact hj⟩
    · obtain ⟨i, rfl⟩ : ∃ i, j = i + st.nx := ⟨j - st.nx, by omega⟩
      rw [hl2] at hj
      obtain ⟨r0, h1, h2⟩ := Option.map_eq_some_iff.1 hj
      exact .inr ⟨i, r0, rfl, h1, h2.symm⟩
  have hold : ∀ b, ownB (st.add hr).hp (Env.join st.nx η ηh) b → ownB st.hp η b ∨ (ownB hr ηh b) := fun b ⟨j, r, hj, hb⟩ => by
    rcases hsplit j r hj with ⟨hlt, hj'⟩ | ⟨i, r0, rfl, h1, rfl⟩
    · rw [hbs1 j r hlt] at hb; exact .inl ⟨j, r, hj', hb⟩
    · rw [hbs2] at hb; exact .inr ⟨i, r0, h1, hb⟩
  have hnew : ∀ b, ownB hr ηh b → w.heap.size ≤ b := fun b ⟨j, r, hj, hb⟩ => ((hh.row j r hj).lt b hb).1
  have hkeep : Keeps w (badOf ob st.hp η) w' (badOf ob (st.add hr).hp (Env.join st.nx η ηh)) := by
    intro b o x hb hc
    have hlt := cell_lt hc
    refine ⟨?_, cell_below hw hc⟩
    rintro (h1 | h1)
    · exact hb (.inl h1)
    · rcases hold b h1 with h2 | h2
      · exact hb (.inr h2)
      · have := hnew b h2; omega
  have hkeep2 : Keeps w' (fun b => badOf ob st.hp η b ∨ ownB hr ηh b) w' (badOf ob (st.add hr).hp (Env.join st.nx η ηh)) := by
    intro b o x hb hc
    refine ⟨?_, hc⟩
    rintro (h1 | h1)
    · exact hb (.inl (.inl h1))
    · rcases hold b h1 with h2 | h2
      · exact hb (.inl (.inr h2))
      · exact hb (.inr h2)
  have hok : ∀ j, j < st.nx → OwnOk st.hp η (st.add hr).hp (Env.join st.nx η ηh) j := fun j hj =>
    OwnOk.of (fun r' hr' => ⟨r', by rw [hl1 j hj] at hr'; exact hr', rfl⟩) (hη1 j hj).1 (hη1 j hj).2
  have hsk : ∀ j, j < st.nx → SubOk st.hp η (st.add hr).hp (Env.join st.nx η ηh) j := fun j hj =>
    SubOk.of (fun r' hr' => ⟨r', by rw [hl1 j hj] at hr'; exact hr', rfl⟩) (hη1 j hj).2
  have hBw := wB h
  have hlk : ∀ j r', look (st.add hr).hp (j + st.nx) = some r' → ∃ r, look hr j = some r ∧ r' = r.shift st.nx := fun j r' hj => by
    rw [hl2] at hj
    obtain ⟨r0, h1, h2⟩ := Option.map_eq_some_iff.1 hj
    exact ⟨r0, h1, h2.symm⟩
  have hvr : ∀ x v, VRep w' (fun b => badOf ob st.hp η b ∨ ownB hr ηh b) hr hr.length ηh x v → VR w' ob (st.add hr) (Env.join st.nx η ηh) (x.shift st.nx) v := fun x v hx =>
    VRep.shift (nx' := (st.add hr).nx) hkeep2 (by simp only [St.add]; omega) hlk hη2 x hx
  have hheap : HRep w' w0.B ob (st.add hr).hp (st.add hr).nx (Env.join st.nx η ηh) := by
    refine ⟨fun j r hj => ?_, fun j r hj => ?_, fun j r j' r' hj hj' hne b hb => ?_, fun j r hj => ?_⟩
    · rcases hsplit j r hj with ⟨hlt, hj'⟩ | ⟨i, r0, rfl, h1, rfl⟩
      · have hrow := h.heap.row j r hj'
        have := hrow.flt (f := fun _ => true) (g := fun _ => true) (w' := w') (bad' := badOf ob (st.add hr).hp (Env.join st.nx η ηh)) (hp' := (st.add hr).hp) (nx' := (st.add hr).nx) (η' := Env.join st.nx η ηh)
          hkeep (by simp [St.add]) (fun k hk _ => hok k hk) (fun k hk _ => hsk k hk) (hη1 j hlt).1 (hη1 j hlt).2 (fun b hb => hw.block b (hrow.lt b hb).2)
        rwa [rowflt_true] at this
      · have hrow := hh.row i r0 h1
        match r0 with
        | .ints e kd l =>
          simp only [ARow.shift, RowRep, OwnInts, (hη2 i).1, (hη2 i).2]
          exact ⟨ownsRow_base hrow.1 hBw, hrow.2⟩
        | .rows e e1 true m =>
          simp only [ARow.shift, RowRep, (hη2 i).1, (hη2 i).2]
          exact ⟨ownsRow_base hrow.1 hBw, F2.imp (fun _ _ _ ho => ownsRow_base ho hBw) hrow.2⟩
        | .rows e e1 false m =>
          simp only [ARow.shift, RowRep, (hη2 i).1, (hη2 i).2]
          exact ⟨ownsRow_base hrow.1 hBw, F2.imp (fun _ _ _ ho => ho.keeps hkeep2) hrow.2⟩
        | .cells e l =>
          simp only [ARow.shift, RowRep, (hη2 i).1, (hη2 i).2]
          obtain ⟨b, g1, g2, g3, g4⟩ := hrow
          exact ⟨b, g1, by omega, g3, VReps.shift (nx' := (st.add hr).nx) hkeep2 (by simp only [St.add]; omega) hlk hη2 l g4⟩
        | .recs e s L =>
          simp only [ARow.shift, RowRep, (hη2 i).1, (hη2 i).2]
          obtain ⟨g1, css, g2, g3⟩ := hrow
          exact ⟨ownsRow_base g1 hBw, css, g2, F2.imp (fun _ _ _ ho => ho.keeps hkeep2) g3⟩
    · rcases hsplit j r hj with ⟨hlt, hj'⟩ | ⟨i, r0, rfl, h1, rfl⟩
      · rw [hbs1 j r hlt]; exact h.heap.nodup j r hj'
      · rw [hbs2]; exact hh.nodup i r0 h1
    · rcases hsplit j r hj with ⟨hlt, hj1⟩ | ⟨i, r0, rfl, h1, rfl⟩ <;> rcases hsplit j' r' hj' with ⟨hlt', hj1'⟩ | ⟨i', r0', rfl, h1', rfl⟩
      · rw [hbs1 j r hlt] at hb; rw [hbs1 j' r' hlt']; exact h.heap.apart j r j' r' hj1 hj1' hne b hb
      · rw [hbs1 j r hlt] at hb; rw [hbs2]
        intro hm
        have := ((h.heap.row j r hj1).lt b hb).2
        have := ((hh.row i' r0' h1').lt b hm).1
        omega
      · rw [hbs2] at hb; rw [hbs1 j' r' hlt']
        intro hm
        have := ((h.heap.row j' r' hj1').lt b hm).2
        have := ((hh.row i r0 h1).lt b hb).1
        omega
      · rw [hbs2] at hb; rw [hbs2]; exact hh.apart i r0 i' r0' h1 h1' (fun e => hne (by rw [e])) b hb
    · rcases hsplit j r hj with ⟨hlt, hj'⟩ | ⟨i, r0, rfl, h1, rfl⟩
      · simp only [St.add]; omega
      · have := hh.lt i r0 h1; simp only [St.add]; omega
  refine ⟨⟨h.defers, h.size, h.below.trans (hw.mono h.wB), h.base, fun b hb hm => ?_, fun b ho => ?_, hheap, fun i x hi => ?_⟩, hvr⟩
  · rw [hw.block b (Nat.lt_of_lt_of_le hb h.grow), h.frame b hb hm]
  · rcases hold b ho with h1 | h1
    · exact h.src b h1
    · exact .inr (Nat.le_trans h.grow (hnew b h1))
  exact VRep.frame hkeep (by simp [St.add]) hok hsk (h.slot i x hi)
end
end Go.Aw
