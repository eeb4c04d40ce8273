/- Frames: what an abstract state says stays true while other memory is written. -/
import Derived.Test.YtpakfehinfcdoaaAw2
namespace Go.Aw
open Go.RowKit

theorem look_rem_ne {α : Type} : ∀ (l : List (Nat × α)) (k j : Nat), j ≠ k → look (rem k l) j = look l j
  | [], _, _, _ => rfl
  | (i, x) :: r, k, j, h => by
    simp only [rem]
    cases hb : Nat.beq i k with
    | true =>
      have hik := Nat.eq_of_beq_eq_true hb
      simp only [look]
      have : Nat.beq i j = false := by
        cases hbj : Nat.beq i j with
        | false => rfl
        | true => have := Nat.eq_of_beq_eq_true hbj; omega
      rw [this]
      exact look_rem_ne r k j h
    | false =>
      simp only [look]
      cases Nat.beq i j with
      | true => rfl
      | false => exact look_rem_ne r k j h

theorem look_rem {α : Type} : ∀ (l : List (Nat × α)) (k : Nat), look (rem k l) k = none
  | [], _ => rfl
  | (i, x) :: r, k => by
    simp only [rem]
    cases hb : Nat.beq i k with
    | true => exact look_rem r k
    | false => simp only [look, hb]; exact look_rem r k

theorem beq_self (k : Nat) : Nat.beq k k = true := Nat.beq_refl k

theorem look_cons {α : Type} (i : Nat) (x : α) (r : List (Nat × α)) (k : Nat) : look ((i, x) :: r) k = if i = k then some x else look r k := by
  simp only [look]
  by_cases h : i = k
  · subst h; simp
  · rw [if_neg h]
    have : Nat.beq i k = false := by
      cases hb : Nat.beq i k with
      | false => rfl
      | true => exact absurd (Nat.eq_of_beq_eq_true hb) h
    rw [this]

theorem look_upd {α : Type} (l : List (Nat × α)) (k : Nat) (x : α) (j : Nat) : look ((k, x) :: rem k l) j = if k = j then some x else look l j := by
  rw [look_cons]
  by_cases h : k = j
  · simp [h]
  · rw [if_neg h, if_neg h, look_rem_ne l k j (Ne.symm h)]

theorem look_fltS (f g : Nat → Bool) : ∀ (l : List (Nat × AVal)) (k : Nat), look (fltS f g l) k = (look l k).map (AVal.flt f g)
  | [], _ => rfl
  | (i, x) :: r, k => by
    simp only [fltS, look]
    cases Nat.beq i k with
    | true => rfl
    | false => exact look_fltS f g r k

theorem look_fltH (f g : Nat → Bool) : ∀ (l : List (Nat × ARow)) (k : Nat), look (fltH f g l) k = (look l k).map (ARow.flt f g)
  | [], _ => rfl
  | (i, x) :: r, k => by
    simp only [fltH, look]
    cases Nat.beq i k with
    | true => rfl
    | false => exact look_fltH f g r k

theorem kind_flt (f g : Nat → Bool) (r : ARow) : (r.flt f g).kind = r.kind := by cases r <;> rfl

theorem ne_spec (k j : Nat) : ne k j = true ↔ j ≠ k := by
  unfold ne
  cases h : Nat.beq j k with
  | true => have := Nat.eq_of_beq_eq_true h; simp [this]
  | false => simp; intro e; subst e; rw [Nat.beq_refl] at h; cases h

/-! ### shared values -/
def Keeps (w : World) (bad : Nat → Prop) (w' : World) (bad' : Nat → Prop) : Prop :=
  ∀ b o x, ¬ bad b → w.cell? ⟨b, o, none⟩ = some x → ¬ bad' b ∧ w'.cell? ⟨b, o, none⟩ = some x

section
variable {w w' : World} {bad bad' : Nat → Prop}

theorem SInts.keeps (hk : Keeps w bad w' bad') {k : IntKind} {l : List Int} {v : Value} (h : SInts w bad k l v) : SInts w' bad' k l v := by
  obtain ⟨a, c, hv, h1, h2, h3⟩ := h
  refine ⟨a, c, hv, h1, h2, fun i x hi => ?_⟩
  obtain ⟨b, o, ha, hb, hc⟩ := h3 i x hi
  obtain ⟨hb', hc'⟩ := hk b (o + i) _ hb hc
  exact ⟨b, o, ha, hb', hc'⟩

theorem SRows.keeps (hk : Keeps w bad w' bad') {m : List (List Int)} {v : Value} (h : SRows w bad m v) : SRows w' bad' m v := by
  obtain ⟨a, c, hv, h1, h2, h3⟩ := h
  refine ⟨a, c, hv, h1, h2, fun i x hi => ?_⟩
  obtain ⟨b, o, u, ha, hb, hc, hs⟩ := h3 i x hi
  obtain ⟨hb', hc'⟩ := hk b (o + i) _ hb hc
  exact ⟨b, o, u, ha, hb', hc', hs.keeps hk⟩

theorem SRec.keeps (hk : Keeps w bad w' bad') {s : Nat} {r : List Int × List (List Int)} {cs : List Value} (h : SRec w bad s r cs) : SRec w' bad' s r cs := by
  obtain ⟨h1, u, h2, h3⟩ := h
  exact ⟨h1, u, h2, h3.keeps hk⟩

theorem SRecs.keeps (hk : Keeps w bad w' bad') {s : Nat} {L : List (List Int × List (List Int))} {v : Value} (h : SRecs w bad s L v) : SRecs w' bad' s L v := by
  obtain ⟨a, c, hv, h1, h2, h3⟩ := h
  refine ⟨a, c, hv, h1, h2, fun i x hi => ?_⟩
  obtain ⟨b, o, cs, ha, hb, hs, hc⟩ := h3 i x hi
  have hne : ∃ u, cs[0]? = some u := by
    obtain ⟨_, u, rfl, _⟩ := hs
    cases x.1 with
    | nil => exact ⟨_, rfl⟩
    | cons y r => exact ⟨_, rfl⟩
  obtain ⟨u0, hu0⟩ := hne
  exact ⟨b, o, cs, ha, (hk b _ _ hb (hc 0 u0 hu0)).1, hs.keeps hk, fun j u hj => (hk b _ _ hb (hc j u hj)).2⟩

theorem TRep.keeps (hk : Keeps w bad w' bad') : ∀ {t : T} {v : Value}, TRep w bad t v → TRep w' bad' t v
  | .ints _ _, _, h => SInts.keeps hk h
  | .rows _, _, h => SRows.keeps hk h
  | .recs _ _, _, h => SRecs.keeps hk h

theorem ARep.keeps (hk : Keeps w bad w' bad') : ∀ {t : T} {i : Nat} {v : Value}, ARep w bad t i v → ARep w' bad' t i v
  | .ints _ _, _, _, ⟨b, o, x, hv, hl, hb, hc⟩ => by
    obtain ⟨hb', hc'⟩ := hk b o _ hb hc
    exact ⟨b, o, x, hv, hl, hb', hc'⟩
  | .rows _, _, _, ⟨b, o, l, u, hv, hl, hb, hc, hs⟩ => by
    obtain ⟨hb', hc'⟩ := hk b o _ hb hc
    exact ⟨b, o, l, u, hv, hl, hb', hc', hs.keeps hk⟩
  | .recs _ _, _, _, ⟨b, o, r, cs, hv, hl, hb, hs, hc⟩ => by
    have hne : ∃ u, cs[0]? = some u := by
      obtain ⟨_, u, rfl, _⟩ := hs
      cases r.1 with
      | nil => exact ⟨_, rfl⟩
      | cons y r => exact ⟨_, rfl⟩
    obtain ⟨u0, hu0⟩ := hne
    exact ⟨b, o, r, cs, hv, hl, (hk b _ _ hb (hc 0 u0 hu0)).1, hs.keeps hk, fun j u hj => (hk b _ _ hb (hc j u hj)).2⟩
end

/-! ### references to rows -/
structure OwnOk (hp : List (Nat × ARow)) (η : Env) (hp' : List (Nat × ARow)) (η' : Env) (k : Nat) : Prop where
  ok : ∀ r', look hp' k = some r' → ∃ r, look hp k = some r ∧ r.kind = r'.kind ∧ η'.val k = η.val k ∧ (η.cel k).length ≤ (η'.cel k).length

structure SubOk (hp : List (Nat × ARow)) (η : Env) (hp' : List (Nat × ARow)) (η' : Env) (k : Nat) : Prop where
  ok : ∀ r', look hp' k = some r' → ∃ r, look hp k = some r ∧ r.kind = r'.kind ∧ (r.kind = 2 → ∀ (i : Nat) (v : Value), (η.cel k)[i]? = some v → (η'.cel k)[i]? = some v)

section
variable {w w' : World} {bad bad' : Nat → Prop} {hp hp' : List (Nat × ARow)} {nx nx' : Nat} {η η' : Env} {f g : Nat → Bool}

mutual
theorem VRep.flt (hk : Keeps w bad w' bad') (hn : nx ≤ nx') (hf : ∀ k, k < nx → f k = true → OwnOk hp η hp' η' k) (hg : ∀ k, k < nx → g k = true → SubOk hp η hp' η' k) :
    ∀ (x : AVal) (v : Value), VRep w bad hp nx η x v → VRep w' bad' hp' nx' η' (x.flt f g) v
  | .un, _, _ => trivial
  | .c _, _, h => h
  | .t _, _, h => TRep.keeps hk h
  | .ag l, _, h => by
    obtain ⟨cs, hv, h⟩ := h
    exact ⟨cs, hv, VReps.flt hk hn hf hg l cs h⟩
  | .tu l, _, h => by
    obtain ⟨cs, hv, h⟩ := h
    exact ⟨cs, hv, VReps.flt hk hn hf hg l cs h⟩
  | .own k, v, h => by
    simp only [AVal.flt]
    cases hfk : f k with
    | false => trivial
    | true =>
      simp only [VRep] at h ⊢
      refine ⟨by omega, fun r' hr' => ?_⟩
      obtain ⟨r, hr, hkd, hv, _⟩ := (hf k h.1 hfk).ok r' hr'
      have := h.2 r hr
      exact ⟨by omega, by rw [this.2, hv]⟩
  | .ptr k o, v, h => by
    simp only [AVal.flt]
    cases hfk : f k with
    | false => trivial
    | true =>
      simp only [VRep] at h ⊢
      refine ⟨by omega, fun r' hr' => ?_⟩
      obtain ⟨r, hr, hkd, hv, hl⟩ := (hf k h.1 hfk).ok r' hr'
      obtain ⟨ho, b, hb, hvb⟩ := h.2 r hr
      exact ⟨by omega, b, by rw [hv]; exact hb, hvb⟩
  | .sub k i, v, h => by
    simp only [AVal.flt]
    cases hgk : g k with
    | false => trivial
    | true =>
      simp only [VRep] at h ⊢
      refine ⟨by omega, fun r' hr' => ?_⟩
      obtain ⟨r, hr, hkd, hc⟩ := (hg k h.1 hgk).ok r' hr'
      have := h.2 r hr
      exact ⟨by omega, hc this.1 _ _ this.2⟩
  | .subp k i j, v, h => by
    simp only [AVal.flt]
    cases hgk : g k with
    | false => trivial
    | true =>
      simp only [VRep] at h ⊢
      refine ⟨by omega, fun r' hr' => ?_⟩
      obtain ⟨r, hr, hkd, hc⟩ := (hg k h.1 hgk).ok r' hr'
      obtain ⟨hk2, b, n, c, h1, h2, h3⟩ := h.2 r hr
      exact ⟨by omega, b, n, c, hc hk2 _ _ h1, h2, h3⟩
  | .adr _ _, _, h => ARep.keeps hk h
  | .rp l o, _, h => by
    obtain ⟨b, cs, hv, hr, hc⟩ := h
    refine ⟨b, cs, hv, VReps.flt hk hn hf hg l cs hr, fun i u hu => ?_⟩
    obtain ⟨hb, hu'⟩ := hc i u hu
    exact hk b i u hb hu'
  | .clo _ l, _, h => by
    obtain ⟨cs, hv, h⟩ := h
    exact ⟨cs, hv, VReps.flt hk hn hf hg l cs h⟩
  | .knot _ l _, _, h => by
    obtain ⟨b, cs, hv, hr, hb, hc⟩ := h
    obtain ⟨hb', hc'⟩ := hk b 0 _ hb hc
    exact ⟨b, cs, hv, VReps.flt hk hn hf hg l cs hr, hb', hc'⟩
  | .nul, _, h => h
theorem VReps.flt (hk : Keeps w bad w' bad') (hn : nx ≤ nx') (hf : ∀ k, k < nx → f k = true → OwnOk hp η hp' η' k) (hg : ∀ k, k < nx → g k = true → SubOk hp η hp' η' k) :
    ∀ (l : List AVal) (vs : List Value), VReps w bad hp nx η l vs → VReps w' bad' hp' nx' η' (flts f g l) vs
  | [], [], _ => trivial
  | a :: l, v :: vs, h => ⟨VRep.flt hk hn hf hg a v h.1, VReps.flt hk hn hf hg l vs h.2⟩
  | [], _ :: _, h => h.elim
  | _ :: _, [], h => h.elim
end
end

/-! ### all references kept -/
mutual
theorem flt_true : ∀ x : AVal, x.flt (fun _ => true) (fun _ => true) = x
  | .un | .c _ | .t _ | .own _ | .ptr _ _ | .sub _ _ | .subp _ _ _ | .adr _ _ | .nul => rfl
  | .ag l => by simp only [AVal.flt, flts_true l]
  | .tu l => by simp only [AVal.flt, flts_true l]
  | .rp l _ => by simp only [AVal.flt, flts_true l]
  | .clo _ l => by simp only [AVal.flt, flts_true l]
  | .knot _ l _ => by simp only [AVal.flt, flts_true l]
theorem flts_true : ∀ l : List AVal, flts (fun _ => true) (fun _ => true) l = l
  | [] => rfl
  | a :: l => by simp only [flts, flt_true a, flts_true l]
end

theorem rowflt_true (r : ARow) : r.flt (fun _ => true) (fun _ => true) = r := by
  cases r <;> simp [ARow.flt, flts_true]

theorem fltH_true : ∀ h : List (Nat × ARow), fltH (fun _ => true) (fun _ => true) h = h
  | [] => rfl
  | (j, r) :: h => by simp only [fltH, rowflt_true, fltH_true h]

theorem fltS_true : ∀ h : List (Nat × AVal), fltS (fun _ => true) (fun _ => true) h = h
  | [] => rfl
  | (j, r) :: h => by simp only [fltS, flt_true, fltS_true h]

section
variable {w w' : World} {bad bad' : Nat → Prop} {hp hp' : List (Nat × ARow)} {nx nx' : Nat} {η η' : Env}
theorem VRep.frame (hk : Keeps w bad w' bad') (hn : nx ≤ nx') (hf : ∀ k, k < nx → OwnOk hp η hp' η' k) (hg : ∀ k, k < nx → SubOk hp η hp' η' k) {x : AVal} {v : Value}
    (h : VRep w bad hp nx η x v) : VRep w' bad' hp' nx' η' x v := by
  have := VRep.flt (f := fun _ => true) (g := fun _ => true) hk hn (fun k hk _ => hf k hk) (fun k hk _ => hg k hk) x v h
  rwa [flt_true] at this
theorem VReps.frame (hk : Keeps w bad w' bad') (hn : nx ≤ nx') (hf : ∀ k, k < nx → OwnOk hp η hp' η' k) (hg : ∀ k, k < nx → SubOk hp η hp' η' k) {x : List AVal} {v : List Value}
    (h : VReps w bad hp nx η x v) : VReps w' bad' hp' nx' η' x v := by
  have := VReps.flt (f := fun _ => true) (g := fun _ => true) hk hn (fun k hk _ => hf k hk) (fun k hk _ => hg k hk) x v h
  rwa [flts_true] at this

theorem OwnOk.refl (hp : List (Nat × ARow)) (η : Env) (k : Nat) : OwnOk hp η hp η k := ⟨fun r h => ⟨r, h, rfl, rfl, Nat.le_refl _⟩⟩
theorem SubOk.refl (hp : List (Nat × ARow)) (η : Env) (k : Nat) : SubOk hp η hp η k := ⟨fun r h => ⟨r, h, rfl, fun _ _ _ h => h⟩⟩
/-- the key's row is filtered at most, the valuation at it unchanged -/
theorem OwnOk.of {hp hp' : List (Nat × ARow)} {η η' : Env} {k : Nat} (h : ∀ r', look hp' k = some r' → ∃ r, look hp k = some r ∧ r.kind = r'.kind) (hv : η'.val k = η.val k) (hc : η'.cel k = η.cel k) : OwnOk hp η hp' η' k :=
  ⟨fun r' hr' => by obtain ⟨r, h1, h2⟩ := h r' hr'; exact ⟨r, h1, h2, hv, by rw [hc]; exact Nat.le_refl _⟩⟩
theorem SubOk.of {hp hp' : List (Nat × ARow)} {η η' : Env} {k : Nat} (h : ∀ r', look hp' k = some r' → ∃ r, look hp k = some r ∧ r.kind = r'.kind) (hc : η'.cel k = η.cel k) : SubOk hp η hp' η' k :=
  ⟨fun r' hr' => by obtain ⟨r, h1, h2⟩ := h r' hr'; exact ⟨r, h1, h2, fun _ i v => by rw [hc]; exact id⟩⟩
end

/-! ### rows -/
theorem ownsRow_same {w w' : World} {B e size : Nat} {v : Value} {n : Nat} {xs : List Value} (h : w.ownsRow B e size v n xs)
    (hb : ∀ b, b ∈ blk v → w'.heap[b]? = w.heap[b]?) : w'.ownsRow B e size v n xs := by
  refine ⟨h.1, ?_⟩
  rcases h.2 with h2 | ⟨g, cap, cur, rfl, hg, hh, r⟩
  · exact .inl h2
  · exact .inr ⟨g, cap, cur, rfl, hg, by rw [hb g (by simp [blk])]; exact hh, r⟩

theorem F2.imp {α β : Type} {R S : α → β → Prop} : ∀ {l : List α} {r : List β}, (∀ a b, b ∈ r → R a b → S a b) → F2 R l r → F2 S l r
  | [], [], _, _ => trivial
  | _ :: _, b :: _, h, ⟨h1, h2⟩ => ⟨h _ b (by simp) h1, F2.imp (fun a c hc => h a c (by simp [hc])) h2⟩
  | [], _ :: _, _, h => h.elim
  | _ :: _, [], _, h => h.elim

theorem F2.imp' {α β : Type} {R S : α → β → Prop} : ∀ {l : List α} {r : List β}, (∀ a b, a ∈ l → R a b → S a b) → F2 R l r → F2 S l r
  | [], [], _, _ => trivial
  | a :: _, _ :: _, h, ⟨h1, h2⟩ => ⟨h a _ (by simp) h1, F2.imp' (fun c b hc => h c b (by simp [hc])) h2⟩
  | [], _ :: _, _, h => h.elim
  | _ :: _, [], _, h => h.elim

theorem F2.length {α β : Type} {R : α → β → Prop} : ∀ {l : List α} {r : List β}, F2 R l r → l.length = r.length
  | [], [], _ => rfl
  | _ :: _, _ :: _, h => by simp [F2.length h.2]
  | [], _ :: _, h => h.elim
  | _ :: _, [], h => h.elim

theorem F2.at {α β : Type} {R : α → β → Prop} : ∀ {l : List α} {r : List β}, F2 R l r → ∀ {i : Nat} {a : α}, l[i]? = some a → ∃ b, r[i]? = some b ∧ R a b
  | [], [], _, i, a, h => by simp at h
  | x :: l, y :: r, h, 0, a, hi => by simp at hi; subst hi; exact ⟨y, by simp, h.1⟩
  | x :: l, y :: r, h, i + 1, a, hi => by simp at hi; simpa using F2.at h.2 hi
  | [], _ :: _, h, _, _, _ => h.elim
  | _ :: _, [], h, _, _, _ => h.elim

theorem F2.at' {α β : Type} {R : α → β → Prop} : ∀ {l : List α} {r : List β}, F2 R l r → ∀ {i : Nat} {b : β}, r[i]? = some b → ∃ a, l[i]? = some a ∧ R a b
  | [], [], _, i, a, h => by simp at h
  | x :: l, y :: r, h, 0, a, hi => by simp at hi; subst hi; exact ⟨x, by simp, h.1⟩
  | x :: l, y :: r, h, i + 1, a, hi => by simp at hi; simpa using F2.at' h.2 hi
  | [], _ :: _, h, _, _, _ => h.elim
  | _ :: _, [], h, _, _, _ => h.elim

theorem F2.intro {α β : Type} {R : α → β → Prop} : ∀ {l : List α} {r : List β}, l.length = r.length → (∀ (i : Nat) (a : α) (b : β), l[i]? = some a → r[i]? = some b → R a b) → F2 R l r
  | [], [], _, _ => trivial
  | _ :: _, _ :: _, hl, h => ⟨h 0 _ _ rfl rfl, F2.intro (by simpa using hl) (fun i a b ha hb => h (i + 1) a b (by simpa using ha) (by simpa using hb))⟩
  | [], _ :: _, hl, _ => by simp at hl
  | _ :: _, [], hl, _ => by simp at hl

theorem F2.set {α β : Type} {R : α → β → Prop} : ∀ {l : List α} {r : List β}, F2 R l r → ∀ {i : Nat} {a : α} {b : β}, R a b → F2 R (l.set i a) (r.set i b)
  | [], [], _, _, _, _, _ => by simp [F2]
  | _ :: _, _ :: _, h, 0, _, _, hab => ⟨hab, h.2⟩
  | _ :: _, _ :: _, h, _ + 1, _, _, hab => ⟨h.1, F2.set h.2 hab⟩
  | [], _ :: _, h, _, _, _, _ => h.elim
  | _ :: _, [], h, _, _, _, _ => h.elim

theorem F2.append {α β : Type} {R : α → β → Prop} : ∀ {l : List α} {r : List β} {l' : List α} {r' : List β}, F2 R l r → F2 R l' r' → F2 R (l ++ l') (r ++ r')
  | [], [], _, _, _, h => h
  | _ :: _, _ :: _, _, _, h, h' => ⟨h.1, F2.append h.2 h'⟩
  | [], _ :: _, _, _, h, _ => h.elim
  | _ :: _, [], _, _, h, _ => h.elim

section
variable {w w' : World} {B : Nat} {bad bad' : Nat → Prop} {hp hp' : List (Nat × ARow)} {nx nx' : Nat} {η η' : Env}

theorem RowRep.flt {f g : Nat → Bool} {k : Nat} {r : ARow} (h : RowRep w B bad hp nx η k r)
    (hk : Keeps w bad w' bad') (hn : nx ≤ nx') (hf : ∀ k, k < nx → f k = true → OwnOk hp η hp' η' k) (hg : ∀ k, k < nx → g k = true → SubOk hp η hp' η' k)
    (hv : η'.val k = η.val k) (hc : η'.cel k = η.cel k) (hb : ∀ b, b ∈ bsOf η k r → w'.heap[b]? = w.heap[b]?) : RowRep w' B bad' hp' nx' η' k (r.flt f g) := by
  match r with
  | .ints e kd l =>
    simp only [RowRep, ARow.flt, OwnInts] at h ⊢
    rw [hv, hc]
    exact ⟨ownsRow_same h.1 (fun b hb' => hb b (by simp [bsOf, hb'])), h.2⟩
  | .rows e e1 true m =>
    simp only [RowRep, ARow.flt] at h ⊢
    rw [hv, hc]
    refine ⟨ownsRow_same h.1 (fun b hb' => hb b (by simp [bsOf, hb'])), F2.imp (fun l v hv' ho => ?_) h.2⟩
    exact ownsRow_same ho (fun b hb' => hb b (by simp only [bsOf, ARow.kind, if_true, List.mem_append, List.mem_flatMap]; exact .inr ⟨v, hv', hb'⟩))
  | .rows e e1 false m =>
    simp only [RowRep, ARow.flt] at h ⊢
    rw [hv, hc]
    exact ⟨ownsRow_same h.1 (fun b hb' => hb b (by simp [bsOf, hb'])), F2.imp (fun l v _ ho => ho.keeps hk) h.2⟩
  | .cells e l =>
    simp only [RowRep, ARow.flt] at h ⊢
    obtain ⟨b, h1, h2, h3, h4⟩ := h
    refine ⟨b, by rw [hv]; exact h1, h2, by rw [hc, hb b (by simp [bsOf, h1, blk])]; exact h3, ?_⟩
    rw [hc]
    exact VReps.flt hk hn hf hg l _ h4
  | .recs e s L =>
    simp only [RowRep, ARow.flt] at h ⊢
    rw [hv, hc]
    obtain ⟨h1, css, h2, h3⟩ := h
    exact ⟨ownsRow_same h1 (fun b hb' => hb b (by simp [bsOf, hb'])), css, h2, F2.imp (fun l v _ ho => ho.keeps hk) h3⟩
end
end Go.Aw
