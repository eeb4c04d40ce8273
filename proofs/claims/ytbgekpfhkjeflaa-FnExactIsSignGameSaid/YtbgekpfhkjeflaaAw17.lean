/- Code, loops, whole functions. -/
import Derived.Test.YtbgekpfhkjeflaaAw16
namespace Go.Aw
open Go.RowKit

section
variable {P : Program} {Γ : Tys} {w0 w w' : World} {ob : Nat → Prop} {st : St} {a : Act} {η : Env}

theorem lift_mono {K K' : Exit → St → Prop} (h : ∀ e st, K e st → K' e st) {e : Exit} {a : Act} {w : World} (hl : lift w0 ob K e a w) : lift w0 ob K' e a w :=
  let ⟨st, hk, hs⟩ := hl; ⟨st, h e st hk, hs⟩

theorem acode_sound (hΓ : TysOk P Γ) (hm : P.follows .mixedOrders = true) : ∀ (c : Code) (st : St) (K : Exit → St → Prop) (a : Act) (w : World), acode P Γ c st K → StRep w0 ob st a w → c.wp P (lift w0 ob K) a w
  | .skip, st, K, a, w, hk, h => wp_skip ⟨st, hk, h⟩
  | .label _, st, K, a, w, hk, h => wp_label ⟨st, hk, h⟩
  | .region id ops d, st, K, a, w, hk, ⟨η, h⟩ => aregion_sound hΓ hm h hk
  | .seq x y, st, K, a, w, hk, h => by
    refine wp_seq ?_
    refine wp_mono (acode_sound hΓ hm x st _ a w hk h) (fun e a' w' hl => ?_)
    obtain ⟨st', hk', hs'⟩ := hl
    cases e with
    | normal => exact acode_sound hΓ hm y st' K a' w' hk' hs'
    | _ => exact ⟨st', hk', hs'⟩
  | .cond c x y, st, K, a, w, hk, h => by
    rw [acode_cond] at hk
    split at hk
    case h_2 => exact hk.elim
    case h_1 t ht =>
      obtain ⟨η, hs⟩ := h
      obtain ⟨hc, _⟩ := ev_sound hs ht
      refine wp_cond_split hc (fun e => ?_) (fun e => ?_)
      · exact acode_sound hΓ hm x st K a w (hk.1 e) ⟨η, hs⟩
      · exact acode_sound hΓ hm y st K a w (hk.2 e) ⟨η, hs⟩
  | .block id b, st, K, a, w, hk, h => by
    refine wp_block ?_
    refine wp_mono (acode_sound hΓ hm b st _ a w hk h) (fun e a' w' hl => ?_)
    obtain ⟨st', hk', hs'⟩ := hl
    cases e with
    | exit id' =>
      simp only [Exit.inBlock]
      simp only at hk'
      split at hk'
      case h_1 hb =>
        rw [if_pos (Nat.eq_of_beq_eq_true hb)]; exact ⟨st', hk', hs'⟩
      case h_2 hb =>
        rw [if_neg (fun e => by rw [e, Nat.beq_refl] at hb; cases hb)]; exact ⟨st', hk', hs'⟩
    | _ => exact ⟨st', hk', hs'⟩
  | .exit id, st, K, a, w, hk, h => wp_exit ⟨st, hk, h⟩
  | .ret, st, K, a, w, hk, h => wp_ret ⟨st, hk, h⟩
  | .loop b, st, K, a, w, hk, h => hk.run w0 ob a w h
  | .rangeFunc .., _, _, _, _, hk, _ => hk.elim
  | .scope _, _, _, _, _, hk, _ => hk.elim
  | .goto _, _, _, _, _, hk, _ => hk.elim
  | .refuse _, _, _, _, _, hk, _ => hk.elim

/-! ### forgetting -/
mutual
def AVal.lt (n : Nat) : AVal → Bool
  | .own k | .sub k _ | .ptr k _ | .subp k _ _ => Nat.blt k n
  | .ag l | .tu l | .rp l _ | .clo _ l => ltAll n l
  | _ => true
def ltAll (n : Nat) : List AVal → Bool
  | [] => true
  | a :: r => match a.lt n with | true => ltAll n r | false => false
end

def ARow.ltB (n : Nat) : ARow → Bool
  | .cells _ l => ltAll n l
  | _ => true

def subSl (nx : Nat) (l : List (Nat × AVal)) : List (Nat × AVal) → Prop
  | [] => True
  | (i, x) :: r => x.lt nx = true ∧ look l i = some x ∧ subSl nx l r

def subHp (nx : Nat) (l : List (Nat × ARow)) : List (Nat × ARow) → Prop
  | [] => True
  | (i, x) :: r => Nat.blt i nx = true ∧ x.ltB nx = true ∧ look l i = some x ∧ subHp nx l r

/-- the second state says no more than the first -/
structure Sub (st st' : St) : Prop where
  sz : st.sz = st'.sz
  sl : subSl st'.nx st.sl st'.sl
  hp : subHp st'.nx st.hp st'.hp

theorem subSl_at {nx : Nat} {l : List (Nat × AVal)} : ∀ {m : List (Nat × AVal)}, subSl nx l m → ∀ {i x}, look m i = some x → look l i = some x ∧ x.lt nx = true
  | [], _, i, x, h => by simp [look] at h
  | (j, y) :: m, hs, i, x, h => by
    rw [look_cons] at h
    split at h
    · simp only [Option.some.injEq] at h; subst_vars; exact ⟨hs.2.1, hs.1⟩
    · exact subSl_at hs.2.2 h

theorem subHp_at {nx : Nat} {l : List (Nat × ARow)} : ∀ {m : List (Nat × ARow)}, subHp nx l m → ∀ {i x}, look m i = some x → look l i = some x ∧ x.ltB nx = true ∧ i < nx
  | [], _, i, x, h => by simp [look] at h
  | (j, y) :: m, hs, i, x, h => by
    rw [look_cons] at h
    split at h
    · simp only [Option.some.injEq] at h; subst_vars; exact ⟨hs.2.2.1, hs.2.1, Nat.le_of_ble_eq_true hs.1⟩
    · exact subHp_at hs.2.2.2 h

section
variable {bad bad' : Nat → Prop} {hp hp' : List (Nat × ARow)} {nx nx' : Nat}
mutual
theorem VRep.low (hk : Keeps w bad w bad') (hl : ∀ k r, look hp' k = some r → look hp k = some r) : ∀ (x : AVal) {v : Value}, x.lt nx' = true → VRep w bad hp nx η x v → VRep w bad' hp' nx' η x v
  | .un, _, _, _ => trivial
  | .c _, _, _, h => h
  | .t _, _, _, h => TRep.keeps hk h
  | .adr _ _, _, _, h => ARep.keeps hk h
  | .ag l, _, ho, ⟨cs, hv, h⟩ => ⟨cs, hv, VReps.low hk hl l (by simpa [AVal.lt] using ho) h⟩
  | .tu l, _, ho, ⟨cs, hv, h⟩ => ⟨cs, hv, VReps.low hk hl l (by simpa [AVal.lt] using ho) h⟩
  | .clo _ l, _, ho, ⟨cs, hv, h⟩ => ⟨cs, hv, VReps.low hk hl l (by simpa [AVal.lt] using ho) h⟩
  | .rp l _, _, ho, ⟨b, cs, hv, h, hc⟩ => ⟨b, cs, hv, VReps.low hk hl l (by simpa [AVal.lt] using ho) h, fun i u hu => by obtain ⟨h1, h2⟩ := hc i u hu; exact hk b i u h1 h2⟩
  | .own k, _, ho, h => ⟨by simpa [AVal.lt] using ho, fun r hr => h.2 r (hl k r hr)⟩
  | .sub k _, _, ho, h => ⟨by simpa [AVal.lt] using ho, fun r hr => h.2 r (hl k r hr)⟩
  | .ptr k _, _, ho, h => ⟨by simpa [AVal.lt] using ho, fun r hr => h.2 r (hl k r hr)⟩
  | .subp k _ _, _, ho, h => ⟨by simpa [AVal.lt] using ho, fun r hr => h.2 r (hl k r hr)⟩
theorem VReps.low (hk : Keeps w bad w bad') (hl : ∀ k r, look hp' k = some r → look hp k = some r) : ∀ (l : List AVal) {vs : List Value}, ltAll nx' l = true → VReps w bad hp nx η l vs → VReps w bad' hp' nx' η l vs
  | [], [], _, _ => trivial
  | x :: l, v :: vs, ho, h => by
    simp only [ltAll] at ho
    split at ho
    case h_2 => cases ho
    case h_1 h1 => exact ⟨VRep.low hk hl x h1 h.1, VReps.low hk hl l ho h.2⟩
  | [], _ :: _, _, h => h.elim
  | _ :: _, [], _, h => h.elim
end
end

theorem Sub.rep {st' : St} (hs : Sub st st') (h : SRep w0 ob st a w η) : SRep w0 ob st' a w η := by
  have hl : ∀ k r, look st'.hp k = some r → look st.hp k = some r := fun k r hr => (subHp_at hs.hp hr).1
  have hkeep : Keeps w (badOf ob st.hp η) w (badOf ob st'.hp η) := by
    intro b o x hb hc
    refine ⟨?_, hc⟩
    rintro (h1 | ⟨j, r, hj, hm⟩)
    · exact hb (.inl h1)
    · exact hb (.inr ⟨j, r, hl j r hj, hm⟩)
  refine ⟨h.defers, h.size.trans hs.sz, h.below, ⟨fun k r hr => ?_, fun k r hr => h.heap.nodup k r (hl k r hr), fun k r k' r' hr hr' => h.heap.apart k r k' r' (hl k r hr) (hl k' r' hr'), fun k r hr => (subHp_at hs.hp hr).2.2⟩, fun i x hi => ?_⟩
  · have hrow := h.heap.row k r (hl k r hr)
    have hlt := (subHp_at hs.hp hr).2.1
    match r with
    | .ints e kd l => exact hrow
    | .rows e e1 true m => exact hrow
    | .rows e e1 false m => exact ⟨hrow.1, F2.imp (fun _ _ _ ho => ho.keeps hkeep) hrow.2⟩
    | .cells e l =>
      obtain ⟨b, g1, g2, g3, g4⟩ := hrow
      exact ⟨b, g1, g2, g3, VReps.low hkeep hl l (by simpa [ARow.ltB] using hlt) g4⟩
  · obtain ⟨h1, h2⟩ := subSl_at hs.sl hi
    exact VRep.low hkeep hl x h2 (h.slot i x h1)

theorem acode_sub {st' : St} (hs : Sub st st') {b : Code} {K : Exit → St → Prop} (h : ALoop P b st' K) : ALoop P b st K :=
  ⟨fun w0 ob a w ⟨η, hr⟩ => h.run w0 ob a w ⟨η, hs.rep hr⟩⟩

/-- THE LOOP: states told by an index, and a number that every round lowers -/
theorem aloop {ι : Type} (hΓ : TysOk P Γ) (hm : P.follows .mixedOrders = true) (inv : ι → St) (μ : ι → Nat) {b : Code} {K : Exit → St → Prop} (i0 : ι) (h0 : Sub st (inv i0))
    (round : ∀ i, acode P Γ b (inv i) fun e st' => match e with | .normal => ∃ j, Sub st' (inv j) ∧ μ j < μ i | e => K e st') : ALoop P b st K := by
  refine ⟨fun w0 ob a w ⟨η, h⟩ => ?_⟩
  intro fb k cs
  have key : ∀ (n : Nat) (i : ι), μ i = n → ∀ a w, StRep w0 ob (inv i) a w →
      ∃ e a' w', lift w0 ob K e a' w' ∧ Arrives P (lone (fb.at a (.code b :: .inLoop b :: k)) cs w) fb k cs e a' w' := by
    intro n
    induction n using Nat.strongRecOn with
    | _ n ih =>
      intro i hi a w hr
      obtain ⟨e, a', w', ⟨st', hk', η', hs'⟩, harr⟩ := acode_sound (w0 := w0) (ob := ob) hΓ hm b (inv i) _ a w (round i) hr fb (.inLoop b :: k) cs
      cases e with
      | normal =>
        obtain ⟨j, hsub, hlt⟩ := hk'
        obtain ⟨e2, a2, w2, hq2, harr2⟩ := ih (μ j) (hi ▸ hlt) j rfl a' w' ⟨η', hsub.rep hs'⟩
        exact ⟨e2, a2, w2, hq2, .of_steps (Steps.trans harr (.one step_inLoop)) harr2⟩
      | exit id => exact ⟨_, a', w', ⟨st', hk', η', hs'⟩, .pass (x := .inLoop b) rfl (fun _ _ => .inl (by simp)) harr⟩
      | goto l => exact ⟨_, a', w', ⟨st', hk', η', hs'⟩, .pass (x := .inLoop b) rfl (fun _ _ => .inl (by simp)) harr⟩
      | ret => exact ⟨_, a', w', ⟨st', hk', η', hs'⟩, .pass (x := .inLoop b) rfl (fun _ _ => .inl (by simp)) harr⟩
      | panic ch => exact ⟨_, a', w', ⟨st', hk', η', hs'⟩, .pass (x := .inLoop b) rfl (fun _ _ => .inl (by simp)) harr⟩
      | outgrown => exact ⟨_, a', w', ⟨st', hk', η', hs'⟩, .pass (x := .inLoop b) rfl (fun _ _ => .inl (by simp)) harr⟩
  obtain ⟨e, a', w', hq, harr⟩ := key (μ i0) i0 rfl a w ⟨η, h0.rep h⟩
  exact ⟨e, a', w', hq, .of_steps (.one step_loop) harr⟩
end
end Go.Aw
