/- All quiet operations together, in one statement. -/
import Derived.Test.YtpakfehinfcdoaaAw7
namespace Go.Aw
open Go.RowKit

section
variable {P : Program} {Γ : Tys} {w0 : Base} {w : World} {ob : Nat → Prop} {st : St} {a : Act} {η : Env}

theorem run_bound {k : IntKind} {i y : Nat} {code : BoundsCode} (hi : i ≤ y) (w' : World) : (Instr.sliceBound (.int k (i : Int)) y code).run P w' = .ok i w' := by
  have h : (0 : Int) ≤ i ∧ (i : Int) ≤ y := ⟨by omega, by omega⟩
  simp [Instr.sliceBound, asIntOf, h]

theorem run_slice {t e : Nat} {te : TI} (ht : P.underlying t = some (.slice e)) (he : TyOk P e te) (hs : te.size = 1) {ba : Option Addr} {n c i j : Nat} {lo hi : Option Value}
    (hlo : lo = some (.int .i64 i) ∨ (lo = none ∧ i = 0) ∨ ∃ k, lo = some (.int k i)) (hhi : (hi = none ∧ j = n) ∨ ∃ k, hi = some (.int k j)) (hij : i ≤ j) (hjn : j ≤ n) (hnc : n ≤ c) (w' : World) :
    (Instr.sliceAt t (.slice ba n c) lo hi none).run P w' = .ok (.slice (if c = i then ba else ba.map (·.add i)) (j - i) (c - i)) w' := by
  have hlo' : (lo = none ∧ i = 0) ∨ ∃ k, lo = some (.int k i) := by
    rcases hlo with h | h | h
    · exact .inr ⟨_, h⟩
    · exact .inl h
    · exact .inr h
  have hsz := run_size he
  rw [hs] at hsz
  simp only [Instr.sliceAt, Sem.run_bind, run_underlying ht, Result.andThen_ok, Instr.slice, Instr.sliceBounds]
  rcases hlo' with ⟨rfl, rfl⟩ | ⟨k, rfl⟩ <;> rcases hhi with ⟨rfl, rfl⟩ | ⟨k', rfl⟩
  · simp [hsz]
  · simp [hsz, run_bound (P := P) (show j ≤ c by omega)]
  · simp [hsz, run_bound (P := P) hij]
  · simp [hsz, run_bound (P := P) (show j ≤ c by omega), run_bound (P := P) hij]

theorem SInts.slice {bad : Nat → Prop} {k : IntKind} {l : List Int} {ba : Option Addr} {n c i j : Nat} (h : SInts w bad k l (.slice ba n c)) (hij : i ≤ j) (hjn : j ≤ l.length) :
    SInts w bad k ((l.take j).drop i) (.slice (if c = i then ba else ba.map (·.add i)) (j - i) (c - i)) := by
  obtain ⟨a', c', hv, h1, h2, h3⟩ := h
  simp only [Value.slice.injEq] at hv
  obtain ⟨rfl, rfl, rfl⟩ := hv
  have hl : ((l.take j).drop i).length = j - i := by simp; omega
  refine ⟨_, c - i, by rw [hl], by rw [hl]; omega, by omega, fun m x hm => ?_⟩
  rw [List.getElem?_drop, List.getElem?_take] at hm
  split at hm
  case isFalse => cases hm
  case isTrue hlt =>
    obtain ⟨b, o, rfl, hb, hc⟩ := h3 (i + m) x hm
    refine ⟨b, o + i, ?_, hb, by rw [Nat.add_assoc]; exact hc⟩
    rw [if_neg (by omega)]
    simp [Addr.add_lit]

theorem aslice_sound (hΓ : TysOk P Γ) {t : Nat} {x : AVal} {u : Value} (hx : VR w ob st η x u) {lo hi : Option AVal} {vlo vhi : Option Value}
    (hlo : (lo = none ∧ vlo = none) ∨ ∃ y v, lo = some y ∧ vlo = some v ∧ VR w ob st η y v) (hhi : (hi = none ∧ vhi = none) ∨ ∃ y v, hi = some y ∧ vhi = some v ∧ VR w ob st η y v)
    {K : AVal → Prop} (hk : aslice Γ t x lo hi K) : ∃ z q, K q ∧ VR w ob st η q z ∧ QOk P w (Instr.sliceAt t u vlo vhi none) z := by
  unfold aslice at hk
  split at hk
  case h_2 => exact hk.elim
  case h_1 e s1 s2 s3 hti =>
    have ht := (hΓ.at hti).desc
    simp only [TD.is] at ht
    split at hk
    case h_2 => exact hk.elim
    case h_1 d1 d2 d3 hei =>
      have hte := hΓ.at hei
      split at hk
      case h_2 => exact hk.elim
      case h_1 k l =>
        have hx' := hx
        obtain ⟨ba, c, hu, h1, h2, h3⟩ := hx
        subst hu
        split at hk
        case h_1 kk n =>
          obtain ⟨i, hn, hi', hk⟩ := hk
          rcases hlo with ⟨h, _⟩ | ⟨y, v, h, hv, hy⟩
          · cases h
          simp only [Option.some.injEq] at h
          subst h hv
          obtain ⟨rfl, _⟩ := hy
          rcases hhi with ⟨_, rfl⟩ | ⟨y, v, h, hv, hy⟩
          · have hs := SInts.slice (i := i) (j := l.length) hx' hi' (Nat.le_refl _)
            rw [List.take_length] at hs
            exact ⟨_, _, hk, hs, fun w' _ => by rw [hn]; exact run_slice ht hte rfl (.inr (.inr ⟨_, rfl⟩)) (.inl ⟨rfl, rfl⟩) hi' (Nat.le_refl _) h1 w'⟩
          · cases h
        case h_2 kk n =>
          obtain ⟨j, hn, hj, hk⟩ := hk
          rcases hhi with ⟨h, _⟩ | ⟨y, v, h, hv, hy⟩
          · cases h
          simp only [Option.some.injEq] at h
          subst h hv
          obtain ⟨rfl, _⟩ := hy
          rcases hlo with ⟨_, rfl⟩ | ⟨y, v, h, hv, hy⟩
          · have hs := SInts.slice (i := 0) (j := j) hx' (Nat.zero_le _) hj
            rw [List.drop_zero] at hs
            exact ⟨_, _, hk, hs, fun w' _ => by rw [hn]; exact run_slice ht hte rfl (.inr (.inl ⟨rfl, rfl⟩)) (.inr ⟨_, rfl⟩) (Nat.zero_le _) hj h1 w'⟩
          · cases h
        case h_3 ka n kb m =>
          obtain ⟨i, j, hn, hm, hij, hj, hk⟩ := hk
          rcases hlo with ⟨h, _⟩ | ⟨y, v, h, hv, hy⟩
          · cases h
          simp only [Option.some.injEq] at h
          subst h hv
          obtain ⟨rfl, _⟩ := hy
          rcases hhi with ⟨h, _⟩ | ⟨y, v, h, hv, hy⟩
          · cases h
          simp only [Option.some.injEq] at h
          subst h hv
          obtain ⟨rfl, _⟩ := hy
          exact ⟨_, _, hk, SInts.slice hx' hij hj, fun w' _ => by rw [hn, hm]; exact run_slice ht hte rfl (.inr (.inr ⟨_, rfl⟩)) (.inr ⟨_, rfl⟩) hij hj h1 w'⟩
        case h_4 => exact hk.elim

theorem amm_sound {mx : Bool} {k : IntKind} : ∀ {r : List AVal} {vs : List Value} {n m : Int}, VRs w ob st η r vs → amm mx n r = some m → ∀ w' : World,
    (vs.foldlM (if mx then Builtin.max2 else Builtin.min2) (.int k n)).run P w' = .ok (.int k m) w'
  | [], [], n, m, _, h, w' => by simp [amm] at h; subst h; simp
  | x :: r, v :: vs, n, m, hr, h, w' => by
    obtain ⟨hx, hr⟩ := hr
    unfold amm at h
    split at h
    case h_1 heq => cases heq
    case h_2 kk b r' heq =>
      simp only [List.cons.injEq] at heq
      obtain ⟨rfl, rfl⟩ := heq
      obtain ⟨rfl, _⟩ := hx
      have ih := amm_sound (mx := mx) (k := k) hr h w'
      cases mx
      · simp only [Bool.false_eq_true, if_false] at ih ⊢
        simp only [List.foldlM_cons, Builtin.min2, Sem.run_bind, Sem.run_pure, Result.andThen_ok]
        exact ih
      · simp only [if_true] at ih ⊢
        simp only [List.foldlM_cons, Builtin.max2, Sem.run_bind, Sem.run_pure, Result.andThen_ok]
        exact ih
    case h_3 => cases h
  | [], _ :: _, _, _, h, _, _ => h.elim
  | _ :: _, [], _, _, h, _, _ => h.elim

theorem ammx_sound {mx : Bool} {l : List AVal} {vs : List Value} (hl : VRs w ob st η l vs) {K : AVal → Prop} (hk : ammx mx l K) :
    ∃ z q, K q ∧ VR w ob st η q z ∧ ∀ w' : World, ∃ x rest, vs = x :: rest ∧ (rest.foldlM (if mx then Builtin.max2 else Builtin.min2) x).run P w' = .ok z w' := by
  unfold ammx at hk
  split at hk
  case h_2 => exact hk.elim
  case h_1 k n r =>
    split at hk
    case h_2 => exact hk.elim
    case h_1 m hm =>
      match vs, hl with
      | v :: vs, ⟨⟨hv, _⟩, hr⟩ =>
        subst hv
        exact ⟨_, _, hk, ⟨rfl, rfl⟩, fun w' => ⟨_, _, rfl, amm_sound hr hm w'⟩⟩

theorem optEv_sound (h : SRep w0 ob st a w η) {o : Option Operand} {y : Option AVal} (he : optEv st o = some y) :
    (y = none ∧ o.map a.eval = none) ∨ ∃ z v, y = some z ∧ o.map a.eval = some v ∧ VR w ob st η z v := by
  cases o with
  | none => simp only [optEv, Option.some.injEq] at he; subst he; exact .inl ⟨rfl, rfl⟩
  | some x =>
    simp only [optEv] at he
    cases hx : ev st x with
    | none => rw [hx] at he; cases he
    | some z => rw [hx] at he; simp only [Option.some.injEq] at he; subst he; exact .inr ⟨z, _, rfl, rfl, ev_sound h hx⟩

theorem abin_int {op : BinOp} {p q : AVal} {K : AVal → Prop} (hk : abin op p q K) : ∃ k n, p = .c (.int k n) := by
  unfold abin at hk
  split at hk
  case h_1 k n k' m => exact ⟨k, n, rfl⟩
  case h_2 => exact hk.elim

theorem run_eql_nil {t e : Nat} (h : P.underlying t = some (.slice e)) {a : Option Addr} {n c : Nat} (w : World) :
    (binOp .eql t (.slice a n c) (.slice none 0 0)).run P w = .ok (.bool a.isNone) w := by
  have h1 : ∀ d, (Op.equalIn (d + 1) t (.slice a n c) (.slice none 0 0)).run P w = .ok a.isNone w := fun d => by
    cases a <;> simp [Op.equalIn, run_underlying h]
  simp only [binOp]
  simp [Op.equal, Op.maxDepth, h1 9999]

theorem abin2_sound (hΓ : TysOk P Γ) {t : Nat} {op : BinOp} {p q : AVal} {u v : Value} (hx : VR w ob st η p u) (hy : VR w ob st η q v) {K : AVal → Prop} (hk : abin2 Γ t op p q K) (x y : Operand) :
    ∃ z r, K r ∧ VR w ob st η r z ∧ QOk P w (binOp op t u v) z ∧ eqGuard op t x y u v = Pure.pure () := by
  unfold abin2 at hk
  split at hk
  case h_1 a b =>
    obtain ⟨rfl, _⟩ := hx
    obtain ⟨rfl, _⟩ := hy
    split at hk
    case h_2 => exact hk.elim
    case h_1 s1 s2 s3 hs =>
      have ht : P.underlying t = some .bool := (hΓ.at hs).desc
      split at hk
      case h_1 => exact ⟨_, _, hk, ⟨rfl, rfl⟩, fun w' _ => by simp [binOp, run_equal_bool w' t a b ht], by rfl⟩
      case h_2 => exact ⟨_, _, hk, ⟨rfl, rfl⟩, fun w' _ => by simp [binOp, run_equal_bool w' t a b ht, bne], by rfl⟩
      case h_3 => exact hk.elim
  case h_2 kk l =>
    obtain ⟨ba, c, rfl, _, _, hc⟩ := hx
    obtain ⟨rfl, _⟩ := hy
    split at hk
    case h_2 => exact hk.elim
    case h_1 e s1 s2 s3 hs =>
      have ht : P.underlying t = some (.slice e) := (hΓ.at hs).desc
      split at hk
      case h_2 => exact hk.elim
      case h_1 =>
        refine ⟨.bool ba.isNone, _, hk ba.isNone (fun hb => ?_), ⟨rfl, rfl⟩, fun w' _ => run_eql_nil ht w', rfl⟩
        cases l with
        | nil => rfl
        | cons x r =>
          obtain ⟨b, o, h, _⟩ := hc 0 x rfl
          rw [h] at hb; cases hb
  case h_3 =>
    obtain ⟨z, r, h1, h2, h3⟩ := abin_sound (P := P) (t := t) hx hy hk
    refine ⟨z, r, h1, h2, h3, ?_⟩
    obtain ⟨k, n, rfl⟩ := abin_int hk
    rw [hx.1]; exact eqGuard_flat

/-- the value that a quiet operation yields, in every world that goes on from here -/
def Yields1 (P : Program) (w : World) (a : Act) (o : Oper) (v : Value) : Prop := ∀ w', Below w.heap.size w w' → (execOp a.eval o).run P w' = .ok (.value v) w'

theorem Yields1.of {o : Oper} {v : Value} {s : Sem Value} (hs : QOk P w s v) (he : execOp a.eval o = (do Pure.pure (Next.value (← s)))) : Yields1 P w a o v := fun w' hb => by
  rw [he]; simp [hs w' hb]

theorem aq_sound (hΓ : TysOk P Γ) (h : SRep w0 ob st a w η) {o : Oper} {K : AVal → Prop} (hk : aq Γ st o K) : ∃ v x, K x ∧ VR w ob st η x v ∧ Yields1 P w a o v := by
  unfold aq at hk
  obtain ⟨dst, op, type, pos, after, guard⟩ := o
  simp only at hk
  split at hk
  case h_1 x =>
    cases hx : ev st x with
    | none => rw [hx] at hk; exact hk.elim
    | some y => rw [hx] at hk; exact ⟨_, y, hk, ev_sound h hx, fun _ _ => rfl⟩
  case h_2 x =>
    cases hx : ev st x with
    | none => rw [hx] at hk; exact hk.elim
    | some y => rw [hx] at hk; exact ⟨_, y, hk, ev_sound h hx, fun _ _ => rfl⟩
  case h_3 t x =>
    cases hx : ev st x with
    | none => rw [hx] at hk; exact hk.elim
    | some y =>
      rw [hx] at hk
      obtain ⟨v, q, h1, h2, h3⟩ := aload_sound hΓ h (ev_sound h hx) hk
      exact ⟨v, q, h1, h2, .of h3 rfl⟩
  case h_4 x =>
    cases hx : ev st x with
    | none => rw [hx] at hk; exact hk.elim
    | some y =>
      rw [hx] at hk
      have hv := ev_sound h hx
      split at hk
      case h_1 k o heq =>
        simp only [Option.some.injEq] at heq
        subst heq
        cases hik : isKey st.hp k with
        | false => rw [hik] at hk; exact hk.elim
        | true =>
          rw [hik] at hk
          refine ⟨_, _, hk, hv, fun w' _ => ?_⟩
          unfold isKey at hik
          cases hr : look st.hp k with
          | none => rw [hr] at hik; cases hik
          | some r =>
            obtain ⟨_, b, _, he⟩ := hv.2 r hr
            simp [execOp, he]
      case h_2 f l heq =>
        simp only [Option.some.injEq] at heq
        subst heq
        obtain ⟨cs, he, hr⟩ := hv
        exact ⟨_, _, hk, ⟨cs, rfl, hr⟩, fun w' _ => by simp [execOp, he]⟩
      case h_3 l o heq =>
        simp only [Option.some.injEq] at heq
        subst heq
        obtain ⟨b, cs, he, hr⟩ := hv
        exact ⟨_, _, hk, ⟨b, cs, rfl, hr⟩, fun w' _ => by simp [execOp, he]⟩
      case h_4 f l n heq =>
        simp only [Option.some.injEq] at heq
        subst heq
        have hv' := hv
        obtain ⟨b, cs, he, hr⟩ := hv
        exact ⟨_, _, hk, hv', fun w' _ => by simp [execOp, he]⟩
      case h_5 => exact hk.elim
  case h_5 op t x y ty =>
    cases hx : ev st x with
    | none => rw [hx] at hk; exact hk.elim
    | some p =>
      rw [hx] at hk
      cases hy : ev st y with
      | none => rw [hy] at hk; exact hk.elim
      | some q =>
        rw [hy] at hk
        simp only at hk
        obtain ⟨v, z, h1, h2, h3, hg⟩ := abin2_sound hΓ (ev_sound h hx) (ev_sound h hy) hk x y
        refine ⟨v, z, h1, h2, fun w' hb => ?_⟩
        simp [execOp, hg, h3 w' hb]
  case h_6 op t x =>
    cases hx : ev st x with
    | none => rw [hx] at hk; exact hk.elim
    | some p =>
      rw [hx] at hk
      obtain ⟨v, z, h1, h2, h3⟩ := aun_sound (P := P) (ev_sound h hx) hk
      exact ⟨v, z, h1, h2, .of h3 rfl⟩
  case h_7 s d x =>
    split at hk
    case h_2 => exact hk.elim
    case h_1 ks s1 s2 s3 hs =>
      split at hk
      case h_2 => exact hk.elim
      case h_1 kd d1 d2 d3 hd =>
        split at hk
        case h_2 => exact hk.elim
        case h_1 k0 n hx =>
          obtain ⟨he, _⟩ := ev_sound h hx
          have hs' := (hΓ.at hs).desc
          have hd' := (hΓ.at hd).desc
          simp only [TD.is] at hs' hd'
          exact ⟨_, _, hk, ⟨rfl, rfl⟩, fun w' _ => by simp [execOp, he, convert, run_underlying hs', run_underlying hd', Conv.intToInt]⟩
  case h_8 s x f =>
    cases hx : ev st x with
    | none => rw [hx] at hk; exact hk.elim
    | some p =>
      rw [hx] at hk
      obtain ⟨v, z, h1, h2, h3⟩ := afaddr_sound hΓ h (ev_sound h hx) hk
      exact ⟨v, z, h1, h2, .of (fun w' _ => h3 w') rfl⟩
  case h_9 s x f =>
    cases hx : ev st x with
    | none => rw [hx] at hk; exact hk.elim
    | some p =>
      rw [hx] at hk
      obtain ⟨v, z, h1, h2, h3⟩ := afield_sound hΓ (ev_sound h hx) hk
      exact ⟨v, z, h1, h2, .of h3 rfl⟩
  case h_10 t x ix =>
    cases hx : ev st x with
    | none => rw [hx] at hk; exact hk.elim
    | some p =>
      rw [hx] at hk
      cases hy : ev st ix with
      | none => rw [hy] at hk; exact hk.elim
      | some q =>
        rw [hy] at hk
        obtain ⟨v, z, h1, h2, h3⟩ := aidx_sound hΓ h (ev_sound h hx) (ev_sound h hy) hk
        exact ⟨v, z, h1, h2, .of (fun w' _ => h3 w') rfl⟩
  case h_11 x i =>
    split at hk
    case h_2 => exact hk.elim
    case h_1 l hx =>
      obtain ⟨cs, he, hr⟩ := ev_sound h hx
      cases hn : nth l i with
      | none => rw [hn] at hk; exact hk.elim
      | some q =>
        rw [hn] at hk
        obtain ⟨v, hv, hq⟩ := hr.nth hn
        exact ⟨v, q, hk, hq, fun w' _ => by simp [execOp, he, Instr.extract, hv]⟩
  case h_12 t x lo hi =>
    cases hx : ev st x with
    | none => rw [hx] at hk; exact hk.elim
    | some p =>
      rw [hx] at hk
      cases hlo : optEv st lo with
      | none => rw [hlo] at hk; exact hk.elim
      | some l =>
        rw [hlo] at hk
        cases hhi : optEv st hi with
        | none => rw [hhi] at hk; exact hk.elim
        | some m =>
          rw [hhi] at hk
          obtain ⟨v, z, h1, h2, h3⟩ := aslice_sound hΓ (ev_sound h hx) (optEv_sound h hlo) (optEv_sound h hhi) hk
          exact ⟨v, z, h1, h2, .of h3 rfl⟩
  case h_13 t ps =>
    cases hp : parts st ps.toList with
    | none => rw [hp] at hk; exact hk.elim
    | some l =>
      rw [hp] at hk
      obtain ⟨v, z, h1, h2, h3⟩ := abuild_sound hΓ h hp hk
      exact ⟨v, z, h1, h2, .of h3 rfl⟩
  case h_14 f first caps =>
    split at hk
    case h_2 => exact hk.elim
    case h_1 hfirst =>
      cases hc : evs st caps.toList with
      | none => rw [hc] at hk; exact hk.elim
      | some l =>
        rw [hc] at hk
        have hr := evs_sound h hc
        have hf : first = #[] := by simpa using hfirst
        refine ⟨.func (.func f) #[] (caps.toList.map a.eval).toArray, _, hk, ⟨_, rfl, hr⟩, fun w' _ => ?_⟩
        subst hf
        obtain ⟨cl⟩ := caps
        simp [execOp, Instr.makeFunc]
  case h_15 args tys =>
    split at hk
    case h_2 => exact hk.elim
    case h_1 p hp =>
      split at hk
      case h_2 => exact hk.elim
      case h_1 t htys =>
        have hargs := evs_sound h hp
        obtain ⟨al⟩ := args
        obtain ⟨tl⟩ := tys
        simp only at htys hargs hp
        subst htys
        match al, hargs with
        | [x], ⟨hx, _⟩ =>
          split at hk
          case h_3 => exact hk.elim
          case h_1 e s1 s2 s3 hti =>
            have ht := (hΓ.at hti).desc
            simp only [TD.is] at ht
            obtain ⟨v, z, h1, h2, h3⟩ := alen_sound (ty := type) h hx hk ht
            exact ⟨v, z, h1, h2, fun w' hb => by simp [execOp, resolve, invoke, builtin, h3 w' hb]⟩
          case h_2 s1 s2 s3 hti =>
            have ht := (hΓ.at hti).desc
            simp only [TD.is] at ht
            split at hk
            case h_2 => exact hk.elim
            case h_1 s =>
              obtain ⟨he, _⟩ := hx
              exact ⟨_, _, hk, ⟨rfl, rfl⟩, fun w' _ => by simp [execOp, resolve, invoke, builtin, he, Builtin.len_, run_underlying ht, goInt]⟩
  case h_16 args tys =>
    cases hp : evs st args.toList with
    | none => rw [hp] at hk; exact hk.elim
    | some l =>
      rw [hp] at hk
      have hargs := evs_sound h hp
      obtain ⟨v, z, h1, h2, h3⟩ := ammx_sound (P := P) hargs hk
      refine ⟨v, z, h1, h2, fun w' _ => ?_⟩
      obtain ⟨x, rest, e1, e2⟩ := h3 w'
      simp only [if_true] at e2
      simp [execOp, resolve, invoke, builtin, Builtin.max_, e1, e2]
  case h_17 args tys =>
    cases hp : evs st args.toList with
    | none => rw [hp] at hk; exact hk.elim
    | some l =>
      rw [hp] at hk
      have hargs := evs_sound h hp
      obtain ⟨v, z, h1, h2, h3⟩ := ammx_sound (P := P) hargs hk
      refine ⟨v, z, h1, h2, fun w' _ => ?_⟩
      obtain ⟨x, rest, e1, e2⟩ := h3 w'
      simp only [Bool.false_eq_true, if_false] at e2
      simp [execOp, resolve, invoke, builtin, Builtin.min_, e1, e2]
  case h_18 t x hh m =>
    split at hk
    case h_2 => exact hk.elim
    case h_1 l hx =>
      split at hk
      case h_2 => exact hk.elim
      case h_1 e s1 s2 s3 hti =>
        have ht := (hΓ.at hti).desc
        simp only [TD.is] at ht
        split at hk
        case h_2 => exact hk.elim
        case h_1 d1 d2 d3 hei =>
          have hte := hΓ.at hei
          split at hk
          case h_2 => exact hk.elim
          case h_1 hh0 =>
            split at hk
            case h_2 => exact hk.elim
            case h_1 hm0 =>
              obtain ⟨ba, c, hu, h1, h2, h3⟩ := ev_sound h hx
              obtain ⟨e1, _⟩ := ev_sound h hh0
              obtain ⟨e2, _⟩ := ev_sound h hm0
              refine ⟨.slice ba 0 0, .nul, hk, ⟨ba, rfl⟩, fun w' _ => ?_⟩
              have hsz := run_size hte
              simp [execOp, hu, e1, e2, Instr.sliceAt, run_underlying ht, Instr.slice, Instr.sliceBounds, Instr.sliceBound, asIntOf, hsz]
  case h_19 => exact hk.elim
end
end Go.Aw
