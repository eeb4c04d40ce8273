/- The quiet operations, continued. -/
import Derived.Test.YtpakfehinfcdoaaAw5
namespace Go.Aw
open Go.RowKit

theorem keq_spec : ∀ {k k' : IntKind}, keq k k' = true → k = k' := by
  intro k k' h
  cases k <;> cases k' <;> first | rfl | (simp [keq] at h)

section
variable {P : Program} {Γ : Tys} {w0 : Base} {w : World} {ob : Nat → Prop} {st : St} {a : Act} {η : Env}

theorem QOk.pure (v : Value) : QOk P w (Pure.pure v) v := fun _ _ => rfl

theorem aint_sound {op : BinOp} {k : IntKind} {x y : Int} {K : AVal → Prop} (hk : aint op k x y K) {t : Nat} (hop : op ≠ .shl ∧ op ≠ .shr) :
    ∃ v u, K u ∧ VR w ob st η u v ∧ QOk P w (binOp op t (.int k x) (.int k y)) v := by
  cases op <;> simp only [aint] at hk
  case quo => exact ⟨_, _, hk.2, ⟨rfl, rfl⟩, fun w' _ => by simp [binOp, Op.intDiv, hk.1]⟩
  case rem => exact ⟨_, _, hk.2, ⟨rfl, rfl⟩, fun w' _ => by simp [binOp, Op.intDiv, hk.1]⟩
  all_goals exact ⟨_, _, hk, ⟨rfl, rfl⟩, fun w' _ => by first | (simp [binOp, Op.intArith]; done) | (simp [binOp, Op.intCmp]; done) | (simp only [binOp_and, binOp_or, binOp_xor, binOp_andNot, intBits_and, intBits_or, intBits_xor, intBits_andNot]; rfl)⟩

theorem abin_sound {op : BinOp} {x y : AVal} {u v : Value} (hx : VR w ob st η x u) (hy : VR w ob st η y v) {K : AVal → Prop} (hk : abin op x y K) {t : Nat} :
    ∃ z q, K q ∧ VR w ob st η q z ∧ QOk P w (binOp op t u v) z := by
  unfold abin at hk
  split at hk
  case h_2 => exact hk.elim
  case h_1 k n k' m =>
    obtain ⟨rfl, _⟩ := hx
    obtain ⟨rfl, _⟩ := hy
    split at hk
    case h_1 => 
      refine ⟨_, _, hk.2, ⟨rfl, rfl⟩, fun w' _ => ?_⟩
      have := hk.1
      simp [binOp, Op.shift, Go.Aw.shl, Int.not_lt.2 this]
    case h_2 =>
      refine ⟨_, _, hk.2, ⟨rfl, rfl⟩, fun w' _ => ?_⟩
      have := hk.1
      simp [binOp, Op.shift, Go.Aw.shr, Int.not_lt.2 this]
    case h_3 h1 h2 =>
      cases hq : keq k k' with
      | false => rw [hq] at hk; exact hk.elim
      | true =>
        rw [hq] at hk
        obtain rfl := keq_spec hq
        exact aint_sound hk ⟨fun e => h1 e, fun e => h2 e⟩

theorem eqGuard_flat {op : BinOp} {t : Nat} {x y : Operand} {k : IntKind} {n : Int} {v : Value} : eqGuard op t x y (.int k n) v = Pure.pure () := by cases op <;> rfl

theorem aun_sound {op : UnOp} {x : AVal} {u : Value} (hx : VR w ob st η x u) {K : AVal → Prop} (hk : aun op x K) :
    ∃ z q, K q ∧ VR w ob st η q z ∧ QOk P w (Op.unary op u) z := by
  unfold aun at hk
  split at hk
  case h_1 => obtain ⟨rfl, _⟩ := hx; exact ⟨_, _, hk, ⟨rfl, rfl⟩, fun _ _ => rfl⟩
  case h_2 => obtain ⟨rfl, _⟩ := hx; exact ⟨_, _, hk, ⟨rfl, rfl⟩, fun _ _ => rfl⟩
  case h_3 => exact hk.elim

theorem len_own {B e n sz : Nat} {v : Value} {xs : List Value} (h : w.ownsRow B e sz v n xs) : ∃ b c, v = .slice b n c := by
  rcases h.2 with ⟨rfl, rfl⟩ | ⟨g, cap, cur, rfl, _⟩
  · exact ⟨_, _, rfl⟩
  · exact ⟨_, _, rfl⟩

theorem run_len_sl {t e : Nat} (ht : P.underlying t = some (.slice e)) (ty : Nat) (b : Option Addr) (n c : Nat) (w' : World) :
    (Builtin.len_ #[t] ty #[.slice b n c]).run P w' = .ok (.int .i64 n) w' := by
  simp [Builtin.len_, run_underlying ht, goInt]

theorem alen_sound (h : SRep w0 ob st a w η) {x : AVal} {u : Value} (hx : VR w ob st η x u) {K : AVal → Prop} (hk : alen st x K) {t ty e : Nat} (ht : P.underlying t = some (.slice e)) :
    ∃ z q, K q ∧ VR w ob st η q z ∧ QOk P w (Builtin.len_ #[t] ty #[u]) z := by
  have fin : ∀ (b : Option Addr) (n c : Nat), u = .slice b n c → K (.c (.int .i64 n)) → ∃ z q, K q ∧ VR w ob st η q z ∧ QOk P w (Builtin.len_ #[t] ty #[u]) z := fun b n c hu hk =>
    ⟨_, _, hk, ⟨rfl, rfl⟩, fun w' _ => by rw [hu]; exact run_len_sl ht ty b n c w'⟩
  cases x with
  | c v =>
    obtain ⟨rfl, _⟩ := hx
    unfold alen at hk
    split at hk
    case h_1 heq =>
      simp only [AVal.c.injEq] at heq
      exact fin none 0 0 heq hk
    all_goals first | exact hk.elim | (rename_i heq; cases heq)
  | t tr =>
    cases tr with
    | ints k l => obtain ⟨b, c, hu, _⟩ := hx; exact fin b _ c hu hk
    | rows m => obtain ⟨b, c, hu, _⟩ := hx; exact fin b _ c hu hk
    | recs s L => obtain ⟨b, c, hu, _⟩ := hx; exact fin b _ c hu hk
  | nul => obtain ⟨b, hu⟩ := hx; exact fin b 0 0 hu hk
  | own k =>
    simp only [alen] at hk
    simp only [VR, VRep] at hx
    cases hr : look st.hp k with
    | none => rw [hr] at hk; exact hk.elim
    | some r =>
      rw [hr] at hk
      obtain ⟨_, rfl⟩ := hx.2 r hr
      have hrow := h.heap.row k r hr
      match r with
      | .ints e kd l => obtain ⟨b, c, hu⟩ := len_own hrow.1; exact fin b _ c hu hk
      | .rows e e1 true m => obtain ⟨b, c, hu⟩ := len_own hrow.1; exact fin b _ c hu hk
      | .rows e e1 false m => obtain ⟨b, c, hu⟩ := len_own hrow.1; exact fin b _ c hu hk
      | .cells e l => exact hk.elim
      | .recs e s L => obtain ⟨b, c, hu⟩ := len_own hrow.1; exact fin b _ c hu hk
  | sub k i =>
    simp only [alen] at hk
    simp only [VR, VRep] at hx
    cases hr : look st.hp k with
    | none => rw [hr] at hk; exact hk.elim
    | some r =>
      rw [hr] at hk
      obtain ⟨hk2, hcel⟩ := hx.2 r hr
      have hrow := h.heap.row k r hr
      match r, hk2 with
      | .rows e e1 true m, _ =>
        obtain ⟨l, hl, ho⟩ := F2.at' hrow.2 hcel
        simp only at hk
        rw [getD_of hl] at hk
        obtain ⟨b, c, hu⟩ := len_own ho
        exact fin b _ c hu hk
  | _ => exact hk.elim

theorem run_idx_sl {t e : Nat} {ti : TI} (ht : P.underlying t = some (.slice e)) (he : TyOk P e ti) (hs : ti.size = 1) {b o n c i : Nat} {k : IntKind} (hi : i < n) (w' : World) :
    (Instr.indexAt t (.slice (some ⟨b, o, none⟩) n c) (.int k i)).run P w' = .ok (.pointer (some ⟨b, o + i, none⟩)) w' := by
  have h1 : (0 : Int) ≤ i ∧ (i : Int) < n := ⟨by omega, by omega⟩
  simp only [Instr.indexAt, run_underlying ht, asIntOf, Sem.run_bind, Sem.run_pure, Result.andThen_ok, h1]
  simp [Addr.add_lit, run_size he, hs]

theorem run_idx_slN {t e : Nat} {ti : TI} (ht : P.underlying t = some (.slice e)) (he : TyOk P e ti) {b o n c i : Nat} {k : IntKind} (hi : i < n) (w' : World) :
    (Instr.indexAt t (.slice (some ⟨b, o, none⟩) n c) (.int k i)).run P w' = .ok (.pointer (some ⟨b, o + i * ti.size, none⟩)) w' := by
  have h1 : (0 : Int) ≤ i ∧ (i : Int) < n := ⟨by omega, by omega⟩
  simp only [Instr.indexAt, run_underlying ht, asIntOf, Sem.run_bind, Sem.run_pure, Result.andThen_ok, h1]
  simp [Addr.add_lit, run_size he]

theorem aidx_recs {t e : Nat} {ti : TI} (ht : P.underlying t = some (.slice e)) (hei : TyOk P e ti) {s : Nat} {L : List (List Int × List (List Int))} {u : Value} (hx : VR w ob st η (.t (.recs s L)) u) (hs : ti.size = s + 1) {kk : IntKind} {n : Int} {K : AVal → Prop}
    (hk : ∃ i : Nat, n = (i : Int) ∧ i < L.length ∧ K (.adr (.recs s L) i)) : ∃ z q, K q ∧ VR w ob st η q z ∧ QAll P (Instr.indexAt t u (.int kk n)) z := by
  obtain ⟨i, hn, hi, hk⟩ := hk
  obtain ⟨b, c, hu, _, _, hc⟩ := hx
  obtain ⟨b, o, cs, rfl, hbad, hcl, hcell⟩ := hc i _ (List.getElem?_eq_getElem hi)
  subst hu hn
  refine ⟨_, _, hk, ⟨b, o + i * (s + 1), _, cs, rfl, List.getElem?_eq_getElem hi, hbad, hcl, hcell⟩, fun w' => ?_⟩
  rw [← hs]
  exact run_idx_slN ht hei hi w'

theorem aidx_sound (hΓ : TysOk P Γ) (h : SRep w0 ob st a w η) {t : Nat} {x y : AVal} {u v : Value} (hx : VR w ob st η x u) (hy : VR w ob st η y v) {K : AVal → Prop} (hk : aidx Γ st t x y K) :
    ∃ z q, K q ∧ VR w ob st η q z ∧ QAll P (Instr.indexAt t u v) z := by
  unfold aidx at hk
  split at hk
  case h_2 => exact hk.elim
  case h_1 kk n =>
    obtain ⟨rfl, _⟩ := hy
    split at hk
    case h_3 => exact hk.elim
    case h_1 e s1 s2 s3 hti =>
      have ht := (hΓ.at hti).desc
      simp only [TD.is] at ht
      split at hk
      case h_3 => exact hk.elim
      case h_2 d1 sz d2 d3 _ hei =>
        have hte := hΓ.at hei
        split at hk
        case h_2 => exact hk.elim
        case h_1 s L =>
          split at hk
          case h_2 => exact hk.elim
          case h_1 hsz => exact aidx_recs ht hte hx (Nat.eq_of_beq_eq_true hsz) hk
      case h_1 d1 d2 d3 hei =>
        have hte := hΓ.at hei
        have fin : ∀ {b o n' c i : Nat}, n = (i : Int) → i < n' → QAll P (Instr.indexAt t (.slice (some ⟨b, o, none⟩) n' c) (.int kk n)) (.pointer (some ⟨b, o + i, none⟩)) := by
          intro b o n' c i hn hi w'
          rw [hn]
          exact run_idx_sl ht hte rfl hi w'
        split at hk
        case h_1 k l =>
          obtain ⟨i, hn, hi, hk⟩ := hk
          obtain ⟨b, c, hu, _, _, hc⟩ := hx
          obtain ⟨b, o, rfl, hbad, hcl⟩ := hc i _ (List.getElem?_eq_getElem hi)
          subst hu
          exact ⟨_, _, hk, ⟨b, o + i, _, rfl, List.getElem?_eq_getElem hi, hbad, hcl⟩, fin hn hi⟩
        case h_2 m =>
          obtain ⟨i, hn, hi, hk⟩ := hk
          obtain ⟨b, c, hu, _, _, hc⟩ := hx
          obtain ⟨b, o, z, rfl, hbad, hcl, hs⟩ := hc i _ (List.getElem?_eq_getElem hi)
          subst hu
          exact ⟨_, _, hk, ⟨b, o + i, _, z, rfl, List.getElem?_eq_getElem hi, hbad, hcl, hs⟩, fin hn hi⟩
        case h_3 L => exact aidx_recs ht hte hx rfl hk
        case h_4 k =>
          simp only [VR, VRep] at hx
          have own : ∀ {e' n' i : Nat} {r : ARow} {xs : List Value}, look st.hp k = some r → w.ownsRow w0.B e' 1 (η.val k) n' xs → (η.cel k).length = n' → n = (i : Int) → i < n' → u = η.val k →
              VR w ob st η (.ptr k i) (.pointer (some ⟨(blk (η.val k)).headD 0, 0 + i, none⟩)) ∧ QAll P (Instr.indexAt t u (.int kk n)) (.pointer (some ⟨(blk (η.val k)).headD 0, 0 + i, none⟩)) := by
            intro e' n' i r xs hr ho hl hn hi hu
            rcases ho.2 with ⟨hv, h0⟩ | ⟨g, cap, cur, hv, _⟩
            · omega
            · rw [hu, hv]
              refine ⟨?_, by simpa [blk] using fin (b := g) (o := 0) (c := cap) hn hi⟩
              refine ⟨hx.1, fun r' hr' => ⟨by omega, g, by rw [hv]; simp [blk], by simp [blk]⟩⟩
          split at hk
          case h_1 e' kd l hr =>
            obtain ⟨i, hn, hi, hk⟩ := hk
            have hrow := h.heap.row k _ hr
            obtain ⟨_, hu⟩ := hx.2 _ hr
            obtain ⟨h1, h2⟩ := own hr hrow.1 (row_len hrow) hn hi hu
            exact ⟨_, _, hk, h1, h2⟩
          case h_2 e' e1 ub m hr =>
            obtain ⟨i, hn, hi, hk⟩ := hk
            have hrow := h.heap.row k _ hr
            obtain ⟨_, hu⟩ := hx.2 _ hr
            have ho : w.ownsRow w0.B e' 1 (η.val k) m.length (η.cel k) := by cases ub <;> exact hrow.1
            obtain ⟨h1, h2⟩ := own hr ho (row_len hrow) hn hi hu
            exact ⟨_, _, hk, h1, h2⟩
          case h_3 => exact hk.elim
        case h_5 k j =>
          split at hk
          case h_2 => exact hk.elim
          case h_1 e' e1 m hr =>
            obtain ⟨i, hn, hi, hk⟩ := hk
            simp only [VR, VRep] at hx
            have hrow := h.heap.row k _ hr
            obtain ⟨_, hcel⟩ := hx.2 _ hr
            obtain ⟨l, hl, ho⟩ := F2.at' hrow.2 hcel
            rw [getD_of hl] at hi
            rcases ho.2 with ⟨hv, h0⟩ | ⟨g, cap, cur, hv, _⟩
            · omega
            · subst hv
              refine ⟨_, _, hk, ⟨hx.1, fun r' hr' => ?_⟩, fin (b := g) (o := 0) (c := cap) hn hi⟩
              rw [hr] at hr'
              obtain rfl := Option.some.inj hr'
              exact ⟨rfl, g, l.length, cap, hcel, hi, by simp⟩
        case h_6 => exact hk.elim
    case h_2 len e s1 s2 s3 hti =>
      have ht := (hΓ.at hti).desc
      simp only [TD.is] at ht
      split at hk
      case h_2 => exact hk.elim
      case h_1 d1 sz d2 d3 hei =>
        have hte := hΓ.at hei
        have fin : ∀ {b o i : Nat}, n = (i : Int) → i < len → QAll P (Instr.indexAt t (.pointer (some ⟨b, o, none⟩)) (.int kk n)) (.pointer (some ⟨b, o + i * sz, none⟩)) := by
          intro b o i hn hi w'
          have h1 : (0 : Int) ≤ i ∧ (i : Int) < len := ⟨by omega, by omega⟩
          rw [hn]
          simp only [Instr.indexAt, run_underlying ht, asIntOf, Instr.sureAddr, Sem.run_bind, Sem.run_pure, Result.andThen_ok, h1]
          simp [Addr.add_lit, run_size hte]
        split at hk
        case h_1 k off =>
          split at hk
          case h_2 => exact hk.elim
          case h_1 e' l hr =>
            obtain ⟨i, hn, hi, ho, hk⟩ := hk
            simp only [VR, VRep] at hx
            obtain ⟨_, b, hb, rfl⟩ := hx.2 _ hr
            have hlen := row_len (h.heap.row k _ hr)
            refine ⟨_, _, hk, ⟨hx.1, fun r' hr' => ?_⟩, fin hn hi⟩
            rw [hr] at hr'
            obtain rfl := Option.some.inj hr'
            exact ⟨by simp only at hlen; omega, b, hb, rfl⟩
        case h_2 l off =>
          obtain ⟨i, hn, hi, ho, hk⟩ := hk
          obtain ⟨b, cs, rfl, hr, hc⟩ := hx
          exact ⟨_, _, hk, ⟨b, cs, rfl, hr, hc⟩, fin hn hi⟩
        case h_3 => exact hk.elim
end
end Go.Aw
