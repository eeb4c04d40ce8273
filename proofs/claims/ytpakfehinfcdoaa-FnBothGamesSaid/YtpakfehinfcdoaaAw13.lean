/- All operations that make or write memory. -/
import Derived.Test.YtpakfehinfcdoaaAw12
namespace Go.Aw
open Go.RowKit

section
variable {P : Program} {Γ : Tys} {w0 : Base} {w w' : World} {ob : Nat → Prop} {st : St} {a : Act} {η : Env}

theorem made_eq (zv : Value) (n : Nat) : madeCells #[zv] n = (List.replicate n zv).toArray := init_cells zv n

theorem SRep.adopt (h : SRep w0 ob st a w η) {r : ARow} (hr : ∀ bad hp nx (η' : Env) k, η'.val k = .slice none 0 0 → η'.cel k = [] → RowRep w w0.B bad hp nx η' k r) (hk : r.kind < 4) :
    ∃ η', SRep w0 ob (st.new r) a w η' ∧ VR w ob (st.new r) η' (.own st.nx) (.slice none 0 0) := by
  have hs := h.newRow (r := r) (v := .slice none 0 0) (cs := []) (w' := w) (hp1 := st.hp) (fun _ _ h => h) (Below.refl _ _)
    (by simp [bsOf, upd_val, upd_cel, blk]) (fun b hb => by simp [bsOf, upd_val, upd_cel, blk] at hb) (fun _ => hr _ _ _ _ _ (upd_val _ _ _ _) (upd_cel _ _ _ _))
  refine ⟨_, hs, by simp only [St.new]; omega, fun r' hr' => ?_⟩
  simp only [St.new, look_cons, if_true, Option.some.injEq] at hr'
  subst hr'
  exact ⟨hk, by rw [upd_val]⟩

theorem aappendN_sound (hΓ : TysOk P Γ) (h : SRep w0 ob st a w η) {t ty : Nat} {x y : AVal} {u : Value} {o : Operand} (hx : VR w ob st η x u) (hy : ev st o = some y) {K : AVal → St → Prop} (hk : aappendN Γ st t x y K) :
    ∃ v q st' w' η', K q st' ∧ st'.sz = st.sz ∧ SRep w0 ob st' a w' η' ∧ VR w' ob st' η' q v ∧ (Builtin.append_ #[t, t] ty #[u, a.eval o]).run P w = .ok v w' := by
  have nil : ∀ (e : Nat) (w : World), w.ownsRow w0.B e 1 (.slice none 0 0) 0 [] := fun _ _ => ⟨rfl, .inl ⟨rfl, rfl⟩⟩
  have hev : ∀ r, ev (st.new r) o = some y := fun r => by cases o <;> exact hy
  unfold aappendN at hk
  split at hk
  case h_1 =>
    obtain ⟨rfl, _⟩ := hx
    split at hk
    case h_2 => exact hk.elim
    case h_1 e s1 s2 s3 hs =>
      split at hk
      case h_3 => exact hk.elim
      case h_1 k _ _ _ he =>
        obtain ⟨η', h', hv⟩ := h.adopt (r := .ints e k []) (fun bad hp nx η' j h1 h2 => ⟨by rw [OwnInts, h1]; exact nil _ _, by rw [h2]; rfl⟩) (by simp [ARow.kind])
        obtain ⟨v, q, st', w', η2, g1, g2, g3, g4, g5⟩ := aappend_sound (ty := ty) hΓ h' hv (ev_sound h' (hev _)) hk
        exact ⟨v, q, st', w', η2, g1, g2, g3, g4, g5⟩
      case h_2 e1 _ _ _ he =>
        obtain ⟨η', h', hv⟩ := h.adopt (r := .rows e e1 (ownRows st y) []) (fun bad hp nx η' j h1 h2 => by
          cases ownRows st y with
          | true => exact ⟨by rw [h1, h2]; exact nil _ _, by rw [h2]; trivial⟩
          | false => exact ⟨by rw [h1, h2]; exact nil _ _, by rw [h2]; trivial⟩) (by cases ownRows st y <;> simp [ARow.kind])
        obtain ⟨v, q, st', w', η2, g1, g2, g3, g4, g5⟩ := aappend_sound (ty := ty) hΓ h' hv (ev_sound h' (hev _)) hk
        exact ⟨v, q, st', w', η2, g1, g2, g3, g4, g5⟩
  case h_2 =>
    obtain ⟨ba, rfl⟩ := hx
    split at hk
    case h_2 => exact hk.elim
    case h_1 e s1 s2 s3 hti =>
      have ht := (hΓ.at hti).desc
      simp only [TD.is] at ht
      split at hk
      case h_2 => exact hk.elim
      case h_1 d1 by_ zv hei =>
        have hte := hΓ.at hei
        split at hk
        case h_2 => exact hk.elim
        case h_1 hby =>
          have hby' := Nat.le_of_ble_eq_true hby
          split at hk
          case h_2 => exact hk.elim
          case h_1 l =>
            have hsrc := Src.ints (ev_sound h hy)
            by_cases hl : l = []
            · have hrun := (run_append_nul (B := w0.B) (ty := ty) (ba := ba) ht hte rfl hby' rfl hsrc (by subst hl; simp) (wB h)).1 (by subst hl; rfl)
              exact ⟨_, _, st, w, η, hk.1 hl, rfl, h, ⟨ba, rfl⟩, hrun⟩
            · obtain ⟨hr, hk⟩ := hk.2 hl
              have hne : l.length ≠ 0 := fun h0 => hl (List.eq_nil_of_length_eq_zero h0)
              obtain ⟨c, w', hrun, hown, hB⟩ := (run_append_nul (B := w0.B) (ty := ty) (ba := ba) ht hte rfl hby' rfl hsrc hr (wB h)).2 hne
              have hs := h.newRow (r := .ints e .i64 l) (v := .slice (some ⟨w.heap.size, 0, none⟩) l.length c) (cs := l.map (Value.int .i64)) (w' := w') (hp1 := st.hp)
                (fun _ _ h => h) hB (by simp [bsOf, upd_val, ARow.kind, blk]) (fun b hb => by simp [bsOf, upd_val, ARow.kind, blk] at hb; exact .inr (by omega))
                (fun _ => ⟨by rw [upd_val]; exact hown, upd_cel _ _ _ _⟩)
              refine ⟨_, _, _, w', _, hk, rfl, hs, ⟨by simp only [St.new]; omega, fun r hr => ?_⟩, hrun⟩
              simp only [St.new, look_cons, if_true, Option.some.injEq] at hr
              subst hr
              exact ⟨by simp [ARow.kind], by rw [upd_val]⟩
  case h_3 => exact aappend_sound (ty := ty) hΓ h hx (ev_sound h hy) hk

theorem amake_sound (hΓ : TysOk P Γ) (h : SRep w0 ob st a w η) {t : Nat} {x y : AVal} {u v : Value} (hx : VR w ob st η x u) (hy : VR w ob st η y v) {K : AVal → St → Prop} (hk : amake Γ st t x y K) :
    ∃ z q st' w' η', K q st' ∧ st'.sz = st.sz ∧ SRep w0 ob st' a w' η' ∧ VR w' ob st' η' q z ∧ (Instr.makeSlice t u v).run P w = .ok z w' ∧ Below w.heap.size w w' := by
  unfold amake at hk
  split at hk
  case h_2 => exact hk.elim
  case h_1 na =>
    split at hk
    case h_2 => exact hk.elim
    case h_1 nb =>
      obtain ⟨rfl, _⟩ := hx
      obtain ⟨rfl, _⟩ := hy
      split at hk
      case h_2 => exact hk.elim
      case h_1 e s1 s2 s3 hti =>
        have ht := (hΓ.at hti).desc
        simp only [TD.is] at ht
        have gen : ∀ {zv : Value} {n : Nat} {ti : TI}, TyOk P e ti → ti.size = 1 → ti.zero = [zv] → ti.bytes ≤ 64 → n ≤ room →
            (Instr.makeSlice t (.int .i64 (n : Int)) (.int .i64 (n : Int))).run P w = .ok (.slice (some ⟨w.heap.size, 0, none⟩) n n) (w.alloc (.cells (List.replicate n zv).toArray e)) := by
          intro zv n ti hte hs hz hb hn
          obtain ⟨i, z, g1, g2, g3, g4, g5, _⟩ := run_typeInfo hte
          have hn' : n ≤ 1099511627776 := hn
          have hb2 : (i.bytes : Int) * (n : Int) ≤ 281474976710656 := by
            have : i.bytes * n ≤ 64 * 1099511627776 := Nat.mul_le_mul (by rw [g3]; exact hb) hn'
            have h2 : ((i.bytes * n : Nat) : Int) ≤ 281474976710656 := by omega
            rwa [Int.natCast_mul] at h2
          have := run_make (P := P) w t e i z ht g1 g4 .i64 .i64 n n (by omega) (Int.le_refl _) hb2 (by omega)
          rw [g5, hz] at this
          have hsz : i.size = 1 := by rw [g2, hs]
          rw [hsz, Nat.mul_one] at this
          simp only [Int.toNat_natCast] at this
          rw [this, made_eq]
        split at hk
        case h_3 => exact hk.elim
        case h_1 k by_ k2 hei =>
          split at hk
          case h_2 => exact hk.elim
          case h_1 hq =>
            have := keq_spec hq
            subst this
            split at hk
            case h_2 => exact hk.elim
            case h_1 hby =>
              obtain ⟨n, rfl, rfl, hn, hk⟩ := hk
              have hn' : n ≤ 1099511627776 := hn
              have hrun := gen (hΓ.at hei) rfl rfl (Nat.le_of_ble_eq_true hby) hn
              obtain ⟨η', hs, hv⟩ := h.newInts (e := e) (k := k) (l := List.replicate n 0) (by simp; unfold maxLen; omega)
              simp only [List.map_replicate, List.length_replicate] at hs hv
              exact ⟨_, _, _, _, η', hk, rfl, hs, hv, hrun, below_alloc _ _⟩
        case h_2 e1 by_ hei =>
          split at hk
          case h_2 => exact hk.elim
          case h_1 hby =>
            obtain ⟨n, rfl, rfl, hn, hk⟩ := hk
            have hn' : n ≤ 1099511627776 := hn
            have hrun := gen (hΓ.at hei) rfl rfl (Nat.le_of_ble_eq_true hby) hn
            have hfl : (List.replicate n (Value.slice none 0 0)).flatMap blk = [] := by simp [blk]
            obtain ⟨η', hs, hv⟩ := h.newRows (hp1 := st.hp) (fun _ _ h => h) (e := e) (e1 := e1) (m := List.replicate n []) (cs := List.replicate n (.slice none 0 0)) (by simp; unfold maxLen; omega)
              (F2.intro (by simp) (fun i l u h1 h2 => by
                rw [List.getElem?_replicate] at h1 h2
                split at h1
                · simp only [Option.some.injEq] at h1
                  rw [if_pos ‹_›] at h2
                  simp only [Option.some.injEq] at h2
                  subst h1 h2
                  exact World.ownsRow_nil w w0.B e1 1
                · cases h1)) (by rw [hfl]; exact List.nodup_nil) (fun b hb => by rw [hfl] at hb; simp at hb)
            simp only [List.length_replicate] at hv
            exact ⟨_, _, _, _, η', hk, rfl, hs, hv, hrun, below_alloc _ _⟩

theorem zero_reps {bad : Nat → Prop} {hp : List (Nat × ARow)} {nx : Nat} : ∀ {zz : List Value}, zz.all Value.oneCell' = true → VReps w bad hp nx η (zz.map AVal.c) zz
  | [], _ => trivial
  | y :: r, hz => by
    simp only [List.all_cons, Bool.and_eq_true] at hz
    exact ⟨⟨rfl, hz.1⟩, zero_reps hz.2⟩

theorem an_sound (hΓ : TysOk P Γ) (h : SRep w0 ob st a w η) {o : Oper} {K : AVal → St → Prop} (hk : an Γ st o K) : ANOut P w0 ob st a w o K := by
  unfold an at hk
  obtain ⟨dst, op, type, pos, after, guard⟩ := o
  simp only at hk
  split at hk
  case h_1 e =>
    cases hti : look Γ e with
    | none => rw [hti] at hk; exact hk.elim
    | some ti =>
      rw [hti] at hk
      simp only at hk
      split at hk
      case h_2 => exact hk.elim
      case h_1 hz =>
        split at hk
        case h_1 => exact hk.elim
        case h_2 z0 zr hzl =>
          obtain ⟨i, z, g1, g2, g3, g4, g5, g6, g7, g8⟩ := run_typeInfo (hΓ.at hti)
          obtain ⟨η', hs, hv⟩ := h.newCells (e := e) (zero_reps hz) (by rw [hzl]; simp)
          refine ⟨_, _, _, _, η', hk, rfl, hs, hv, .inl ?_, fun _ => below_alloc _ _⟩
          simp [execOp, Instr.alloc, g8, newVar, newRow, g5]
  case h_2 e x =>
    cases hti : look Γ e with
    | none => rw [hti] at hk; exact hk.elim
    | some ti =>
      rw [hti] at hk
      simp only at hk
      split at hk
      case h_1 l hx =>
        split at hk
        case h_1 => exact hk.elim
        case h_2 q0 qr =>
          obtain ⟨cs, he, hr⟩ := ev_sound h hx
          obtain ⟨η', hs, hv⟩ := h.newCells (e := e) hr (by simp)
          exact ⟨_, _, _, _, η', hk, rfl, hs, hv, .inl (by simp [execOp, Instr.box, newVar, newRow, he, Value.cells]), fun _ => below_alloc _ _⟩
      case h_2 y _ hx =>
        split at hk
        case h_2 => exact hk.elim
        case h_1 hone =>
          have hy := ev_sound h hx
          obtain ⟨h1, h2⟩ := one_cell h.heap hone hy
          obtain ⟨η', hs, hv⟩ := h.newCells (e := e) (l := [y]) (cs := [a.eval x]) ⟨hy, trivial⟩ (by simp)
          exact ⟨_, _, _, _, η', hk, rfl, hs, hv, .inl (by simp [execOp, Instr.box, newVar, newRow, h2]), fun _ => below_alloc _ _⟩
      case h_3 => exact hk.elim
  case h_3 t len ps =>
    cases hp : parts st ps.toList with
    | none => rw [hp] at hk; exact hk.elim
    | some l =>
      rw [hp] at hk
      have hps := parts_sound h hp
      obtain ⟨v, x, st', w', η', g1, g2, g3, g4, g5, g6⟩ := abuildSlice_sound hΓ h (vs := ps.map fun (i, x) => (i, a.eval x)) (by simpa using hps) hk
      exact ⟨v, x, st', w', η', g1, g2, g3, g4, .inl (by simp [execOp, g5]), fun _ => g6⟩
  case h_4 t x y =>
    cases hx : ev st x with
    | none => rw [hx] at hk; exact hk.elim
    | some p =>
      rw [hx] at hk
      cases hy : ev st y with
      | none => rw [hy] at hk; exact hk.elim
      | some q =>
        rw [hy] at hk
        obtain ⟨st', w', η', g1, g2, g3, g4⟩ := astore_sound hΓ h (ev_sound h hx) (ev_sound h hy) hk
        exact ⟨undef, .un, st', w', η', g1, g2, g3, trivial, .inr ⟨by simp [execOp, g4], rfl⟩, fun hf => by cases hf⟩
  case h_5 t x y =>
    cases hx : ev st x with
    | none => rw [hx] at hk; exact hk.elim
    | some p =>
      rw [hx] at hk
      cases hy : ev st y with
      | none => rw [hy] at hk; exact hk.elim
      | some q =>
        rw [hy] at hk
        obtain ⟨z, q', st', w', η', g1, g2, g3, g4, g5, g6⟩ := amake_sound hΓ h (ev_sound h hx) (ev_sound h hy) hk
        exact ⟨z, q', st', w', η', g1, g2, g3, g4, .inl (by simp [execOp, g5]), fun _ => g6⟩
  case h_6 args tys =>
    split at hk
    case h_2 => exact hk.elim
    case h_1 x y hargs =>
      split at hk
      case h_2 => exact hk.elim
      case h_1 t t' htys =>
        split at hk
        case h_2 => exact hk.elim
        case h_1 htt =>
          have := Nat.eq_of_beq_eq_true htt
          subst this
          cases hx : ev st x with
          | none => rw [hx] at hk; exact hk.elim
          | some p =>
            rw [hx] at hk
            cases hy : ev st y with
            | none => rw [hy] at hk; exact hk.elim
            | some q =>
              rw [hy] at hk
              obtain ⟨al⟩ := args
              obtain ⟨tl⟩ := tys
              simp only at hargs htys
              subst hargs htys
              obtain ⟨v, q', st', w', η', g1, g2, g3, g4, g5⟩ := aappendN_sound (ty := type) hΓ h (ev_sound h hx) hy hk
              exact ⟨v, q', st', w', η', g1, g2, g3, g4, .inl (by simp [execOp, resolve, invoke, builtin, g5]), fun hf => by cases hf⟩
  case h_7 => exact hk.elim
end
end Go.Aw
