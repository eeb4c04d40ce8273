/- All quiet operations together. -/
import Derived.Test.YtpakfehinfcdoaaAw6
namespace Go.Aw
open Go.RowKit

section
variable {P : Program} {Γ : Tys} {w0 : Base} {w : World} {ob : Nat → Prop} {st : St} {a : Act} {η : Env}

theorem nth_map {α β : Type} (f : α → β) : ∀ (l : List α) (n : Nat), nth (l.map f) n = (nth l n).map f
  | [], _ => rfl
  | _ :: _, 0 => rfl
  | _ :: r, n + 1 => nth_map f r n

theorem struct_field {F : Array Field} {fs : List (Nat × Nat)} (hF : F.toList.map (fun f => (f.offset, f.type)) = fs) {f o ft : Nat} (h : nth fs f = some (o, ft)) :
    ∃ fd, F[f]? = some fd ∧ fd.offset = o ∧ fd.type = ft := by
  rw [← hF, nth_map, nth_eq] at h
  obtain ⟨fd, h1, h2⟩ := Option.map_eq_some_iff.1 h
  simp only [Prod.mk.injEq] at h2
  exact ⟨fd, by simpa using h1, h2.1, h2.2⟩

theorem run_faddr {s f o ft b off n : Nat} {fs : List (Nat × Nat)} {ti : TI} (hs : TD.is P s (.struct fs)) (hf : nth fs f = some (o, ft)) (ht : TyOk P ft ti) (hn : ti.size = n + 1) (w' : World) :
    (Instr.fieldAt s (.pointer (some ⟨b, off, none⟩)) f).run P w' = .ok (.pointer (some ⟨b, off + o, none⟩)) w' := by
  obtain ⟨F, hF, hm⟩ := hs
  obtain ⟨fd, h1, h2, h3⟩ := struct_field hm hf
  subst h2 h3
  simp [Instr.fieldAt, run_underlying hF, h1, Instr.sureAddr, fieldPlace, run_size ht, hn, Addr.add_lit]

theorem afaddr_sound (hΓ : TysOk P Γ) (h : SRep w0 ob st a w η) {s f : Nat} {x : AVal} {u : Value} (hx : VR w ob st η x u) {K : AVal → Prop} (hk : afaddr Γ st s x f K) :
    ∃ z q, K q ∧ VR w ob st η q z ∧ QAll P (Instr.fieldAt s u f) z := by
  unfold afaddr at hk
  split at hk
  case h_2 => exact hk.elim
  case h_1 fs s1 s2 s3 hs =>
    have hd := (hΓ.at hs).desc
    split at hk
    case h_2 => exact hk.elim
    case h_1 o ft hf =>
      split at hk
      case h_2 => exact hk.elim
      case h_1 d1 n d2 d3 hft =>
        have hrun := fun b off w' => run_faddr (P := P) (b := b) (off := off) hd hf (hΓ.at hft) (n := n) rfl w'
        split at hk
        case h_1 k off =>
          split at hk
          case h_2 => exact hk.elim
          case h_1 e l hr =>
            split at hk
            case h_2 => exact hk.elim
            case h_1 hlt =>
              have hlt' := Nat.le_of_ble_eq_true hlt
              simp only [VR, VRep] at hx
              obtain ⟨_, b, hb, rfl⟩ := hx.2 _ hr
              have hlen := row_len (h.heap.row k _ hr)
              refine ⟨_, _, hk, ⟨hx.1, fun r' hr' => ?_⟩, fun w' => hrun b off w'⟩
              rw [hr] at hr'
              obtain rfl := Option.some.inj hr'
              exact ⟨by simp only at hlen; omega, b, hb, rfl⟩
        case h_2 l off =>
          obtain ⟨b, cs, rfl, hr, hc⟩ := hx
          exact ⟨_, _, hk, ⟨b, cs, rfl, hr, hc⟩, fun w' => hrun b off w'⟩
        case h_3 => exact hk.elim

theorem run_part {t : Nat} {ti : TI} (ht : TyOk P t ti) {l : List AVal} {cs : List Value} {bad : Nat → Prop} {hp : List (Nat × ARow)} {nx o : Nat} (hr : VReps w bad hp nx η l cs) {K : AVal → Prop} (hk : acell ti l o K) :
    ∃ v x, K x ∧ VRep w bad hp nx η x v ∧ ∀ w' : World, (part t cs.toArray o).run P w' = .ok v w' := by
  unfold acell at hk
  cases ha : ti.d.agg with
  | true =>
    rw [ha] at hk
    cases hl : Nat.ble (o + ti.size) l.length with
    | false => rw [hl] at hk; exact hk.elim
    | true =>
      rw [hl] at hk
      refine ⟨_, _, hk, ⟨_, rfl, (hr.drop o).take ti.size⟩, fun w' => ?_⟩
      simp only [part, Sem.run_bind, run_isAgg ht, Result.andThen_ok, ha, if_true, run_size ht]
      simp [List.extract_eq_take_drop]
  | false =>
    rw [ha] at hk
    cases hn : nth l o with
    | none => rw [hn] at hk; exact hk.elim
    | some x =>
      rw [hn] at hk
      obtain ⟨v, hv, hx⟩ := hr.nth hn
      refine ⟨v, x, hk, hx, fun w' => ?_⟩
      simp only [part, Sem.run_bind, run_isAgg ht, Result.andThen_ok, ha, Bool.false_eq_true, if_false]
      simp [hv]

theorem afield_sound (hΓ : TysOk P Γ) {s f : Nat} {x : AVal} {u : Value} (hx : VR w ob st η x u) {K : AVal → Prop} (hk : afield Γ s x f K) :
    ∃ z q, K q ∧ VR w ob st η q z ∧ QOk P w (Instr.field s u f) z := by
  unfold afield at hk
  split at hk
  case h_2 => exact hk.elim
  case h_1 fs s1 s2 s3 hs =>
    have hd := (hΓ.at hs).desc
    obtain ⟨F, hF, hm⟩ := hd
    split at hk
    case h_2 => exact hk.elim
    case h_1 o ft hf =>
      obtain ⟨fd, h1, h2, h3⟩ := struct_field hm hf
      subst h2 h3
      split at hk
      case h_2 => exact hk.elim
      case h_1 ti hft =>
        split at hk
        case h_2 => exact hk.elim
        case h_1 l =>
          obtain ⟨cs, rfl, hr⟩ := hx
          obtain ⟨v, q, hq, hv, hrun⟩ := run_part (hΓ.at hft) hr hk
          refine ⟨v, q, hq, hv, fun w' _ => ?_⟩
          simp [Instr.field, run_underlying hF, h1, asAgg, hrun w']

theorem bind_some {α β : Type} {x : Option α} {f : α → Option β} {b : β} (h : x.bind f = some b) : ∃ a, x = some a ∧ f a = some b := by
  cases x with
  | none => cases h
  | some a => exact ⟨a, rfl, h⟩

theorem oAll_spec {α β : Type} {f : α → Option β} : ∀ {l : List α} {r : List β}, oAll f l = some r → l.mapM f = some r
  | [], r, h => by simp [oAll] at h; simp [h]
  | a :: l, r, h => by
    simp only [oAll] at h
    cases hf : f a with
    | none => simp [hf] at h
    | some b =>
      cases hl : oAll f l with
      | none => simp [hf, hl] at h
      | some s =>
        simp [hf, hl] at h
        subst h
        simp [List.mapM_cons, hf, oAll_spec hl]

theorem places_eq (hΓ : TysOk P Γ) : ∀ {F : List Field} {ps : List (Nat × Nat)}, oAll (aplace Γ) (F.map fun f => (f.offset, f.type)) = some ps →
    F.mapM (fun f => (P.info? f.type).map fun i => (f.offset, i.size)) = some ps
  | [], ps, h => by simp [oAll] at h; simp [h]
  | f :: F, ps, h => by
    simp only [List.map_cons, oAll, aplace] at h
    cases hl : look Γ f.type with
    | none => simp [hl] at h
    | some ti =>
      cases hr : oAll (aplace Γ) (F.map fun f => (f.offset, f.type)) with
      | none => simp [hl, hr] at h
      | some rest =>
        simp [hl, hr] at h
        subst h
        obtain ⟨i, z, h1, h2, _⟩ := (hΓ.at hl).info
        simp [List.mapM_cons, h1, h2, places_eq hΓ hr]

theorem one_cell {B : Nat} {hp : List (Nat × ARow)} {nx : Nat} (hh : HRep w B ob hp nx η) {x : AVal} {v : Value} (ho : one hp x = true) (hx : VRep w (badOf ob hp η) hp nx η x v) :
    v.oneCell' = true ∧ v.cells = #[v] := by
  have key : ∀ {v : Value}, v.oneCell' = true → v.oneCell' = true ∧ v.cells = #[v] := fun {v} h1 => ⟨h1, by cases v <;> first | rfl | (simp [Value.oneCell'] at h1)⟩
  have isk : ∀ k, isKey hp k = true → ∃ r, look hp k = some r := fun k hk => by
    unfold isKey at hk
    cases hr : look hp k with
    | none => rw [hr] at hk; cases hk
    | some r => exact ⟨r, rfl⟩
  cases x with
  | c y => obtain ⟨rfl, h1⟩ := hx; exact key h1
  | t tr => cases tr <;> (obtain ⟨_, _, rfl, _⟩ := hx; exact key rfl)
  | adr tr i => cases tr <;> (obtain ⟨_, _, _, h⟩ := hx) <;> first | (rw [h.1]; exact key rfl) | (obtain ⟨_, h, _⟩ := h; rw [h]; exact key rfl)
  | rp l o => obtain ⟨_, _, rfl, _⟩ := hx; exact key rfl
  | clo f l => obtain ⟨_, rfl, _⟩ := hx; exact key rfl
  | knot f l n => obtain ⟨_, _, rfl, _⟩ := hx; exact key rfl
  | nul => obtain ⟨_, rfl⟩ := hx; exact key rfl
  | un => cases ho
  | ag l => cases ho
  | tu l => cases ho
  | own k =>
    obtain ⟨r, hr⟩ := isk k ho
    obtain ⟨hk4, rfl⟩ := hx.2 r hr
    have hrow := hh.row k r hr
    match r, hk4 with
    | .ints _ _ _, _ => obtain ⟨b, c, hu⟩ := len_own hrow.1; rw [hu]; exact key rfl
    | .rows _ _ true _, _ => obtain ⟨b, c, hu⟩ := len_own hrow.1; rw [hu]; exact key rfl
    | .rows _ _ false _, _ => obtain ⟨b, c, hu⟩ := len_own hrow.1; rw [hu]; exact key rfl
    | .recs _ _ _, _ => obtain ⟨b, c, hu⟩ := len_own hrow.1; rw [hu]; exact key rfl
  | ptr k o =>
    obtain ⟨r, hr⟩ := isk k ho
    obtain ⟨_, b, _, rfl⟩ := hx.2 r hr
    exact key rfl
  | sub k i =>
    obtain ⟨r, hr⟩ := isk k ho
    obtain ⟨hk2, hc⟩ := hx.2 r hr
    have hrow := hh.row k r hr
    match r, hk2 with
    | .rows _ _ true _, _ =>
      obtain ⟨l, _, ho⟩ := F2.at' hrow.2 hc
      obtain ⟨b, c, hu⟩ := len_own ho
      rw [hu]; exact key rfl
  | subp k i j =>
    obtain ⟨r, hr⟩ := isk k ho
    obtain ⟨_, b, n, c, _, _, rfl⟩ := hx.2 r hr
    exact key rfl

theorem afill_sound {B : Nat} {hp : List (Nat × ARow)} {nx : Nat} (hh : HRep w B ob hp nx η) {ps : List (Nat × Nat)} : ∀ {r : List (Nat × AVal)} {l l' : List AVal} {cs : List Value} {vs : List (Nat × Value)}, VReps w (badOf ob hp η) hp nx η l cs →
    F2 (fun (p : Nat × AVal) (q : Nat × Value) => p.1 = q.1 ∧ VRep w (badOf ob hp η) hp nx η p.2 q.2) r vs → afill hp ps l r = some l' →
    ∃ cs' : List Value, Instr.fill (ps.toArray[·]?) cs.toArray vs = some cs'.toArray ∧ VReps w (badOf ob hp η) hp nx η l' cs'
  | [], l, l', cs, [], hl, _, h => by simp [afill] at h; subst h; exact ⟨cs, rfl, hl⟩
  | (i, x) :: r, l, l', cs, (j, v) :: vs, hl, hv, h => by
    obtain ⟨⟨hij, hxv⟩, hrest⟩ := hv
    simp only at hij hxv
    subst hij
    simp only [afill] at h
    split at h
    case h_2 => cases h
    case h_1 o hn =>
      split at h
      case h_2 => cases h
      case h_1 ho =>
        split at h
        case h_2 => cases h
        case h_1 hlt =>
          have hlt' := Nat.le_of_ble_eq_true hlt
          have hlen := VReps.length hl
          have hcells := (one_cell hh ho hxv).2
          obtain ⟨cs', h1, h2⟩ := afill_sound hh (hl.set o hxv) hrest h
          refine ⟨cs', ?_, h2⟩
          rw [nth_eq] at hn
          have hn' : ps.toArray[i]? = some (o, 1) := by simpa using hn
          simp only [Instr.fill, hn', hcells]
          simp
          exact ⟨by omega, by simpa using h1⟩
  | [], _, _, _, _ :: _, _, h, _ => h.elim
  | _ :: _, _, _, _, [], _, h, _ => h.elim

theorem afillA_sound {B : Nat} {hp : List (Nat × ARow)} {nx : Nat} (hh : HRep w B ob hp nx η) : ∀ {r : List (Nat × AVal)} {l l' : List AVal} {cs : List Value} {vs : List (Nat × Value)}, VReps w (badOf ob hp η) hp nx η l cs →
    F2 (fun (p : Nat × AVal) (q : Nat × Value) => p.1 = q.1 ∧ VRep w (badOf ob hp η) hp nx η p.2 q.2) r vs → afillA hp l r = some l' →
    ∃ cs' : List Value, Instr.fill (fun i => some (i * 1, 1)) cs.toArray vs = some cs'.toArray ∧ VReps w (badOf ob hp η) hp nx η l' cs'
  | [], l, l', cs, [], hl, _, h => by simp [afillA] at h; subst h; exact ⟨cs, rfl, hl⟩
  | (i, x) :: r, l, l', cs, (j, v) :: vs, hl, hv, h => by
    obtain ⟨⟨hij, hxv⟩, hrest⟩ := hv
    simp only at hij hxv
    subst hij
    simp only [afillA] at h
    split at h
    case h_2 => cases h
    case h_1 ho =>
      split at h
      case h_2 => cases h
      case h_1 hlt =>
        have hlt' := Nat.le_of_ble_eq_true hlt
        have hlen := VReps.length hl
        have hcells := (one_cell hh ho hxv).2
        obtain ⟨cs', h1, h2⟩ := afillA_sound hh (hl.set i hxv) hrest h
        refine ⟨cs', ?_, h2⟩
        simp only [Instr.fill, hcells]
        simp
        exact ⟨by omega, by simpa using h1⟩
  | [], _, _, _, _ :: _, _, h, _ => h.elim
  | _ :: _, _, _, _, [], _, h, _ => h.elim

theorem parts_sound (h : SRep w0 ob st a w η) : ∀ {l : List (Nat × Operand)} {y : List (Nat × AVal)}, parts st l = some y →
    F2 (fun (p : Nat × AVal) (q : Nat × Value) => p.1 = q.1 ∧ VR w ob st η p.2 q.2) y (l.map fun (i, x) => (i, a.eval x))
  | [], y, he => by simp only [parts, Option.some.injEq] at he; subst he; trivial
  | (i, x) :: r, y, he => by
    simp only [parts] at he
    cases hx : ev st x with
    | none => rw [hx] at he; simp at he
    | some z =>
      rw [hx] at he
      cases hr : parts st r with
      | none => rw [hr] at he; simp at he
      | some l =>
        rw [hr] at he
        simp only [Option.some.injEq] at he
        subst he
        exact ⟨⟨rfl, ev_sound h hx⟩, parts_sound h hr⟩

theorem abuild_sound (hΓ : TysOk P Γ) (h : SRep w0 ob st a w η) {t : Nat} {ps : Array (Nat × Operand)} {l : List (Nat × AVal)} (hp : parts st ps.toList = some l) {K : AVal → Prop} (hk : abuild Γ st t l K) :
    ∃ z q, K q ∧ VR w ob st η q z ∧ QOk P w (Instr.build t (ps.map fun (i, x) => (i, a.eval x))) z := by
  have zs : ∀ (zz : List Value), zz.all Value.oneCell' = true → VRs w ob st η (zz.map AVal.c) zz := by
    intro zz
    induction zz with
    | nil => intro _; trivial
    | cons y r ih =>
      intro hz
      simp only [List.all_cons, Bool.and_eq_true] at hz
      exact ⟨⟨rfl, hz.1⟩, ih hz.2⟩
  unfold abuild at hk
  split at hk
  case h_3 => exact hk.elim
  case h_2 len e s1 s2 zz hti =>
    split at hk
    case h_2 => exact hk.elim
    case h_1 d2 b2 z2 hte =>
      split at hk
      case h_2 => exact hk.elim
      case h_1 hz =>
        split at hk
        case h_2 => exact hk.elim
        case h_1 l' hl' =>
          have ht := hΓ.at hti
          have hF : P.underlying t = some (.array len e) := ht.desc
          obtain ⟨i, z, h1, h2, h3, h4, h5⟩ := ht.info
          obtain ⟨i2, _, g1, g2, _⟩ := (hΓ.at hte).info
          obtain ⟨cs', hf, hr⟩ := afillA_sound h.heap (zs zz hz) (parts_sound h hp) hl'
          refine ⟨.agg cs'.toArray, _, hk, ⟨cs', rfl, hr⟩, fun w' _ => ?_⟩
          refine run_build w' t _ _ ?_
          simp only [Program.built, h1, hF, h4, g1, g2, h5]
          simpa using hf
  case h_1 fs s1 s2 zz hti =>
    split at hk
    case h_2 => exact hk.elim
    case h_1 pl hpl =>
      split at hk
      case h_2 => exact hk.elim
      case h_1 hz =>
        split at hk
        case h_2 => exact hk.elim
        case h_1 l' hl' =>
          have ht := hΓ.at hti
          obtain ⟨F, hF, hm⟩ := ht.desc
          obtain ⟨i, z, h1, h2, h3, h4, h5⟩ := ht.info
          have hzr : VRs w ob st η (zz.map AVal.c) zz := by
            have : ∀ (zz : List Value), zz.all Value.oneCell' = true → VRs w ob st η (zz.map AVal.c) zz := by
              intro zz
              induction zz with
              | nil => intro _; trivial
              | cons y r ih =>
                intro hz
                simp only [List.all_cons, Bool.and_eq_true] at hz
                exact ⟨⟨rfl, hz.1⟩, ih hz.2⟩
            exact this zz hz
          obtain ⟨cs', hf, hr⟩ := afill_sound h.heap hzr (parts_sound h hp) hl'
          refine ⟨.agg cs'.toArray, _, hk, ⟨cs', rfl, hr⟩, fun w' _ => ?_⟩
          refine run_build w' t _ _ ?_
          rw [← hm] at hpl
          have hpl' := places_eq hΓ hpl
          simp only [Program.built, h1, hF, h4, hpl', h5]
          simpa using hf
end
end Go.Aw
