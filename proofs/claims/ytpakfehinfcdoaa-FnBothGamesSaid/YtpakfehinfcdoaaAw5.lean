/- The quiet operations: what the reckoning says of them holds in the model. -/
import Derived.Test.YtpakfehinfcdoaaAw4
namespace Go.Aw
open Go.RowKit

section
variable {P : Program} {Γ : Tys} {t : Nat} {ti : TI} {w w' : World}

theorem run_isAgg (h : TyOk P t ti) : (isAgg t).run P w = .ok ti.d.agg w := by
  have hd := h.desc
  cases hdd : ti.d <;> rw [hdd] at hd <;> simp only [TD.is] at hd
  case struct fs => obtain ⟨F, hF, _⟩ := hd; simp [isAgg, run_underlying hF, TD.agg]
  case other =>
    obtain ⟨d, hF, hn⟩ := hd
    simp only [isAgg, Sem.run_bind, run_underlying hF, Result.andThen_ok, TD.agg]
    cases d <;> simp at hn ⊢
  all_goals simp [isAgg, run_underlying hd, TD.agg]

theorem run_typeInfo (h : TyOk P t ti) : ∃ i z, P.info? t = some i ∧ i.size = ti.size ∧ i.bytes = ti.bytes ∧ i.zero = some z ∧ z.cells = ti.zero.toArray ∧
    (∀ w, (typeInfo t).run P w = .ok i w) ∧ (∀ w, (sizeOf t).run P w = .ok ti.size w) ∧ (∀ w, (zeroValue t).run P w = .ok z w) := by
  obtain ⟨i, z, h1, h2, h3, h4, h5⟩ := h.info
  refine ⟨i, z, h1, h2, h3, h4, h5, fun w => ?_, fun w => ?_, fun w => ?_⟩
  · simp [typeInfo, h1]
  · simp [sizeOf, typeInfo, h1, h2]
  · simp [zeroValue, typeInfo, h1, h4]

theorem run_size (h : TyOk P t ti) (w : World) : (sizeOf t).run P w = .ok ti.size w := by
  obtain ⟨_, _, _, _, _, _, _, _, h, _⟩ := run_typeInfo h
  exact h w

theorem run_loadVar1 (h : TyOk P t ti) (ha : ti.d.agg = false) {a : Addr} {v : Value} (hc : w.cell? a = some v) : (loadVar t a).run P w = .ok v w := by
  simp only [loadVar, Sem.run_bind, run_isAgg h, Result.andThen_ok, ha, Bool.false_eq_true, if_false]
  simp [load, Sem.run, hc]

theorem run_loadVarN (h : TyOk P t ti) (ha : ti.d.agg = true) {a : Addr} {cs : List Value} (hl : cs.length = ti.size) (hc : ∀ j v, cs[j]? = some v → w.cell? (a.add j) = some v) :
    (loadVar t a).run P w = .ok (.agg cs.toArray) w := by
  simp only [loadVar, Sem.run_bind, run_isAgg h, Result.andThen_ok, ha, if_true, run_size h]
  rw [← hl, run_loadCells_list w a cs hc]
  rfl

theorem run_loadAt (a : Addr) : (Instr.loadAt t (.pointer (some a))).run P w = (loadVar t a).run P w := by
  simp [Instr.loadAt, Instr.sureAddr]
end

section
variable {P : Program} {Γ : Tys} {w0 : Base} {w : World} {ob : Nat → Prop} {st : St} {a : Act} {η : Env}

abbrev VR (w : World) (ob : Nat → Prop) (st : St) (η : Env) (x : AVal) (v : Value) : Prop := VRep w (badOf ob st.hp η) st.hp st.nx η x v
abbrev VRs (w : World) (ob : Nat → Prop) (st : St) (η : Env) (x : List AVal) (v : List Value) : Prop := VReps w (badOf ob st.hp η) st.hp st.nx η x v

theorem ev_sound (h : SRep w0 ob st a w η) {x : Operand} {y : AVal} (he : ev st x = some y) : VR w ob st η y (a.eval x) := by
  cases x with
  | tmp i => exact h.tmp he
  | const v =>
    simp only [ev] at he
    cases hv : v.oneCell' with
    | true => rw [hv] at he; simp only [Option.some.injEq] at he; subst he; exact ⟨rfl, hv⟩
    | false => rw [hv] at he; simp at he
  | global g => simp [ev] at he
  | func f =>
    simp only [ev, Option.some.injEq] at he
    subst he
    exact ⟨[], rfl, trivial⟩

theorem evs_sound (h : SRep w0 ob st a w η) : ∀ {l : List Operand} {y : List AVal}, evs st l = some y → VRs w ob st η y (l.map a.eval)
  | [], y, he => by simp only [evs, Option.some.injEq] at he; subst he; trivial
  | x :: r, y, he => by
    simp only [evs] at he
    cases hx : ev st x with
    | none => rw [hx] at he; simp at he
    | some z =>
      rw [hx] at he
      cases hr : evs st r with
      | none => rw [hr] at he; simp at he
      | some l =>
        rw [hr] at he
        simp only [Option.some.injEq] at he
        subst he
        exact ⟨ev_sound h hx, evs_sound h hr⟩

theorem VReps.nth {w : World} {bad : Nat → Prop} {hp : List (Nat × ARow)} {nx : Nat} {η : Env} : ∀ {l : List AVal} {vs : List Value}, VReps w bad hp nx η l vs → ∀ {i : Nat} {x : AVal}, nth l i = some x → ∃ v, vs[i]? = some v ∧ VRep w bad hp nx η x v
  | [], [], _, i, x, hi => by simp [Go.Aw.nth] at hi
  | y :: l, v :: vs, h, 0, x, hi => by simp [Go.Aw.nth] at hi; subst hi; exact ⟨v, by simp, h.1⟩
  | y :: l, v :: vs, h, i + 1, x, hi => by simp [Go.Aw.nth] at hi; simpa using VReps.nth h.2 hi
  | [], _ :: _, h, _, _, _ => h.elim
  | _ :: _, [], h, _, _, _ => h.elim

theorem VReps.length {w : World} {bad : Nat → Prop} {hp : List (Nat × ARow)} {nx : Nat} {η : Env} : ∀ {l : List AVal} {vs : List Value}, VReps w bad hp nx η l vs → l.length = vs.length
  | [], [], _ => rfl
  | _ :: _, _ :: _, h => by simp [VReps.length h.2]
  | [], _ :: _, h => h.elim
  | _ :: _, [], h => h.elim

theorem VReps.drop {w : World} {bad : Nat → Prop} {hp : List (Nat × ARow)} {nx : Nat} {η : Env} : ∀ {l : List AVal} {vs : List Value}, VReps w bad hp nx η l vs → ∀ (n : Nat), VReps w bad hp nx η (l.drop n) (vs.drop n)
  | [], [], _, n => by simp [VReps]
  | _ :: _, _ :: _, h, 0 => h
  | _ :: _, _ :: _, h, n + 1 => VReps.drop h.2 n
  | [], _ :: _, h, _ => h.elim
  | _ :: _, [], h, _ => h.elim

theorem VReps.take {w : World} {bad : Nat → Prop} {hp : List (Nat × ARow)} {nx : Nat} {η : Env} : ∀ {l : List AVal} {vs : List Value}, VReps w bad hp nx η l vs → ∀ (n : Nat), VReps w bad hp nx η (l.take n) (vs.take n)
  | [], [], _, n => by simp [VReps]
  | _ :: _, _ :: _, h, 0 => trivial
  | _ :: _, _ :: _, h, n + 1 => ⟨h.1, VReps.take h.2 n⟩
  | [], _ :: _, h, _ => h.elim
  | _ :: _, [], h, _ => h.elim

theorem VReps.append {w : World} {bad : Nat → Prop} {hp : List (Nat × ARow)} {nx : Nat} {η : Env} : ∀ {l : List AVal} {vs : List Value} {l' : List AVal} {vs' : List Value}, VReps w bad hp nx η l vs → VReps w bad hp nx η l' vs' → VReps w bad hp nx η (l ++ l') (vs ++ vs')
  | [], [], _, _, _, h => h
  | _ :: _, _ :: _, _, _, h, h' => ⟨h.1, VReps.append h.2 h'⟩
  | [], _ :: _, _, _, h, _ => h.elim
  | _ :: _, [], _, _, h, _ => h.elim

theorem VReps.set {w : World} {bad : Nat → Prop} {hp : List (Nat × ARow)} {nx : Nat} {η : Env} : ∀ {l : List AVal} {vs : List Value}, VReps w bad hp nx η l vs → ∀ {x : AVal} {v : Value} (n : Nat), VRep w bad hp nx η x v → VReps w bad hp nx η (l.set n x) (vs.set n v)
  | [], [], _, _, _, n, _ => by simp [VReps]
  | _ :: _, _ :: _, h, _, _, 0, hx => ⟨hx, h.2⟩
  | _ :: _, _ :: _, h, _, _, n + 1, hx => ⟨h.1, VReps.set h.2 n hx⟩
  | [], _ :: _, h, _, _, _, _ => h.elim
  | _ :: _, [], h, _, _, _, _ => h.elim

/-- the first element of a row: where its cells lie -/
theorem own_ptr {B e n sz : Nat} {v : Value} {xs : List Value} (h : w.ownsRow B e sz v n xs) {b i : Nat} (hb : blk v = [b]) {u : Value} (hi : xs[i]? = some u) : w.cell? ⟨b, i, none⟩ = some u := by
  rcases h.2 with ⟨rfl, _⟩ | ⟨g, cap, cur, rfl, hg, hh, r⟩
  · simp [blk] at hb
  · simp [blk] at hb; subst hb
    have := World.ownsRow.cells h (g := g) rfl i u hi
    simpa [Addr.add_lit] using this

/-- the cells of row k -/
theorem row_cell {B : Nat} {bad : Nat → Prop} {hp : List (Nat × ARow)} {nx k : Nat} {r : ARow} (h : RowRep w B bad hp nx η k r) {b i : Nat} (hb : blk (η.val k) = [b]) {u : Value} (hi : (η.cel k)[i]? = some u) :
    w.cell? ⟨b, i, none⟩ = some u := by
  match r with
  | .ints e kd l => exact own_ptr h.1 hb (by rw [← h.2]; exact hi)
  | .rows e e1 true m => exact own_ptr h.1 hb hi
  | .rows e e1 false m => exact own_ptr h.1 hb hi
  | .cells e l =>
    obtain ⟨b', h1, h2, h3, h4⟩ := h
    rw [h1] at hb; simp [blk] at hb; subst hb
    rw [cell_of_row w b' i _ _ _ h3]; simpa using hi
  | .recs e s L => exact own_ptr h.1 hb hi

theorem row_len {B : Nat} {bad : Nat → Prop} {hp : List (Nat × ARow)} {nx k : Nat} : ∀ {r : ARow}, RowRep w B bad hp nx η k r →
    (η.cel k).length = match r with | .ints _ _ l => l.length | .rows _ _ _ m => m.length | .cells _ l => l.length | .recs _ s L => L.length * (s + 1)
  | .ints e kd l, h => by rw [h.2]; simp
  | .rows e e1 true m, h => (F2.length h.2).symm
  | .rows e e1 false m, h => (F2.length h.2).symm
  | .cells e l, h => by obtain ⟨_, _, _, _, h4⟩ := h; exact (VReps.length h4).symm
  | .recs e s L, h => h.1.1

/-- in every world at all -/
def QAll (P : Program) (s : Sem Value) (v : Value) : Prop := ∀ w', s.run P w' = .ok v w'
def QOk (P : Program) (w : World) (s : Sem Value) (v : Value) : Prop := ∀ w', Below w.heap.size w w' → s.run P w' = .ok v w'

theorem cell_below {w w' : World} (hb : Below w.heap.size w w') {b o : Nat} {x : Value} (h : w.cell? ⟨b, o, none⟩ = some x) : w'.cell? ⟨b, o, none⟩ = some x := by
  rw [hb.cell (p := ⟨b, o, none⟩) (cell_lt h)]; exact h

theorem acell_sound {ti : TI} {t : Nat} (ht : TyOk P t ti) {bad : Nat → Prop} {hp : List (Nat × ARow)} {nx : Nat} {l : List AVal} {cs : List Value} (hr : VReps w bad hp nx η l cs) {b off : Nat}
    (hc : ∀ i u, cs[i]? = some u → w.cell? ⟨b, i, none⟩ = some u) {K : AVal → Prop} (hk : acell ti l off K) :
    ∃ v x, K x ∧ VRep w bad hp nx η x v ∧ QOk P w (Instr.loadAt t (.pointer (some ⟨b, off, none⟩))) v := by
  unfold acell at hk
  cases ha : ti.d.agg with
  | true =>
    rw [ha] at hk
    cases hl : Nat.ble (off + ti.size) l.length with
    | false => rw [hl] at hk; exact hk.elim
    | true =>
      rw [hl] at hk
      have hle := Nat.le_of_ble_eq_true hl
      have hlen := VReps.length hr
      refine ⟨.agg ((cs.drop off).take ti.size).toArray, _, hk, ⟨_, rfl, (hr.drop off).take ti.size⟩, fun w' hb => ?_⟩
      rw [run_loadAt]
      refine run_loadVarN ht ha (by simp; omega) (fun j v hj => ?_)
      rw [Addr.add_lit]
      have hj' : cs[off + j]? = some v := by
        rw [List.getElem?_take] at hj
        split at hj
        · rw [List.getElem?_drop] at hj; exact hj
        · cases hj
      exact cell_below hb (hc _ _ hj')
  | false =>
    rw [ha] at hk
    cases hn : nth l off with
    | none => rw [hn] at hk; exact hk.elim
    | some x =>
      rw [hn] at hk
      obtain ⟨v, hv, hx⟩ := hr.nth hn
      refine ⟨v, x, hk, hx, fun w' hb => ?_⟩
      rw [run_loadAt]
      exact run_loadVar1 ht ha (cell_below hb (hc _ _ hv))

theorem getD_of {α : Type} {l : List α} {i : Nat} {x d : α} (h : l[i]? = some x) : l.getD i d = x := by simp [List.getD, h]

theorem recA_rep {bad : Nat → Prop} {hp : List (Nat × ARow)} {nx : Nat} {r : List Int × List (List Int)} {u : Value} (hu : SRows w bad r.2 u) : ∀ (s j : Nat), j + s = r.1.length →
    VReps w bad hp nx η (recA r s j) ((r.1.drop j).map (Value.int .i64) ++ [u])
  | 0, j, h => by
    rw [List.drop_eq_nil_of_le (by omega)]
    exact ⟨hu, trivial⟩
  | s + 1, j, h => by
    have hj : j < r.1.length := by omega
    rw [List.drop_eq_getElem_cons hj]
    refine ⟨⟨?_, rfl⟩, recA_rep hu s (j + 1) (by omega)⟩
    simp [List.getD, hj]

theorem aload_sound (hΓ : TysOk P Γ) (h : SRep w0 ob st a w η) {t : Nat} {y : AVal} {u : Value} (hy : VR w ob st η y u) {K : AVal → Prop} (hk : aload Γ st t y K) :
    ∃ v x, K x ∧ VR w ob st η x v ∧ QOk P w (Instr.loadAt t u) v := by
  unfold aload at hk
  cases hti : look Γ t with
  | none => rw [hti] at hk; exact hk.elim
  | some ti =>
    rw [hti] at hk
    have ht := hΓ.at hti
    have one : ∀ {b o : Nat} {v : Value}, ti.d.agg = false → w.cell? ⟨b, o, none⟩ = some v → QOk P w (Instr.loadAt t (.pointer (some ⟨b, o, none⟩))) v := fun ha hc w' hb => by
      rw [run_loadAt]; exact run_loadVar1 ht ha (cell_below hb hc)
    cases y with
    | adr tr i =>
      cases tr with
      | ints k l =>
        obtain ⟨b, o, x, rfl, hl, hbad, hc⟩ := hy
        cases ha : ti.d.agg with
        | true => simp only [ha] at hk
        | false =>
          simp only [ha] at hk
          rw [getD_of hl] at hk
          exact ⟨_, _, hk, ⟨rfl, rfl⟩, one ha hc⟩
      | rows m =>
        obtain ⟨b, o, l, v, rfl, hl, hbad, hc, hs⟩ := hy
        cases ha : ti.d.agg with
        | true => simp only [ha] at hk
        | false =>
          simp only [ha] at hk
          rw [getD_of hl] at hk
          exact ⟨_, _, hk, hs, one ha hc⟩
      | recs s L =>
        obtain ⟨b, o, r, cs, rfl, hl, hbad, hs, hc⟩ := hy
        obtain ⟨h1, u, rfl, h2⟩ := hs
        cases ha : ti.d.agg with
        | true =>
          simp only [ha] at hk
          split at hk
          case h_2 => exact hk.elim
          case h_1 hsz =>
            have hsz := Nat.eq_of_beq_eq_true hsz
            rw [getD_of hl] at hk
            have hr := recA_rep (hp := st.hp) (nx := st.nx) (η := η) h2 s 0 (by omega)
            rw [List.drop_zero] at hr
            refine ⟨.agg (r.1.map (Value.int .i64) ++ [u]).toArray, _, hk, ⟨_, rfl, hr⟩, fun w' hb => ?_⟩
            rw [run_loadAt]
            refine run_loadVarN ht ha (by simp; omega) (fun j v hj => ?_)
            rw [Addr.add_lit]
            exact cell_below hb (hc j v hj)
        | false =>
          simp only [ha] at hk
          split at hk
          case h_2 => exact hk.elim
          case h_1 =>
            rw [getD_of hl] at hk
            have h3 : r.1 = [] := List.eq_nil_of_length_eq_zero h1
            refine ⟨u, _, hk, h2, one ha ?_⟩
            have := hc 0 u (by rw [h3]; rfl)
            simpa using this
    | knot f l n =>
      obtain ⟨b, cs, rfl, hr, hbad, hc⟩ := hy
      cases ha : ti.d.agg with
      | true => simp only [ha] at hk
      | false =>
        simp only [ha] at hk
        have hx : VReps w (badOf ob st.hp η) st.hp st.nx η (.knot f l n :: l.drop n) (.pointer (some ⟨b, 0, none⟩) :: cs.drop n) := ⟨⟨b, cs, rfl, hr, hbad, hc⟩, hr.drop n⟩
        exact ⟨_, _, hk, ⟨_, rfl, (hr.take n).append hx⟩, one ha hc⟩
    | ptr k off =>
      simp only [VR, VRep] at hy
      obtain ⟨hkn, hy⟩ := hy
      cases hr : look st.hp k with
      | none => simp only [hr] at hk
      | some r =>
        obtain ⟨hoff, b, hb, rfl⟩ := hy r hr
        have hrow := h.heap.row k r hr
        have hlen := row_len hrow
        obtain ⟨v, hv⟩ : ∃ v, (η.cel k)[off]? = some v := ⟨_, List.getElem?_eq_getElem hoff⟩
        have hc := row_cell hrow hb hv
        match r with
        | .ints e kd l =>
          simp only [hr] at hk
          cases ha : ti.d.agg with
          | true => simp only [ha] at hk
          | false =>
            simp only [ha] at hk
            have h2 := hrow.2
            rw [h2, List.getElem?_map] at hv
            obtain ⟨x, hx, rfl⟩ := Option.map_eq_some_iff.1 hv
            rw [getD_of hx] at hk
            exact ⟨_, _, hk, ⟨rfl, rfl⟩, one ha hc⟩
        | .rows e e1 true m =>
          simp only [hr] at hk
          cases ha : ti.d.agg with
          | true => simp only [ha] at hk
          | false =>
            simp only [ha] at hk
            refine ⟨v, _, hk, ⟨hkn, fun r' hr' => ?_⟩, one ha hc⟩
            rw [hr] at hr'
            obtain rfl := Option.some.inj hr'
            exact ⟨rfl, hv⟩
        | .rows e e1 false m =>
          simp only [hr] at hk
          cases ha : ti.d.agg with
          | true => simp only [ha] at hk
          | false =>
            simp only [ha] at hk
            obtain ⟨l, hl, hs⟩ := F2.at' hrow.2 hv
            rw [getD_of hl] at hk
            exact ⟨_, _, hk, hs, one ha hc⟩
        | .cells e l =>
          simp only [hr] at hk
          obtain ⟨b', h1, h2, h3, h4⟩ := hrow
          exact acell_sound ht h4 (fun i u hu => row_cell (h.heap.row k _ hr) hb hu) hk
        | .recs e s L => simp only [hr] at hk
    | subp k i j =>
      simp only [VR, VRep] at hy
      obtain ⟨hkn, hy⟩ := hy
      cases hr : look st.hp k with
      | none => simp only [hr] at hk
      | some r =>
        obtain ⟨hk2, b, n, c, hcel, hj, rfl⟩ := hy r hr
        have hrow := h.heap.row k r hr
        match r, hk2 with
        | .rows e e1 true m, _ =>
          simp only [hr] at hk
          cases ha : ti.d.agg with
          | true => simp only [ha] at hk
          | false =>
            simp only [ha] at hk
            obtain ⟨l, hl, ho⟩ := F2.at' hrow.2 hcel
            rw [getD_of hl] at hk
            have hln : n = l.length := by
              rcases ho.2 with ⟨h1, _⟩ | ⟨g, cap, cur, h1, _⟩ <;> simp at h1
              omega
            have hjl : j < l.length := by omega
            have hx : l[j]? = some l[j] := List.getElem?_eq_getElem hjl
            rw [getD_of hx] at hk
            have hc := own_ptr ho (b := b) (i := j) (u := .int .i64 l[j]) rfl (by simp)
            exact ⟨_, _, hk, ⟨rfl, rfl⟩, one ha hc⟩
    | rp l off =>
      obtain ⟨b, cs, rfl, hr, hc⟩ := hy
      exact acell_sound ht hr (fun i u hu => (hc i u hu).2) hk
    | _ => exact hk.elim
end
end Go.Aw
