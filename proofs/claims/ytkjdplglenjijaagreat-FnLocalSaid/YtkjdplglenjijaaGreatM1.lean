/- Stores. -/
import Derived.Test.YtkjdplglenjijaaGreatM0
namespace Go.Aw
open Go.RowKit

section
variable {P : Program} {Γ : Tys} {w0 : Base} {w w' : World} {ob : Nat → Prop} {st : St} {a : Act} {η : Env}

theorem run_storeAt {t : Nat} {ti : TI} (ht : TyOk P t ti) {v : Value} {us : List Value} (hv : v.cells = us.toArray) (hl : us.length = ti.size) (h1 : ∀ u, u ∈ us → u.oneCell' = true)
    {g o e : Nat} {cur : Array Value} (hg : w.heap[g]? = some (.cells cur e (0, 0))) (ho : o + us.length ≤ cur.size) :
    (Instr.storeAt t (.pointer (some ⟨g, o, none⟩)) v).run P w = .ok () (w.setRow g (cur.toList.take o ++ us ++ cur.toList.drop (o + us.length)).toArray) := by
  have hst := run_storeCells_at P g o e us 0 cur w hg (by simpa using ho) h1
  simp only [Nat.add_zero] at hst
  have hsz : ¬ (v.cells.size ≠ ti.size) := by rw [hv]; simp [hl]
  simp only [Instr.storeAt, Instr.sureAddr, Sem.run_bind, Sem.run_pure, Result.andThen_ok, storeVar, run_size ht]
  rw [if_neg hsz]
  rw [hv]
  exact hst

theorem below_setRow {B g : Nat} (hg : B ≤ g) (cs : Array Value) : Below B w (w.setRow g cs) :=
  ⟨rfl, rfl, rfl, by simp [World.setRow], fun k hk => setRow_other w g k cs (by omega)⟩

/-- a row is written in place -/
theorem SRep.upd (h : SRep w0 ob st a w η) {k : Nat} {r r' : ARow} {cs' : List Value} (hr : look st.hp k = some r) (hkind : r'.kind = r.kind) (hlen : (η.cel k).length ≤ cs'.length)
    (hsub : r.kind = 2 → ∀ (i : Nat) (v : Value), (η.cel k)[i]? = some v → cs'[i]? = some v)
    (hw : ∀ b, b < w.heap.size → b ∉ bsOf η k r → w'.heap[b]? = w.heap[b]?) (hB : Below w0.B w w')
    (hnd : (bsOf (η.upd k (η.val k) cs') k r').Nodup) (hfr : ∀ b, b ∈ bsOf (η.upd k (η.val k) cs') k r' → b ∈ bsOf η k r)
    (hrow : Keeps w (badOf ob st.hp η) w' (badOf ob ((k, r') :: rem k st.hp) (η.upd k (η.val k) cs')) →
      (∀ j, j < st.nx → OwnOk st.hp η ((k, r') :: rem k st.hp) (η.upd k (η.val k) cs') j) → (∀ j, j < st.nx → SubOk st.hp η ((k, r') :: rem k st.hp) (η.upd k (η.val k) cs') j) →
      RowRep w' w0.B (badOf ob ((k, r') :: rem k st.hp) (η.upd k (η.val k) cs')) ((k, r') :: rem k st.hp) st.nx (η.upd k (η.val k) cs') k r') :
    SRep w0 ob (st.upd k r') a w' (η.upd k (η.val k) cs') := by
  have hoth : ∀ j r1, j ≠ k → look ((k, r') :: rem k st.hp) j = some r1 → look st.hp j = some r1 := fun j r1 hj h1 => by
    rw [look_upd, if_neg (Ne.symm hj)] at h1; exact h1
  have hk' : look ((k, r') :: rem k st.hp) k = some r' := by rw [look_upd, if_pos rfl]
  have hok : ∀ j, j < st.nx → OwnOk st.hp η ((k, r') :: rem k st.hp) (η.upd k (η.val k) cs') j := fun j _ => by
    by_cases hjk : j = k
    · subst hjk
      exact ⟨fun r1 h1 => by rw [hk'] at h1; obtain rfl := Option.some.inj h1; exact ⟨r, hr, hkind.symm, upd_val _ _ _ _, by rw [upd_cel]; exact hlen⟩⟩
    · exact OwnOk.of (fun r1 h1 => ⟨r1, hoth j r1 hjk h1, rfl⟩) (upd_ne _ _ _ _ j hjk).1 (upd_ne _ _ _ _ j hjk).2
  have hsk : ∀ j, j < st.nx → SubOk st.hp η ((k, r') :: rem k st.hp) (η.upd k (η.val k) cs') j := fun j _ => by
    by_cases hjk : j = k
    · subst hjk
      exact ⟨fun r1 h1 => by rw [hk'] at h1; obtain rfl := Option.some.inj h1; exact ⟨r, hr, hkind.symm, fun h2 => by rw [upd_cel]; exact hsub h2⟩⟩
    · exact SubOk.of (fun r1 h1 => ⟨r1, hoth j r1 hjk h1, rfl⟩) (upd_ne _ _ _ _ j hjk).2
  obtain ⟨hh, hkp⟩ := HRep.step (k := k) (hp' := (k, r') :: rem k st.hp) (nx' := st.nx) (η' := η.upd k (η.val k) cs') (w' := w') h.heap (fun _ => true) (fun _ => true) r' (h.heap.lt k r hr) (Nat.le_refl _)
    (fun j r1 hj h1 => ⟨r1, hoth j r1 hj h1, (rowflt_true r1).symm⟩) hk' (fun j hj => upd_ne _ _ _ _ j hj)
    (fun b hb hn => hw b hb (hn r hr)) (fun j hj _ => hok j hj) (fun j hj _ => hsk j hj) hnd
    (fun b hb => .inl ⟨k, r, hr, hfr b hb, .inl rfl⟩) (fun hkp => hrow hkp hok hsk)
  have := h.heapStep (fun _ => true) (fun _ => true) hB hh hkp (Nat.le_refl _) (fun j hj _ => hok j hj) (fun j hj _ => hsk j hj)
  rw [fltS_true] at this
  exact this

theorem setRow_same {g : Nat} {cur cs : Array Value} {e : Nat} (hg : w.heap[g]? = some (.cells cur e (0, 0))) : (w.setRow g cs).heap[g]? = some (.cells cs e (0, 0)) := setRow_heap w g cur cs e _ hg

/-- an element of an owned row is written -/
theorem own_set {B e n : Nat} {v : Value} {xs : List Value} (h : w.ownsRow B e 1 v n xs) {g o : Nat} (hb : blk v = [g]) (ho : o < n) (u : Value) :
    ∃ cur : Array Value, w.heap[g]? = some (.cells cur e (0, 0)) ∧ o + 1 ≤ cur.size ∧ B ≤ g ∧
      (w.setRow g (cur.toList.take o ++ [u] ++ cur.toList.drop (o + 1)).toArray).ownsRow B e 1 v n (xs.set o u) := by
  rcases h.2 with ⟨rfl, h0⟩ | ⟨g', cap, cur, rfl, hg, hh, hnc, hcm, hcs, htk⟩
  · omega
  · simp [blk] at hb; subst hb
    refine ⟨cur, hh, by omega, hg, ⟨by simpa using h.1, .inr ⟨g', cap, _, rfl, hg, setRow_same hh, hnc, hcm, ?_, ?_⟩⟩⟩
    · simp; omega
    · have hset : (cur.toList.take o ++ [u] ++ cur.toList.drop (o + 1)) = cur.toList.set o u := by
        rw [List.set_eq_take_append_cons_drop, if_pos (by simp; omega)]
        simp
      rw [hset, ← htk]
      simp only [Nat.mul_one]
      rw [List.take_set]

theorem own_other {B e n : Nat} {v : Value} {xs : List Value} (h : w.ownsRow B e 1 v n xs) {g : Nat} (hb : g ∉ blk v) (cs : Array Value) : (w.setRow g cs).ownsRow B e 1 v n xs :=
  ownsRow_same h (fun b hb' => setRow_other w g b cs (fun e => hb (e ▸ hb')))

theorem ANStore {o : Oper} {t : Nat} {x y : Operand} (ho : o.op = .store t x y) {w' : World} (hrun : (Instr.storeAt t (a.eval x) (a.eval y)).run P w = .ok () w') : (execOp a.eval o).run P w = .ok .skip w' := by
  simp [execOp, ho, hrun]

theorem ones_cell {B : Nat} {hp : List (Nat × ARow)} {nx : Nat} (hh : HRep w B ob hp nx η) : ∀ {l : List AVal} {cs : List Value}, ones hp l = true → VReps w (badOf ob hp η) hp nx η l cs → ∀ u, u ∈ cs → u.oneCell' = true
  | [], [], _, _, u, hu => by simp at hu
  | x :: l, v :: cs, ho, h, u, hu => by
    simp only [ones] at ho
    split at ho
    case h_2 => cases ho
    case h_1 h1 =>
      rcases List.mem_cons.1 hu with rfl | hu
      · exact (one_cell hh h1 h.1).1
      · exact ones_cell hh ho h.2 u hu
  | [], _ :: _, _, h, _, _ => h.elim
  | _ :: _, [], _, h, _, _ => h.elim

theorem flat_apart : ∀ {xs : List Value}, (xs.flatMap blk).Nodup → ∀ {i j : Nat} {u v : Value}, xs[i]? = some u → xs[j]? = some v → i ≠ j → ∀ b, b ∈ blk u → b ∉ blk v
  | [], _, i, j, u, v, hi, _, _, _, _ => by simp at hi
  | x :: xs, hn, i, j, u, v, hi, hj, hij, b, hb => by
    simp only [List.flatMap_cons] at hn
    obtain ⟨h1, h2, h3⟩ := List.nodup_append.1 hn
    have mem : ∀ {k : Nat} {y : Value}, xs[k]? = some y → b ∈ blk y → b ∈ xs.flatMap blk := fun hk hy => List.mem_flatMap.2 ⟨_, List.mem_of_getElem? hk, hy⟩
    match i, j with
    | 0, 0 => exact absurd rfl hij
    | 0, j + 1 =>
      simp at hi hj; subst hi
      exact fun hv => h3 b hb b (mem hj hv) rfl
    | i + 1, 0 =>
      simp at hi hj; subst hj
      exact fun hv => h3 b hv b (mem hi hb) rfl
    | i + 1, j + 1 =>
      simp at hi hj
      exact flat_apart h2 hi hj (by omega) b hb

theorem flat_set : ∀ {xs : List Value} {v : Value} (i : Nat), (xs.flatMap blk).Nodup → (blk v).Nodup → (∀ b, b ∈ blk v → b ∉ xs.flatMap blk) → ((xs.set i v).flatMap blk).Nodup ∧ (∀ b, b ∈ (xs.set i v).flatMap blk → b ∈ blk v ∨ b ∈ xs.flatMap blk)
  | [], _, _, _, _, _ => by simp
  | x :: xs, v, 0, hn, hv, hd => by
    simp only [List.flatMap_cons, List.set_cons_zero] at hn hd ⊢
    obtain ⟨h1, h2, h3⟩ := List.nodup_append.1 hn
    refine ⟨List.nodup_append.2 ⟨hv, h2, fun a ha b hb e => hd a ha (List.mem_append.2 (.inr (e ▸ hb)))⟩, fun b hb => ?_⟩
    rcases List.mem_append.1 hb with hb | hb
    · exact .inl hb
    · exact .inr (List.mem_append.2 (.inr hb))
  | x :: xs, v, i + 1, hn, hv, hd => by
    simp only [List.flatMap_cons, List.set_cons_succ] at hn hd ⊢
    obtain ⟨h1, h2, h3⟩ := List.nodup_append.1 hn
    obtain ⟨i1, i2⟩ := flat_set i h2 hv (fun b hb hm => hd b hb (List.mem_append.2 (.inr hm)))
    refine ⟨List.nodup_append.2 ⟨h1, i1, fun a ha b hb e => ?_⟩, fun b hb => ?_⟩
    · subst e
      rcases i2 a hb with hb | hb
      · exact hd a hb (List.mem_append.2 (.inl ha))
      · exact h3 a ha a hb rfl
    · rcases List.mem_append.1 hb with hb | hb
      · exact .inr (List.mem_append.2 (.inl hb))
      · rcases i2 b hb with hb | hb
        · exact .inl hb
        · exact .inr (List.mem_append.2 (.inr hb))

theorem astore_sound (hΓ : TysOk P Γ) (h : SRep w0 ob st a w η) {t : Nat} {x y : AVal} {u v : Value} (hx : VR w ob st η x u) (hy : VR w ob st η y v) {K : St → Prop} (hk : astore Γ st t x y K) :
    ∃ st' w' η', K st' ∧ st'.sz = st.sz ∧ SRep w0 ob st' a w' η' ∧ (Instr.storeAt t u v).run P w = .ok () w' := by
  unfold astore at hk
  split at hk
  case h_1 => exact hk.elim
  case h_2 ti hti =>
    have ht := hΓ.at hti
    split at hk
    case h_3 => exact hk.elim
    case h_1 k off =>
      simp only [VR, VRep] at hx
      split at hk
      case h_4 => exact hk.elim
      case h_1 e kd l hr =>
        -- an integer into a row of integers
        split at hk
        case h_2 => exact hk.elim
        case h_1 k' n =>
          split at hk
          case h_2 => exact hk.elim
          case h_1 hq =>
            have := keq_spec hq
            subst this
            split at hk
            case h_2 => exact hk.elim
            case h_1 hsz =>
              obtain ⟨hoff, g, hb, rfl⟩ := hx.2 _ hr
              obtain ⟨rfl, _⟩ := hy
              have hrow := h.heap.row k _ hr
              have hlen := row_len hrow
              simp only at hlen
              obtain ⟨cur, hg, ho, hB, hown⟩ := own_set hrow.1 hb (o := off) (by omega) (.int k' n)
              refine ⟨_, _, η.upd k (η.val k) ((l.set off n).map (Value.int k')), hk, rfl, ?_, run_storeAt ht (us := [.int k' n]) rfl (by rw [hsz]; rfl) (by simp [Value.oneCell']) hg ho⟩
              have hbs : bsOf η k (.ints e k' l) = [g] := by simp [bsOf, ARow.kind, hb]
              have hbs' : bsOf (η.upd k (η.val k) ((l.set off n).map (Value.int k'))) k (.ints e k' (l.set off n)) = [g] := by simp [bsOf, ARow.kind, upd_val, hb]
              refine h.upd (cs' := (l.set off n).map (Value.int k')) hr rfl (by simp [hlen]) (by simp [ARow.kind]) (fun b _ hn => ?_) (below_setRow hB _) (by rw [hbs']; simp) (by rw [hbs, hbs']; simp) (fun _ _ _ => ?_)
              · rw [hbs] at hn
                exact setRow_other w g b _ (by simpa using hn)
              · refine ⟨?_, upd_cel _ _ _ _⟩
                rw [upd_val]
                simp only [OwnInts, List.length_set, List.map_set]
                exact hown
      case h_2 e e1 m hr =>
        -- a row of integers of the call's own handed over into a row of rows
        split at hk
        case h_2 => exact hk.elim
        case h_1 k2 =>
          split at hk
          case h_1 => exact hk.elim
          case h_2 hne =>
            have hne' : k2 ≠ k := fun e => by rw [e, Nat.beq_refl] at hne; cases hne
            split at hk
            case h_2 => exact hk.elim
            case h_1 e2 l hr2 =>
              split at hk
              case h_2 => exact hk.elim
              case h_1 he2 =>
                have := Nat.eq_of_beq_eq_true he2
                subst this
                split at hk
                case h_2 => exact hk.elim
                case h_1 hsz =>
                  obtain ⟨hoff, g, hb, rfl⟩ := hx.2 _ hr
                  have hv2 : v = η.val k2 := (hy.2 _ hr2).2
                  subst hv2
                  have hrow := h.heap.row k _ hr
                  have hrow2 := h.heap.row k2 _ hr2
                  have hlen := row_len hrow
                  simp only at hlen
                  obtain ⟨cur, hg, ho, hB, hown⟩ := own_set hrow.1 hb (o := off) (by omega) (η.val k2)
                  obtain ⟨b2, c2, hu2⟩ := len_own hrow2.1
                  have hcell : (η.val k2).cells = [η.val k2].toArray ∧ (η.val k2).oneCell' = true := by rw [hu2]; exact ⟨rfl, rfl⟩
                  refine ⟨_, _, η.upd k (η.val k) ((η.cel k).set off (η.val k2)), hk, rfl, ?_, run_storeAt ht (us := [η.val k2]) hcell.1 (by rw [hsz]; rfl) (by simp [hcell.2]) hg ho⟩
                  have hbs : bsOf η k (.rows e e2 true m) = blk (η.val k) ++ (η.cel k).flatMap blk := by simp [bsOf, ARow.kind]
                  have hbs2 : bsOf η k2 (.ints e2 .i64 l) = blk (η.val k2) := by simp [bsOf, ARow.kind]
                  have hbs' : bsOf (η.upd k (η.val k) ((η.cel k).set off (η.val k2))) k (.rows e e2 true (m.set off l)) = blk (η.val k) ++ ((η.cel k).set off (η.val k2)).flatMap blk := by simp [bsOf, ARow.kind, upd_val, upd_cel]
                  have hnd := h.heap.nodup k _ hr
                  rw [hbs] at hnd
                  obtain ⟨n1, n2, n3⟩ := List.nodup_append.1 hnd
                  have hap : ∀ b, b ∈ blk (η.val k2) → b ∉ blk (η.val k) ++ (η.cel k).flatMap blk := fun b hb2 => by
                    have := h.heap.apart k2 _ k _ hr2 hr hne' b (by rw [hbs2]; exact hb2)
                    rwa [hbs] at this
                  obtain ⟨f1, f2⟩ := flat_set (v := η.val k2) off n2 (hbs2 ▸ h.heap.nodup k2 _ hr2) (fun b hb2 hm => hap b hb2 (List.mem_append.2 (.inr hm)))
                  have hoth : ∀ j r1, j ≠ k → look (((st.del k2).killSub k).upd k (.rows e e2 true (m.set off l))).hp j = some r1 → j ≠ k2 ∧ ∃ r, look st.hp j = some r ∧ r1 = r.flt (fun _ => true) (ne k) := fun j r1 hj h1 => by
                    simp only [St.upd, St.killSub, St.del, look_upd, if_neg (Ne.symm hj), look_fltH] at h1
                    obtain ⟨r, h2, rfl⟩ := Option.map_eq_some_iff.1 h1
                    by_cases hj2 : j = k2
                    · subst hj2; rw [look_rem] at h2; cases h2
                    · rw [look_rem_ne _ _ _ hj2] at h2; exact ⟨hj2, r, h2, rfl⟩
                  have hk' : look (((st.del k2).killSub k).upd k (.rows e e2 true (m.set off l))).hp k = some (.rows e e2 true (m.set off l)) := by simp only [St.upd, look_upd, if_true]
                  have hk2' : look (((st.del k2).killSub k).upd k (.rows e e2 true (m.set off l))).hp k2 = none := by
                    cases hx2 : look (((st.del k2).killSub k).upd k (.rows e e2 true (m.set off l))).hp k2 with
                    | none => rfl
                    | some r => exact absurd rfl (hoth k2 r hne' hx2).1
                  have hok : ∀ j, j < st.nx → OwnOk st.hp η (((st.del k2).killSub k).upd k (.rows e e2 true (m.set off l))).hp (η.upd k (η.val k) ((η.cel k).set off (η.val k2))) j := fun j _ => by
                    by_cases hjk : j = k
                    · subst hjk
                      exact ⟨fun r1 h1 => by rw [hk'] at h1; obtain rfl := Option.some.inj h1; exact ⟨_, hr, rfl, upd_val _ _ _ _, by rw [upd_cel]; simp⟩⟩
                    · exact OwnOk.of (fun r1 h1 => by obtain ⟨_, r, h2, rfl⟩ := hoth j r1 hjk h1; exact ⟨r, h2, (kind_flt _ _ r).symm⟩) (upd_ne _ _ _ _ j hjk).1 (upd_ne _ _ _ _ j hjk).2
                  have hsk : ∀ j, j < st.nx → ne k j = true → SubOk st.hp η (((st.del k2).killSub k).upd k (.rows e e2 true (m.set off l))).hp (η.upd k (η.val k) ((η.cel k).set off (η.val k2))) j := fun j _ hj => by
                    have hjk := (ne_spec k j).1 hj
                    exact SubOk.of (fun r1 h1 => by obtain ⟨_, r, h2, rfl⟩ := hoth j r1 hjk h1; exact ⟨r, h2, (kind_flt _ _ r).symm⟩) (upd_ne _ _ _ _ j hjk).2
                  have hgk : g ∈ blk (η.val k) := by rw [hb]; simp
                  obtain ⟨hh, hkp⟩ := HRep.step (k := k) (hp' := (((st.del k2).killSub k).upd k (.rows e e2 true (m.set off l))).hp) (nx' := st.nx) (η' := η.upd k (η.val k) ((η.cel k).set off (η.val k2)))
                    (w' := w.setRow g (cur.toList.take off ++ [η.val k2] ++ cur.toList.drop (off + 1)).toArray) h.heap (fun _ => true) (ne k) (.rows e e2 true (m.set off l)) (h.heap.lt k _ hr) (Nat.le_refl _)
                    (fun j r1 hj h1 => (hoth j r1 hj h1).2) hk' (fun j hj => upd_ne _ _ _ _ j hj)
                    (fun b _ hn => setRow_other w g b _ (fun e => hn _ hr (by rw [hbs, e]; exact List.mem_append.2 (.inl hgk)))) (fun j hj _ => hok j hj) hsk
                    (by rw [hbs']; exact List.nodup_append.2 ⟨n1, f1, fun b hb1 b' hb' e => by
                      subst e
                      rcases f2 b hb' with h2 | h2
                      · exact hap b h2 (List.mem_append.2 (.inl hb1))
                      · exact n3 b hb1 b h2 rfl⟩)
                    (fun b hb1 => by
                      rw [hbs'] at hb1
                      rcases List.mem_append.1 hb1 with h2 | h2
                      · exact .inl ⟨k, _, hr, by rw [hbs]; exact List.mem_append.2 (.inl h2), .inl rfl⟩
                      · rcases f2 b h2 with h3 | h3
                        · exact .inl ⟨k2, _, hr2, by rw [hbs2]; exact h3, .inr hk2'⟩
                        · exact .inl ⟨k, _, hr, by rw [hbs]; exact List.mem_append.2 (.inr h3), .inl rfl⟩)
                    (fun _ => by
                      refine ⟨?_, ?_⟩
                      · rw [upd_val, upd_cel, List.length_set]; exact hown
                      · rw [upd_cel]
                        refine F2.set (F2.imp (fun l1 u hu ho1 => ?_) hrow.2) ?_
                        · exact own_other ho1 (fun hb1 => n3 g hgk g (List.mem_flatMap.2 ⟨u, hu, hb1⟩) rfl) _
                        · exact own_other hrow2.1 (fun hb1 => hap g hb1 (List.mem_append.2 (.inl hgk))) _)
                  exact h.heapStep (fun _ => true) (ne k) (below_setRow hB _) hh hkp (Nat.le_refl _) (fun j hj _ => hok j hj) hsk
      case h_3 e l hr =>
        -- a variable
        obtain ⟨hoff, g, hb, rfl⟩ := hx.2 _ hr
        have hrow := h.heap.row k _ hr
        obtain ⟨g', hv1, hB, hg, hcells⟩ := hrow
        rw [hv1] at hb
        simp [blk] at hb
        subst hb
        have hlen := VReps.length hcells
        have gen : ∀ {l2 : List AVal} {us : List Value}, VRs w ob st η l2 us → v.cells = us.toArray → us.length = ti.size → (∀ u, u ∈ us → u.oneCell' = true) → off + us.length ≤ l.length →
            SRep w0 ob (st.upd k (.cells e (l.take off ++ l2 ++ l.drop (off + us.length)))) a (w.setRow g' ((η.cel k).take off ++ us ++ (η.cel k).drop (off + us.length)).toArray) (η.upd k (η.val k) ((η.cel k).take off ++ us ++ (η.cel k).drop (off + us.length))) ∧
              (Instr.storeAt t (.pointer (some ⟨g', off, none⟩)) v).run P w = .ok () (w.setRow g' ((η.cel k).take off ++ us ++ (η.cel k).drop (off + us.length)).toArray) := by
          intro l2 us h2 hvc hul h1 hle
          have hnew := ((hcells.take off).append h2).append (hcells.drop (off + us.length))
          refine ⟨?_, ?_⟩
          · have hbs : bsOf η k (.cells e l) = [g'] := by simp [bsOf, ARow.kind, hv1, blk]
            have hbs' : ∀ cs l', bsOf (η.upd k (η.val k) cs) k (.cells e l') = [g'] := fun cs l' => by simp [bsOf, ARow.kind, upd_val, hv1, blk]
            refine h.upd (cs' := (η.cel k).take off ++ us ++ (η.cel k).drop (off + us.length)) hr rfl (by simp; omega) (by simp [ARow.kind]) (fun b _ hn => ?_) (below_setRow hB _) (by rw [hbs']; simp) (by rw [hbs, hbs']; simp) (fun hkp hok hsk => ?_)
            · rw [hbs] at hn
              exact setRow_other w g' b _ (by simpa using hn)
            · refine ⟨g', by rw [upd_val]; exact hv1, hB, by rw [upd_cel]; exact setRow_same hg, ?_⟩
              rw [upd_cel]
              exact VReps.frame hkp (Nat.le_refl _) hok hsk hnew
          · have := run_storeAt (P := P) (w := w) ht hvc hul h1 (g := g') (o := off) hg (by simp; omega)
            simpa using this
        split at hk
        case h_1 l' =>
          split at hk
          case h_2 => exact hk.elim
          case h_1 hll =>
            split at hk
            case h_2 => exact hk.elim
            case h_1 hle =>
             split at hk
             case h_2 => exact hk.elim
             case h_1 hones =>
              have hle' := Nat.le_of_ble_eq_true hle
              have hll' := Nat.eq_of_beq_eq_true hll
              obtain ⟨cs, rfl, hr2⟩ := hy
              have hcl := VReps.length hr2
              have h1 : ∀ u, u ∈ cs → u.oneCell' = true := ones_cell h.heap hones hr2
              obtain ⟨hs, hrun⟩ := gen hr2 rfl (by omega) h1 (by omega)
              rw [show off + cs.length = off + ti.size by omega] at hs hrun
              exact ⟨_, _, _, hk, rfl, hs, hrun⟩
        case h_2 =>
          split at hk
          case h_2 => exact hk.elim
          case h_1 hone =>
            split at hk
            case h_2 => exact hk.elim
            case h_1 hsz =>
              obtain ⟨h1, h2⟩ := one_cell h.heap hone hy
              have hoff' : off < l.length := by omega
              obtain ⟨hs, hrun⟩ := gen (l2 := [y]) (us := [v]) ⟨hy, trivial⟩ h2 (by rw [hsz]; rfl) (by simp [h1]) (by simp; omega)
              have hset : l.take off ++ [y] ++ l.drop (off + [v].length) = l.set off y := by
                rw [List.set_eq_take_append_cons_drop, if_pos hoff']
                simp
              rw [hset] at hs
              exact ⟨_, _, _, hk, rfl, hs, hrun⟩
    case h_2 k i j =>
      simp only [VR, VRep] at hx
      split at hk
      case h_2 => exact hk.elim
      case h_1 e e1 m hr =>
        split at hk
        case h_2 => exact hk.elim
        case h_1 n =>
          split at hk
          case h_2 => exact hk.elim
          case h_1 hsz =>
            obtain ⟨_, g, n', c, hcel, hj, rfl⟩ := hx.2 _ hr
            obtain ⟨rfl, _⟩ := hy
            have hrow := h.heap.row k _ hr
            obtain ⟨l, hl, ho⟩ := F2.at' hrow.2 hcel
            rw [getD_of hl] at hk
            have hn' : n' = l.length := by
              rcases ho.2 with ⟨h1, _⟩ | ⟨_, _, _, h1, _⟩ <;> simp at h1
              omega
            obtain ⟨cur, hg, ho2, hB, hown⟩ := own_set ho (g := g) rfl (o := j) (by omega) (.int .i64 n)
            refine ⟨_, _, η.upd k (η.val k) (η.cel k), hk, rfl, ?_, run_storeAt ht (us := [.int .i64 n]) rfl (by rw [hsz]; rfl) (by simp [Value.oneCell']) hg ho2⟩
            have hbs : bsOf η k (.rows e e1 true m) = blk (η.val k) ++ (η.cel k).flatMap blk := by simp [bsOf, ARow.kind]
            have hbs' : bsOf (η.upd k (η.val k) (η.cel k)) k (.rows e e1 true (m.set i (l.set j n))) = blk (η.val k) ++ (η.cel k).flatMap blk := by simp [bsOf, ARow.kind, upd_val, upd_cel]
            have hnd := h.heap.nodup k _ hr
            rw [hbs] at hnd
            obtain ⟨n1, n2, n3⟩ := List.nodup_append.1 hnd
            have hgm : g ∈ (η.cel k).flatMap blk := List.mem_flatMap.2 ⟨_, List.mem_of_getElem? hcel, by simp [blk]⟩
            refine h.upd (cs' := η.cel k) hr rfl (Nat.le_refl _) (fun _ _ _ h => h) (fun b _ hn => ?_) (below_setRow hB _) (by rw [hbs']; exact hnd) (by rw [hbs, hbs']; exact fun b h => h) (fun _ _ _ => ?_)
            · rw [hbs] at hn
              exact setRow_other w g b _ (fun e => hn (e ▸ List.mem_append.2 (.inr hgm)))
            · refine ⟨?_, ?_⟩
              · rw [upd_val, upd_cel, List.length_set]
                exact own_other hrow.1 (fun hb => n3 g hb g hgm rfl) _
              · rw [upd_cel]
                refine F2.intro (by simpa using F2.length hrow.2) (fun p l1 u h1 h2 => ?_)
                by_cases hp : i = p
                · subst hp
                  rw [hcel] at h2
                  obtain rfl := Option.some.inj h2
                  rw [List.getElem?_set_self (by have := (List.getElem?_eq_some_iff.1 hl).1; omega)] at h1
                  obtain rfl := Option.some.inj h1
                  simp only [OwnInts, List.length_set, List.map_set]
                  exact hown
                · rw [List.getElem?_set_ne hp] at h1
                  obtain ⟨u', hu', ho'⟩ := F2.at hrow.2 h1
                  rw [h2] at hu'
                  obtain rfl := Option.some.inj hu'
                  exact own_other ho' (fun hb => flat_apart n2 h2 hcel (Ne.symm hp) g hb (by simp [blk])) _
end
end Go.Aw
/- Appends. -/
namespace Go.Aw
open Go.RowKit

section
variable {P : Program} {Γ : Tys} {w0 : Base} {w w' : World} {ob : Nat → Prop} {st : St} {a : Act} {η : Env}

/-- a source: a slice whose first cells are told -/
def Src (w : World) (s : Value) (m : Nat) (news : List Value) : Prop :=
  ∃ sa c, s = .slice sa m c ∧ news.length = m ∧ ∀ j u, news[j]? = some u → ∃ b o, sa = some ⟨b, o, none⟩ ∧ w.cell? ⟨b, o + j, none⟩ = some u

theorem Src.own {B e n : Nat} {v : Value} {xs : List Value} (h : w.ownsRow B e 1 v n xs) : Src w v n xs := by
  have hl : xs.length = n := by simpa using h.1
  rcases h.2 with ⟨rfl, rfl⟩ | ⟨g, cap, cur, hv, hg, hh, r⟩
  · have : xs = [] := List.eq_nil_of_length_eq_zero hl
    subst this
    exact ⟨none, 0, rfl, rfl, fun j u hj => by simp at hj⟩
  · refine ⟨some ⟨g, 0, none⟩, cap, hv, hl, fun j u hj => ⟨g, 0, rfl, ?_⟩⟩
    rw [Nat.zero_add]
    exact own_ptr h (by rw [hv]; rfl) hj

theorem Src.ints {bad : Nat → Prop} {k : IntKind} {l : List Int} {v : Value} (h : SInts w bad k l v) : Src w v l.length (l.map (Value.int k)) := by
  obtain ⟨sa, c, hv, _, _, hc⟩ := h
  refine ⟨sa, c, hv, by simp, fun j u hj => ?_⟩
  rw [List.getElem?_map] at hj
  obtain ⟨x, hx, rfl⟩ := Option.map_eq_some_iff.1 hj
  obtain ⟨b, o, h1, _, h2⟩ := hc j x hx
  exact ⟨b, o, h1, h2⟩

theorem run_append_none {t ty e : Nat} {ti : TI} (ht : P.underlying t = some (.slice e)) (he : TyOk P e ti) {sb : Option Addr} {n cap c : Nat} (hnc : n ≤ cap) :
    (Builtin.append_ #[t, t] ty #[.slice sb n cap, .slice none 0 c]).run P w = .ok (.slice sb n cap) w := by
  cases sb with
  | none => simp [Builtin.append_, run_underlying ht, run_size he, Builtin.lenOf, Builtin.firstCells, hnc]
  | some ad => simp [Builtin.append_, run_underlying ht, run_size he, Builtin.lenOf, Builtin.firstCells, hnc, storeCells]

/-- append to an owned row: it stays in its block, or goes over into a new one -/
theorem run_append_fresh {B t ty e : Nat} {ti : TI} {zv : Value} (ht : P.underlying t = some (.slice e)) (he : TyOk P e ti) (hs : ti.size = 1) (hb : ti.bytes ≤ 64) (hz : ti.zero = [zv])
    {v : Value} {n : Nat} {xs : List Value} (hown : w.ownsRow B e 1 v n xs) {s : Value} {m : Nat} {news : List Value} (hsrc : Src w s m news) (h1 : ∀ u, u ∈ news → u.oneCell' = true) (hr : n + m ≤ room) (hB : B ≤ w.heap.size) :
    ∃ v' w', (Builtin.append_ #[t, t] ty #[v, s]).run P w = .ok v' w' ∧ w'.ownsRow B e 1 v' (n + m) (xs ++ news) ∧ (∀ b, b ∈ blk v' → b ∈ blk v ∨ b = w.heap.size) ∧ w.heap.size ≤ w'.heap.size ∧
      (∀ b, b < w.heap.size → b ∉ blk v → w'.heap[b]? = w.heap[b]?) ∧ Below B w w' ∧ (blk v').Nodup := by
  obtain ⟨i, z, g1, g2, g3, g4, g5, g6, g7, g8⟩ := run_typeInfo he
  have hsz : i.size = 1 := by rw [g2, hs]
  have hby : i.bytes ≤ 64 := by rw [g3]; exact hb
  have hzs : z.cells.size = 1 := by rw [g5, hz]; rfl
  obtain ⟨sa, c, rfl, hl, hc⟩ := hsrc
  have hbytes : (n + m) * i.bytes ≤ 140737488355328 := Nat.le_trans (Nat.mul_le_mul hr hby) (by unfold room; omega)
  have hroom' : n + m ≤ 1099511627776 := hr
  have hlen : (xs ++ news).length = (n + m) * 1 := by rw [List.length_append, hown.1, hl]; omega
  cases sa with
  | none =>
    have hn : news = [] := by
      cases news with
      | nil => rfl
      | cons u r => obtain ⟨_, _, h, _⟩ := hc 0 u rfl; cases h
    subst hn
    simp only [List.length_nil] at hl
    subst hl
    rcases hown.2 with ⟨rfl, rfl⟩ | ⟨g, cap, cur, rfl, hg, hh, hnc, hcm, r⟩
    · exact ⟨_, w, run_append_none ht he (Nat.le_refl _), by simpa using hown, fun b hb => .inl hb, Nat.le_refl _, fun _ _ _ => rfl, Below.refl _ _, by simp [blk]⟩
    · exact ⟨_, w, run_append_none ht he hnc, by simpa using hown, fun b hb => .inl hb, Nat.le_refl _, fun _ _ _ => rfl, Below.refl _ _, by simp [blk]⟩
  | some ad =>
    have hnews : ∀ j u, news[j]? = some u → w.cell? (ad.add j) = some u := fun j u hj => by
      obtain ⟨b, o, h, hcell⟩ := hc j u hj
      simp only [Option.some.injEq] at h
      subst h
      rw [Addr.add_lit]; exact hcell
    have hl' : news.length = m * i.size := by rw [hl, hsz]; omega
    -- the new block's owned row
    have grown : ∀ old : Nat, old < n + m →
        (w.drew.alloc (.cells (xs.toArray ++ news.toArray ++ Builtin.zeroCells z.cells (grownCap w (n + m) old e - (n + m))) e)).ownsRow B e 1 (.slice (some ⟨w.heap.size, 0, none⟩) (n + m) (grownCap w (n + m) old e)) (n + m) (xs ++ news) := by
      intro old _
      have hge := grownCap_ge w (n + m) old e
      have hcm : grownCap w (n + m) old e ≤ maxLen := grownCap_le_maxLen w (n + m) old e (by unfold maxLen; omega)
      refine ⟨hlen, .inr ⟨w.heap.size, _, _, rfl, hB, Go.heap_alloc_new w.drew _, hge, hcm, ?_, ?_⟩⟩
      · simp only [Array.size_append, List.size_toArray, size_zeroCells, hzs, hown.1, hl]
        omega
      · simp only [Array.toList_append, List.append_assoc]
        rw [← List.append_assoc, ← hlen]
        exact List.take_left
    have gb : ∀ o, Below B w (w.drew.alloc o) := fun o => ((Below.refl B w).drew).alloc hB o
    have gsz : ∀ o, w.heap.size ≤ (w.drew.alloc o).heap.size := fun o => by simp
    have gsame : ∀ o b, b < w.heap.size → (w.drew.alloc o).heap[b]? = w.heap[b]? := fun o b hb => Below.heap_alloc w.drew o b hb
    rcases hown.2 with ⟨rfl, rfl⟩ | ⟨g, cap, cur, rfl, hg, hh, hnc, hcm, hcs, htk⟩
    · have hx : xs = [] := List.eq_nil_of_length_eq_zero (by simpa using hown.1)
      subst hx
      by_cases hm : m = 0
      · subst hm
        have hn : news = [] := List.eq_nil_of_length_eq_zero (by simpa using hl)
        subst hn
        refine ⟨.slice none 0 0, w, ?_, by simpa using hown, fun b hb => .inl hb, Nat.le_refl _, fun _ _ _ => rfl, Below.refl _ _, by simp [blk]⟩
        simp [Builtin.append_, run_underlying ht, run_size he, Builtin.lenOf, Builtin.firstCells, loadCells, loadCellsFrom]
      · have hrun := run_append_nil (P := P) w t ty e i z ht g1 g4 ad m c news hl' hnews (by omega) (by omega) (by have hb := hbytes; simp only [Nat.zero_add] at hb; omega)
        have hgr := grown 0 (by omega)
        simp only [Nat.zero_add, List.nil_append, Array.empty_append] at hgr ⊢
        exact ⟨_, _, hrun, hgr, fun b hb => .inr (by simpa [blk] using hb), gsz _, fun b hb _ => gsame _ b hb, gb _, by simp [blk]⟩
    · by_cases hroom : n + m ≤ cap
      · have hfit : n * i.size + news.length ≤ cur.size := by rw [hl, hcs, hsz]; omega
        have hrun := run_append_room (P := P) w t ty e i ht g1 g n cap cur hh ad m c news hl' hnews h1 hroom hfit
        refine ⟨_, _, hrun, ⟨hlen, .inr ⟨g, cap, _, rfl, hg, setRow_heap w g cur _ e _ hh, hroom, hcm, ?_, ?_⟩⟩, fun b hb => .inl (by simpa [blk] using hb), by simp [World.setRow],
          fun b _ hnb => setRow_other w g b _ (fun e => hnb (by simp [blk, e])), below_setRow hg _, by simp [blk]⟩
        · simp only [List.size_toArray, List.length_append, List.length_take, List.length_drop, Array.length_toList]
          omega
        · rw [hsz, htk, ← hlen]
          exact List.take_left
      · have holds : ∀ j u, xs[j]? = some u → w.cell? ((⟨g, 0, none⟩ : Addr).add j) = some u := World.ownsRow.cells hown (g := g) rfl
        have hrun := run_append_grow (P := P) w t ty e i z ht g1 g4 ⟨g, 0, none⟩ n cap xs (by rw [hsz]; exact hown.1) holds ad m c news hl' hnews (by omega) (by omega) (growslice_fits (by omega) hbytes)
        exact ⟨_, _, hrun, grown cap (by omega), fun b hb => .inr (by simpa [blk] using hb), gsz _, fun b hb _ => gsame _ b hb, gb _, by simp [blk]⟩

/-- .. of cells of any size -/
def SrcN (w : World) (s : Value) (m sz : Nat) (news : List Value) : Prop :=
  ∃ sa c, s = .slice sa m c ∧ news.length = m * sz ∧ ∀ j u, news[j]? = some u → ∃ b o, sa = some ⟨b, o, none⟩ ∧ w.cell? ⟨b, o + j, none⟩ = some u

theorem SrcN.own {B e n sz : Nat} {v : Value} {xs : List Value} (h : w.ownsRow B e sz v n xs) : SrcN w v n sz xs := by
  have hl : xs.length = n * sz := h.1
  rcases h.2 with ⟨rfl, rfl⟩ | ⟨g, cap, cur, hv, hg, hh, r⟩
  · have : xs = [] := List.eq_nil_of_length_eq_zero (by omega)
    subst this
    exact ⟨none, 0, rfl, hl, fun j u hj => by simp at hj⟩
  · refine ⟨some ⟨g, 0, none⟩, cap, hv, hl, fun j u hj => ⟨g, 0, rfl, ?_⟩⟩
    rw [Nat.zero_add]
    exact own_ptr h (by rw [hv]; rfl) hj

theorem run_append_freshN {B t ty e sz : Nat} {ti : TI} (ht : P.underlying t = some (.slice e)) (he : TyOk P e ti) (hs : ti.size = sz) (hpos : 0 < sz) (hb : ti.bytes ≤ 64) (hz : ti.zero.length = sz)
    {v : Value} {n : Nat} {xs : List Value} (hown : w.ownsRow B e sz v n xs) {s : Value} {m : Nat} {news : List Value} (hsrc : SrcN w s m sz news) (h1 : ∀ u, u ∈ news → u.oneCell' = true) (hr : n + m ≤ room) (hB : B ≤ w.heap.size) :
    ∃ v' w', (Builtin.append_ #[t, t] ty #[v, s]).run P w = .ok v' w' ∧ w'.ownsRow B e sz v' (n + m) (xs ++ news) ∧ (∀ b, b ∈ blk v' → b ∈ blk v ∨ b = w.heap.size) ∧ w.heap.size ≤ w'.heap.size ∧
      (∀ b, b < w.heap.size → b ∉ blk v → w'.heap[b]? = w.heap[b]?) ∧ Below B w w' ∧ (blk v').Nodup := by
  obtain ⟨i, z, g1, g2, g3, g4, g5, g6, g7, g8⟩ := run_typeInfo he
  have hsz : i.size = sz := by rw [g2, hs]
  have hby : i.bytes ≤ 64 := by rw [g3]; exact hb
  have hzs : z.cells.size = sz := by rw [g5]; simpa using hz
  obtain ⟨sa, c, rfl, hl, hc⟩ := hsrc
  have hbytes : (n + m) * i.bytes ≤ 140737488355328 := Nat.le_trans (Nat.mul_le_mul hr hby) (by unfold room; omega)
  have hroom' : n + m ≤ 1099511627776 := hr
  have hlen : (xs ++ news).length = (n + m) * sz := by rw [List.length_append, hown.1, hl, Nat.add_mul]
  cases sa with
  | none =>
    have hn : news = [] := by
      cases news with
      | nil => rfl
      | cons u r => obtain ⟨_, _, h, _⟩ := hc 0 u rfl; cases h
    subst hn
    simp only [List.length_nil] at hl
    have hm0 : m = 0 := by
      rcases Nat.eq_zero_or_pos m with h | h
      · exact h
      · have := Nat.mul_pos h hpos; omega
    subst hm0
    rcases hown.2 with ⟨rfl, rfl⟩ | ⟨g, cap, cur, rfl, hg, hh, hnc, hcm, r⟩
    · exact ⟨_, w, run_append_none ht he (Nat.le_refl _), by simpa using hown, fun b hb => .inl hb, Nat.le_refl _, fun _ _ _ => rfl, Below.refl _ _, by simp [blk]⟩
    · exact ⟨_, w, run_append_none ht he hnc, by simpa using hown, fun b hb => .inl hb, Nat.le_refl _, fun _ _ _ => rfl, Below.refl _ _, by simp [blk]⟩
  | some ad =>
    have hnews : ∀ j u, news[j]? = some u → w.cell? (ad.add j) = some u := fun j u hj => by
      obtain ⟨b, o, h, hcell⟩ := hc j u hj
      simp only [Option.some.injEq] at h
      subst h
      rw [Addr.add_lit]; exact hcell
    have hl' : news.length = m * i.size := by rw [hl, hsz]
    have grown : ∀ old : Nat, old < n + m →
        (w.drew.alloc (.cells (xs.toArray ++ news.toArray ++ Builtin.zeroCells z.cells (grownCap w (n + m) old e - (n + m))) e)).ownsRow B e sz (.slice (some ⟨w.heap.size, 0, none⟩) (n + m) (grownCap w (n + m) old e)) (n + m) (xs ++ news) := by
      intro old _
      have hge := grownCap_ge w (n + m) old e
      have hcm : grownCap w (n + m) old e ≤ maxLen := grownCap_le_maxLen w (n + m) old e (by unfold maxLen; omega)
      refine ⟨hlen, .inr ⟨w.heap.size, _, _, rfl, hB, Go.heap_alloc_new w.drew _, hge, hcm, ?_, ?_⟩⟩
      · simp only [Array.size_append, List.size_toArray, size_zeroCells, hzs, hown.1, hl]
        rw [← Nat.add_mul, ← Nat.add_mul]
        congr 1; omega
      · simp only [Array.toList_append, List.append_assoc]
        rw [← List.append_assoc, ← hlen]
        exact List.take_left
    have gb : ∀ o, Below B w (w.drew.alloc o) := fun o => ((Below.refl B w).drew).alloc hB o
    have gsz : ∀ o, w.heap.size ≤ (w.drew.alloc o).heap.size := fun o => by simp
    have gsame : ∀ o b, b < w.heap.size → (w.drew.alloc o).heap[b]? = w.heap[b]? := fun o b hb => Below.heap_alloc w.drew o b hb
    rcases hown.2 with ⟨rfl, rfl⟩ | ⟨g, cap, cur, rfl, hg, hh, hnc, hcm, hcs, htk⟩
    · have hx : xs = [] := List.eq_nil_of_length_eq_zero (by simpa using hown.1)
      subst hx
      by_cases hm : m = 0
      · subst hm
        have hn : news = [] := List.eq_nil_of_length_eq_zero (by simpa using hl)
        subst hn
        refine ⟨.slice none 0 0, w, ?_, by simpa using hown, fun b hb => .inl hb, Nat.le_refl _, fun _ _ _ => rfl, Below.refl _ _, by simp [blk]⟩
        simp [Builtin.append_, run_underlying ht, run_size he, Builtin.lenOf, Builtin.firstCells, loadCells, loadCellsFrom]
      · have hrun := run_append_nil (P := P) w t ty e i z ht g1 g4 ad m c news hl' hnews (by omega) (by omega) (by have hb := hbytes; simp only [Nat.zero_add] at hb; omega)
        have hgr := grown 0 (by omega)
        simp only [Nat.zero_add, List.nil_append, Array.empty_append] at hgr ⊢
        exact ⟨_, _, hrun, hgr, fun b hb => .inr (by simpa [blk] using hb), gsz _, fun b hb _ => gsame _ b hb, gb _, by simp [blk]⟩
    · by_cases hroom : n + m ≤ cap
      · have hmul : (n + m) * sz ≤ cap * sz := Nat.mul_le_mul_right _ hroom
        have hmul2 : n * sz + m * sz ≤ cap * sz := by rw [← Nat.add_mul]; exact hmul
        have hfit : n * i.size + news.length ≤ cur.size := by rw [hl, hcs, hsz]; exact hmul2
        have hrun := run_append_room (P := P) w t ty e i ht g1 g n cap cur hh ad m c news hl' hnews h1 hroom hfit
        refine ⟨_, _, hrun, ⟨hlen, .inr ⟨g, cap, _, rfl, hg, setRow_heap w g cur _ e _ hh, hroom, hcm, ?_, ?_⟩⟩, fun b hb => .inl (by simpa [blk] using hb), by simp [World.setRow],
          fun b _ hnb => setRow_other w g b _ (fun e => hnb (by simp [blk, e])), below_setRow hg _, by simp [blk]⟩
        · simp only [List.size_toArray, List.length_append, List.length_take, List.length_drop, Array.length_toList]
          omega
        · rw [hsz, htk, ← hlen]
          exact List.take_left
      · have holds : ∀ j u, xs[j]? = some u → w.cell? ((⟨g, 0, none⟩ : Addr).add j) = some u := World.ownsRow.cells hown (g := g) rfl
        have hrun := run_append_grow (P := P) w t ty e i z ht g1 g4 ⟨g, 0, none⟩ n cap xs (by rw [hsz]; exact hown.1) holds ad m c news hl' hnews (by omega) (by omega) (growslice_fits (by omega) hbytes)
        exact ⟨_, _, hrun, grown cap (by omega), fun b hb => .inr (by simpa [blk] using hb), gsz _, fun b hb _ => gsame _ b hb, gb _, by simp [blk]⟩

/-- append to an empty slice that has no room: nothing is made, or a new row -/
theorem run_append_nul {B t ty e : Nat} {ti : TI} {zv : Value} (ht : P.underlying t = some (.slice e)) (he : TyOk P e ti) (hs : ti.size = 1) (hb : ti.bytes ≤ 64) (hz : ti.zero = [zv])
    {ba : Option Addr} {s : Value} {m : Nat} {news : List Value} (hsrc : Src w s m news) (hr : m ≤ room) (hB : B ≤ w.heap.size) :
    (m = 0 → (Builtin.append_ #[t, t] ty #[.slice ba 0 0, s]).run P w = .ok (.slice ba 0 0) w) ∧
    (m ≠ 0 → ∃ c w', (Builtin.append_ #[t, t] ty #[.slice ba 0 0, s]).run P w = .ok (.slice (some ⟨w.heap.size, 0, none⟩) m c) w' ∧ w'.ownsRow B e 1 (.slice (some ⟨w.heap.size, 0, none⟩) m c) m news ∧ Below w.heap.size w w') := by
  obtain ⟨i, z, g1, g2, g3, g4, g5, g6, g7, g8⟩ := run_typeInfo he
  have hsz : i.size = 1 := by rw [g2, hs]
  have hby : i.bytes ≤ 64 := by rw [g3]; exact hb
  have hzs : z.cells.size = 1 := by rw [g5, hz]; rfl
  obtain ⟨sa, c, rfl, hl, hc⟩ := hsrc
  have hbytes : (0 + m) * i.bytes ≤ 140737488355328 := Nat.le_trans (Nat.mul_le_mul (by omega : 0 + m ≤ room) hby) (by unfold room; omega)
  have hroom' : m ≤ 1099511627776 := hr
  refine ⟨fun h0 => ?_, fun h0 => ?_⟩
  · subst h0
    have hn : news = [] := List.eq_nil_of_length_eq_zero hl
    cases ba with
    | none =>
      cases sa with
      | none => exact run_append_none ht he (Nat.le_refl _)
      | some ad => simp [Builtin.append_, run_underlying ht, run_size he, Builtin.lenOf, Builtin.firstCells, loadCells, loadCellsFrom]
    | some bd =>
      cases sa with
      | none => exact run_append_none ht he (Nat.le_refl _)
      | some ad => simp [Builtin.append_, run_underlying ht, run_size he, Builtin.lenOf, Builtin.firstCells, loadCells, loadCellsFrom, storeCells]
  · have hne : ∃ u, news[0]? = some u := ⟨_, List.getElem?_eq_getElem (by omega)⟩
    obtain ⟨u0, hu0⟩ := hne
    obtain ⟨b0, o0, hsa, _⟩ := hc 0 u0 hu0
    subst hsa
    have hnews : ∀ j u, news[j]? = some u → w.cell? ((⟨b0, o0, none⟩ : Addr).add j) = some u := fun j u hj => by
      obtain ⟨b, o, h, hcell⟩ := hc j u hj
      simp only [Option.some.injEq] at h
      rw [h, Addr.add_lit]; exact hcell
    have hl' : news.length = m * i.size := by rw [hl, hsz]; omega
    have hrun : (Builtin.append_ #[t, t] ty #[.slice ba 0 0, .slice (some ⟨b0, o0, none⟩) m c]).run P w = .ok (.slice (some ⟨w.heap.size, 0, none⟩) m (grownCap w m 0 e)) (w.drew.alloc (.cells (news.toArray ++ Builtin.zeroCells z.cells (grownCap w m 0 e - m)) e)) := by
      cases ba with
      | none => exact run_append_nil (P := P) w t ty e i z ht g1 g4 ⟨b0, o0, none⟩ m c news hl' hnews (by omega) (by omega) (by have hb := hbytes; simp only [Nat.zero_add] at hb; omega)
      | some bd =>
        have := run_append_grow (P := P) w t ty e i z ht g1 g4 bd 0 0 [] (by simp) (fun j u hj => by simp at hj) ⟨b0, o0, none⟩ m c news hl' hnews (by omega) (by omega) (growslice_fits (by omega) hbytes)
        simpa using this
    refine ⟨_, _, hrun, ⟨by simpa using hl, .inr ⟨w.heap.size, _, _, rfl, hB, Go.heap_alloc_new w.drew _, ?_, ?_, ?_, ?_⟩⟩, ((Below.refl _ w).drew).alloc (Nat.le_refl _) _⟩
    · exact grownCap_ge w m 0 e
    · exact grownCap_le_maxLen w m 0 e (by unfold maxLen; omega)
    · have hge := grownCap_ge w m 0 e
      simp only [Array.size_append, List.size_toArray, size_zeroCells, hzs, hl]
      omega
    · simp only [Array.toList_append, Nat.mul_one, ← hl]
      exact List.take_left

/-- a row is appended to; other rows may be gone (into it) -/
theorem SRep.app (h : SRep w0 ob st a w η) {k : Nat} {r r' : ARow} {v' : Value} {cs' : List Value} {hp1 : List (Nat × ARow)} (hr : look st.hp k = some r)
    (hsub : ∀ j r, j ≠ k → look hp1 j = some r → look st.hp j = some r)
    (hw : ∀ b, b < w.heap.size → b ∉ bsOf η k r → w'.heap[b]? = w.heap[b]?) (hB : Below w0.B w w')
    (hnd : (bsOf (η.upd k v' cs') k r').Nodup) (hfr : ∀ b, b ∈ bsOf (η.upd k v' cs') k r' → (∃ j r0, look st.hp j = some r0 ∧ b ∈ bsOf η j r0 ∧ (j = k ∨ (j ≠ k ∧ look hp1 j = none))) ∨ w.heap.size ≤ b)
    (hrow : Keeps w (badOf ob st.hp η) w' (badOf ob ((k, r') :: rem k (fltH (ne k) (ne k) hp1)) (η.upd k v' cs')) →
      RowRep w' w0.B (badOf ob ((k, r') :: rem k (fltH (ne k) (ne k) hp1)) (η.upd k v' cs')) ((k, r') :: rem k (fltH (ne k) (ne k) hp1)) st.nx (η.upd k v' cs') k r') :
    SRep w0 ob { st with sl := fltS (ne k) (ne k) st.sl, hp := (k, r') :: rem k (fltH (ne k) (ne k) hp1) } a w' (η.upd k v' cs') := by
  have hoth : ∀ j r1, j ≠ k → look ((k, r') :: rem k (fltH (ne k) (ne k) hp1)) j = some r1 → ∃ r, look st.hp j = some r ∧ r1 = r.flt (ne k) (ne k) := fun j r1 hj h1 => by
    rw [look_upd, if_neg (Ne.symm hj), look_fltH] at h1
    obtain ⟨r, h2, rfl⟩ := Option.map_eq_some_iff.1 h1
    exact ⟨r, hsub j r hj h2, rfl⟩
  have hk' : look ((k, r') :: rem k (fltH (ne k) (ne k) hp1)) k = some r' := by rw [look_upd, if_pos rfl]
  have hok : ∀ j, j < st.nx → ne k j = true → OwnOk st.hp η ((k, r') :: rem k (fltH (ne k) (ne k) hp1)) (η.upd k v' cs') j := fun j _ hj => by
    have hjk := (ne_spec k j).1 hj
    exact OwnOk.of (fun r1 h1 => by obtain ⟨r, h2, rfl⟩ := hoth j r1 hjk h1; exact ⟨r, h2, (kind_flt _ _ r).symm⟩) (upd_ne _ _ _ _ j hjk).1 (upd_ne _ _ _ _ j hjk).2
  have hsk : ∀ j, j < st.nx → ne k j = true → SubOk st.hp η ((k, r') :: rem k (fltH (ne k) (ne k) hp1)) (η.upd k v' cs') j := fun j _ hj => by
    have hjk := (ne_spec k j).1 hj
    exact SubOk.of (fun r1 h1 => by obtain ⟨r, h2, rfl⟩ := hoth j r1 hjk h1; exact ⟨r, h2, (kind_flt _ _ r).symm⟩) (upd_ne _ _ _ _ j hjk).2
  obtain ⟨hh, hkp⟩ := HRep.step (k := k) (hp' := (k, r') :: rem k (fltH (ne k) (ne k) hp1)) (nx' := st.nx) (η' := η.upd k v' cs') (w' := w') h.heap (ne k) (ne k) r' (h.heap.lt k r hr) (Nat.le_refl _)
    hoth hk' (fun j hj => upd_ne _ _ _ _ j hj) (fun b hb hn => hw b hb (hn r hr)) hok hsk hnd
    (fun b hb => by
      rcases hfr b hb with ⟨j, r0, h1, h2, h3⟩ | h1
      · refine .inl ⟨j, r0, h1, h2, ?_⟩
        rcases h3 with h3 | ⟨h3, h4⟩
        · exact .inl h3
        · refine .inr ?_
          rw [look_upd, if_neg (Ne.symm h3), look_fltH, h4]; rfl
      · exact .inr h1) hrow
  exact h.heapStep (ne k) (ne k) hB hh hkp (Nat.le_refl _) hok hsk

theorem srows_cells {bad : Nat → Prop} {sa : Option Addr} {m2 : List (List Int)} (hc : ∀ i l, m2[i]? = some l → ∃ b o u, sa = some ⟨b, o, none⟩ ∧ ¬ bad b ∧ w.cell? ⟨b, o + i, none⟩ = some u ∧ SInts w bad .i64 l u) :
    ∃ cs2 : List Value, cs2.length = m2.length ∧ ∀ (i : Nat) l u, m2[i]? = some l → cs2[i]? = some u → ∃ b o, sa = some ⟨b, o, none⟩ ∧ w.cell? ⟨b, o + i, none⟩ = some u ∧ SInts w bad .i64 l u := by
  have : ∀ (m2 : List (List Int)) (n : Nat), (∀ i l, m2[i]? = some l → ∃ b o u, sa = some ⟨b, o, none⟩ ∧ ¬ bad b ∧ w.cell? ⟨b, o + (n + i), none⟩ = some u ∧ SInts w bad .i64 l u) →
      ∃ cs2 : List Value, cs2.length = m2.length ∧ ∀ (i : Nat) l u, m2[i]? = some l → cs2[i]? = some u → ∃ b o, sa = some ⟨b, o, none⟩ ∧ w.cell? ⟨b, o + (n + i), none⟩ = some u ∧ SInts w bad .i64 l u := by
    intro m2
    induction m2 with
    | nil => intro n _; exact ⟨[], rfl, fun i l u h => by simp at h⟩
    | cons l0 m2 ih =>
      intro n hc
      obtain ⟨b, o, u, h1, _, h2, h3⟩ := hc 0 l0 rfl
      obtain ⟨cs2, e1, e2⟩ := ih (n + 1) (fun i l hi => by
        have := hc (i + 1) l (by simpa using hi)
        rwa [show n + (i + 1) = n + 1 + i by omega] at this)
      refine ⟨u :: cs2, by simp [e1], fun i l u' hi hu => ?_⟩
      match i with
      | 0 =>
        simp at hi hu; subst hi hu
        exact ⟨b, o, h1, h2, h3⟩
      | i + 1 =>
        simp at hi hu
        have := e2 i l u' hi hu
        rwa [show n + 1 + i = n + (i + 1) by omega] at this
  obtain ⟨cs2, e1, e2⟩ := this m2 0 (fun i l hi => by simpa using hc i l hi)
  exact ⟨cs2, e1, fun i l u hi hu => by simpa using e2 i l u hi hu⟩

theorem aappend_sound (hΓ : TysOk P Γ) (h : SRep w0 ob st a w η) {t ty : Nat} {x y : AVal} {u s : Value} (hx : VR w ob st η x u) (hy : VR w ob st η y s) {K : AVal → St → Prop} (hk : aappend Γ st t x y K) :
    ∃ v q st' w' η', K q st' ∧ st'.sz = st.sz ∧ SRep w0 ob st' a w' η' ∧ VR w' ob st' η' q v ∧ (Builtin.append_ #[t, t] ty #[u, s]).run P w = .ok v w' := by
  unfold aappend at hk
  split at hk
  case h_2 => exact hk.elim
  case h_1 e s1 s2 s3 hti =>
    have ht := (hΓ.at hti).desc
    simp only [TD.is] at ht
    split at hk
    case h_3 => exact hk.elim
    case h_2 d1 sz by_ z _ hei =>
      have hte := hΓ.at hei
      split at hk
      case h_2 => exact hk.elim
      case h_1 hby =>
        have hby' := Nat.le_of_ble_eq_true hby
        split at hk
        case h_2 => exact hk.elim
        case h_1 k =>
          simp only [VR, VRep] at hx
          split at hk
          case h_2 => exact hk.elim
          case h_1 e0 s1 L hr =>
            obtain ⟨_, rfl⟩ := hx.2 _ hr
            split at hk
            case h_2 => exact hk.elim
            case h_1 he0 =>
              have := Nat.eq_of_beq_eq_true he0
              subst this
              split at hk
              case h_2 => exact hk.elim
              case h_1 hsz =>
                have hsz' := Nat.eq_of_beq_eq_true hsz
                split at hk
                case h_2 => exact hk.elim
                case h_1 hzl =>
                  have hzl' := Nat.eq_of_beq_eq_true hzl
                  split at hk
                  case h_2 => exact hk.elim
                  case h_1 k2 =>
                    split at hk
                    case h_1 => exact hk.elim
                    case h_2 =>
                      split at hk
                      case h_2 => exact hk.elim
                      case h_1 e2 s2 L2 hr2 =>
                        split at hk
                        case h_2 => exact hk.elim
                        case h_1 hq =>
                          have := Nat.eq_of_beq_eq_true hq
                          subst this
                          obtain ⟨_, rfl⟩ := hy.2 _ hr2
                          have hrow := h.heap.row k _ hr
                          have hrow2 := h.heap.row k2 _ hr2
                          obtain ⟨o1, css, hcel, hF⟩ := hrow
                          obtain ⟨o2, css2, hcel2, hF2⟩ := hrow2
                          have hone : ∀ {L : List (List Int × List (List Int))} {css : List (List Value)}, F2 (SRec w (badOf ob st.hp η) s2) L css → ∀ u, u ∈ css.flatten → u.oneCell' = true := by
                            intro L
                            induction L with
                            | nil => intro css hf u hu; cases css with | nil => simp at hu | cons _ _ => exact hf.elim
                            | cons r L ih =>
                              intro css hf u hu
                              cases css with
                              | nil => exact hf.elim
                              | cons cs css =>
                                rw [List.flatten_cons] at hu
                                rcases List.mem_append.1 hu with hu | hu
                                · exact hf.1.one u hu
                                · exact ih hf.2 u hu
                          obtain ⟨v', w', hrun, hown, hfr, hsz2, hsame, hB, hnd⟩ := run_append_freshN (ty := ty) ht hte (hsz' : _ = stp s2) (stp_pos s2) hby' (by simp only; omega) o1 (SrcN.own o2) (fun u hu => hone hF2 u (by rw [← hcel2]; exact hu)) hk.1 (wB h)
                          have hbs : bsOf η k (.recs e0 s2 L) = blk (η.val k) := by simp [bsOf, ARow.kind]
                          have hbs' : bsOf (η.upd k v' (η.cel k ++ η.cel k2)) k (.recs e0 s2 (L ++ L2)) = blk v' := by simp [bsOf, ARow.kind, upd_val]
                          have hs := h.app (r' := .recs e0 s2 (L ++ L2)) (v' := v') (cs' := η.cel k ++ η.cel k2) (hp1 := st.hp) hr (fun _ _ _ h => h) (fun b hb hn => hsame b hb (by rwa [hbs] at hn)) hB (by rw [hbs']; exact hnd)
                            (fun b hb => by
                              rw [hbs'] at hb
                              rcases hfr b hb with h1 | h1
                              · exact .inl ⟨k, _, hr, by rw [hbs]; exact h1, .inl rfl⟩
                              · exact .inr (by omega))
                            (fun hkp => ⟨by rw [upd_val, upd_cel, List.length_append]; exact hown, css ++ css2, by rw [upd_cel, hcel, hcel2, List.flatten_append],
                              F2.append (F2.imp (fun _ _ _ ho => ho.keeps hkp) hF) (F2.imp (fun _ _ _ ho => ho.keeps hkp) hF2)⟩)
                          refine ⟨v', _, _, w', _, hk.2, rfl, hs, ⟨hx.1, fun r hr => ?_⟩, hrun⟩
                          simp only [St.upd] at hr
                          rw [look_upd, if_pos rfl] at hr
                          obtain rfl := Option.some.inj hr
                          exact ⟨by simp [ARow.kind], (upd_val _ _ _ _).symm⟩
    case h_1 d1 by_ zv hei =>
      have hte := hΓ.at hei
      split at hk
      case h_2 => exact hk.elim
      case h_1 hby =>
        have hby' := Nat.le_of_ble_eq_true hby
        split at hk
        case h_2 => exact hk.elim
        case h_1 k =>
          simp only [VR, VRep] at hx
          -- what comes of it
          have fin : ∀ {r' : ARow} {v' : Value} {cs' : List Value} {w' : World} {hp1 : List (Nat × ARow)}, SRep w0 ob { st with sl := fltS (ne k) (ne k) st.sl, hp := (k, r') :: rem k (fltH (ne k) (ne k) hp1) } a w' (η.upd k v' cs') → r'.kind < 4 →
              VR w' ob { st with sl := fltS (ne k) (ne k) st.sl, hp := (k, r') :: rem k (fltH (ne k) (ne k) hp1) } (η.upd k v' cs') (.own k) v' := by
            intro r' v' cs' w' hp1 _ hkd
            refine ⟨hx.1, fun r hr => ?_⟩
            rw [look_upd, if_pos rfl] at hr
            obtain rfl := Option.some.inj hr
            exact ⟨hkd, (upd_val _ _ _ _).symm⟩
          split at hk
          case h_4 => exact hk.elim
          case h_1 e0 kd l hr =>
            obtain ⟨_, rfl⟩ := hx.2 _ hr
            split at hk
            case h_2 => exact hk.elim
            case h_1 he0 =>
              have := Nat.eq_of_beq_eq_true he0
              subst this
              have hrow := h.heap.row k _ hr
              have gen : ∀ {l2 : List Int}, Src w s l2.length (l2.map (Value.int kd)) → l.length + l2.length ≤ room → K (.own k) ((st.kill k).upd k (.ints e0 kd (l ++ l2))) →
                  ∃ v q st' w' η', K q st' ∧ st'.sz = st.sz ∧ SRep w0 ob st' a w' η' ∧ VR w' ob st' η' q v ∧ (Builtin.append_ #[t, t] ty #[η.val k, s]).run P w = .ok v w' := by
                intro l2 hsrc hroom hk
                obtain ⟨v', w', hrun, hown, hfr, hsz, hsame, hB, hnd⟩ := run_append_fresh (ty := ty) ht hte rfl hby' rfl hrow.1 hsrc (fun u hu => by obtain ⟨_, _, rfl⟩ := List.mem_map.1 hu; rfl) hroom (wB h)
                have hbs : bsOf η k (.ints e0 kd l) = blk (η.val k) := by simp [bsOf, ARow.kind]
                have hbs' : bsOf (η.upd k v' ((l ++ l2).map (Value.int kd))) k (.ints e0 kd (l ++ l2)) = blk v' := by simp [bsOf, ARow.kind, upd_val]
                have hs := h.app (r' := .ints e0 kd (l ++ l2)) (v' := v') (cs' := (l ++ l2).map (Value.int kd)) (hp1 := st.hp) hr (fun _ _ _ h => h) (fun b hb hn => hsame b hb (by rwa [hbs] at hn)) hB (by rw [hbs']; exact hnd)
                  (fun b hb => by
                    rw [hbs'] at hb
                    rcases hfr b hb with h1 | h1
                    · exact .inl ⟨k, _, hr, by rw [hbs]; exact h1, .inl rfl⟩
                    · exact .inr (by omega))
                  (fun _ => ⟨by rw [upd_val]; simp only [OwnInts, List.length_append, List.map_append]; exact hown, upd_cel _ _ _ _⟩)
                exact ⟨v', _, _, w', _, hk, rfl, hs, fin hs (by simp [ARow.kind]), hrun⟩
              split at hk
              case h_3 => exact hk.elim
              case h_1 k2 =>
                split at hk
                case h_1 => exact hk.elim
                case h_2 =>
                  split at hk
                  case h_2 => exact hk.elim
                  case h_1 e2 kd2 l2 hr2 =>
                    split at hk
                    case h_2 => exact hk.elim
                    case h_1 hq =>
                      have := keq_spec hq
                      subst this
                      obtain ⟨_, rfl⟩ := hy.2 _ hr2
                      exact gen (Src.own (h.heap.row k2 _ hr2).1) hk.1 hk.2
              case h_2 kd2 l2 =>
                split at hk
                case h_2 => exact hk.elim
                case h_1 hq =>
                  have := keq_spec hq
                  subst this
                  exact gen (Src.ints hy) hk.1 hk.2
          case h_2 e0 e1 m hr =>
            obtain ⟨_, rfl⟩ := hx.2 _ hr
            split at hk
            case h_2 => exact hk.elim
            case h_1 he0 =>
              have := Nat.eq_of_beq_eq_true he0
              subst this
              split at hk
              case h_3 => exact hk.elim
              case h_2 m2 =>
                split at hk
                case h_2 => exact hk.elim
                case h_1 =>
                  have hrow := h.heap.row k _ hr
                  have hcel0 : η.cel k = [] := by
                    have := F2.length hrow.2
                    exact List.eq_nil_of_length_eq_zero (by simpa using this.symm)
                  obtain ⟨sa, c, hv, hsl, hsc, hc⟩ := hy
                  obtain ⟨cs2, hl2, hcs⟩ := srows_cells hc
                  have hF : F2 (SInts w (badOf ob st.hp η) .i64) m2 cs2 := F2.intro hl2.symm (fun i l u hi hu => by obtain ⟨_, _, _, _, h3⟩ := hcs i l u hi hu; exact h3)
                  have hsrc : Src w s m2.length cs2 := ⟨sa, c, hv, hl2, fun j u hj => by
                    obtain ⟨l, hl⟩ : ∃ l, m2[j]? = some l := ⟨_, List.getElem?_eq_getElem (by have := (List.getElem?_eq_some_iff.1 hj).1; omega)⟩
                    obtain ⟨b, o, h1, h2, _⟩ := hcs j l u hl hj
                    exact ⟨b, o, h1, h2⟩⟩
                  have ho : w.ownsRow w0.B e0 1 (η.val k) 0 [] := by have := hrow.1; rw [hcel0] at this; exact this
                  obtain ⟨v', w', hrun, hown, hfr, hsz, hsame, hB, hnd⟩ := run_append_fresh (ty := ty) ht hte rfl hby' rfl ho hsrc (fun u hu => by
                    obtain ⟨i, hi⟩ := List.getElem?_of_mem hu
                    obtain ⟨l1, _, ho⟩ := F2.at' hF hi
                    obtain ⟨b, c, hu', _⟩ := ho
                    rw [hu']; rfl) (by simpa using hk.1) (wB h)
                  simp only [Nat.zero_add, List.nil_append] at hown
                  have hbs : bsOf η k (.rows e0 e1 true []) = blk (η.val k) := by simp [bsOf, ARow.kind, hcel0]
                  have hbs' : bsOf (η.upd k v' cs2) k (.rows e0 e1 false m2) = blk v' := by simp [bsOf, ARow.kind, upd_val]
                  have hs := h.app (r' := .rows e0 e1 false m2) (v' := v') (cs' := cs2) (hp1 := st.hp) hr (fun _ _ _ h => h) (fun b hb hn => hsame b hb (by rwa [hbs] at hn)) hB (by rw [hbs']; exact hnd)
                    (fun b hb => by
                      rw [hbs'] at hb
                      rcases hfr b hb with h1 | h1
                      · exact .inl ⟨k, _, hr, by rw [hbs]; exact h1, .inl rfl⟩
                      · exact .inr (by omega))
                    (fun hkp => ⟨by rw [upd_val, upd_cel]; exact hown, by
                      rw [upd_cel]
                      exact F2.imp (fun _ _ _ ho => ho.keeps hkp) hF⟩)
                  exact ⟨v', _, _, w', _, hk.2, rfl, hs, fin hs (by simp [ARow.kind]), hrun⟩
              case h_1 k2 =>
                split at hk
                case h_1 => exact hk.elim
                case h_2 hne =>
                  have hne' : k2 ≠ k := fun e => by rw [e, Nat.beq_refl] at hne; cases hne
                  split at hk
                  case h_2 => exact hk.elim
                  case h_1 e3 e2 m2 hr2 =>
                    split at hk
                    case h_2 => exact hk.elim
                    case h_1 hq =>
                      have := Nat.eq_of_beq_eq_true hq
                      subst this
                      obtain ⟨_, rfl⟩ := hy.2 _ hr2
                      have hrow := h.heap.row k _ hr
                      have hrow2 := h.heap.row k2 _ hr2
                      obtain ⟨v', w', hrun, hown, hfr, hsz, hsame, hB, hnd⟩ := run_append_fresh (ty := ty) ht hte rfl hby' rfl hrow.1 (Src.own hrow2.1) (fun u hu => by
                        obtain ⟨i, hi⟩ := List.getElem?_of_mem hu
                        obtain ⟨l1, _, ho⟩ := F2.at' hrow2.2 hi
                        obtain ⟨b, c, hu'⟩ := len_own ho
                        rw [hu']; rfl) hk.1 (wB h)
                      have hbs : bsOf η k (.rows e0 e2 true m) = blk (η.val k) ++ (η.cel k).flatMap blk := by simp [bsOf, ARow.kind]
                      have hbs2 : bsOf η k2 (.rows e3 e2 true m2) = blk (η.val k2) ++ (η.cel k2).flatMap blk := by simp [bsOf, ARow.kind]
                      have hbs' : bsOf (η.upd k v' (η.cel k ++ η.cel k2)) k (.rows e0 e2 true (m ++ m2)) = blk v' ++ ((η.cel k).flatMap blk ++ (η.cel k2).flatMap blk) := by simp [bsOf, ARow.kind, upd_val, upd_cel]
                      have hnd1 := h.heap.nodup k _ hr
                      have hnd2 := h.heap.nodup k2 _ hr2
                      rw [hbs] at hnd1
                      rw [hbs2] at hnd2
                      obtain ⟨n1, n2, n3⟩ := List.nodup_append.1 hnd1
                      obtain ⟨p1, p2, p3⟩ := List.nodup_append.1 hnd2
                      have hap : ∀ b, b ∈ blk (η.val k2) ++ (η.cel k2).flatMap blk → b ∉ blk (η.val k) ++ (η.cel k).flatMap blk := fun b hb2 => by
                        have := h.heap.apart k2 _ k _ hr2 hr hne' b (by rw [hbs2]; exact hb2)
                        rwa [hbs] at this
                      have hlt : ∀ b, b ∈ (η.cel k).flatMap blk ++ (η.cel k2).flatMap blk → b < w.heap.size := fun b hb => by
                        rcases List.mem_append.1 hb with hb | hb
                        · exact (hrow.lt b (by rw [hbs]; exact List.mem_append.2 (.inr hb))).2
                        · exact (hrow2.lt b (by rw [hbs2]; exact List.mem_append.2 (.inr hb))).2
                      have hs := h.app (r' := .rows e0 e2 true (m ++ m2)) (v' := v') (cs' := η.cel k ++ η.cel k2) (hp1 := rem k2 st.hp) hr
                        (fun j r hj hl => by
                          by_cases hj2 : j = k2
                          · subst hj2; rw [look_rem] at hl; cases hl
                          · rwa [look_rem_ne _ _ _ hj2] at hl)
                        (fun b hb hn => hsame b hb (fun hm => hn (by rw [hbs]; exact List.mem_append.2 (.inl hm)))) hB
                        (by
                          rw [hbs']
                          refine List.nodup_append.2 ⟨hnd, List.nodup_append.2 ⟨n2, p2, fun b hb b' hb' e => ?_⟩, fun b hb b' hb' e => ?_⟩
                          · subst e; exact hap b (List.mem_append.2 (.inr hb')) (List.mem_append.2 (.inr hb))
                          · subst e
                            rcases hfr b hb with h1 | h1
                            · rcases List.mem_append.1 hb' with h2 | h2
                              · exact n3 b h1 b h2 rfl
                              · exact hap b (List.mem_append.2 (.inr h2)) (List.mem_append.2 (.inl h1))
                            · have := hlt b hb'; omega)
                        (fun b hb => by
                          rw [hbs'] at hb
                          rcases List.mem_append.1 hb with hb | hb
                          · rcases hfr b hb with h1 | h1
                            · exact .inl ⟨k, _, hr, by rw [hbs]; exact List.mem_append.2 (.inl h1), .inl rfl⟩
                            · exact .inr (by omega)
                          · rcases List.mem_append.1 hb with hb | hb
                            · exact .inl ⟨k, _, hr, by rw [hbs]; exact List.mem_append.2 (.inr hb), .inl rfl⟩
                            · exact .inl ⟨k2, _, hr2, by rw [hbs2]; exact List.mem_append.2 (.inr hb), .inr ⟨hne', look_rem _ _⟩⟩)
                        (fun _ => by
                          refine ⟨by rw [upd_val, upd_cel, List.length_append]; exact hown, ?_⟩
                          rw [upd_cel]
                          refine F2.append (F2.imp (fun l1 u hu ho => ?_) hrow.2) (F2.imp (fun l1 u hu ho => ?_) hrow2.2)
                          · refine ownsRow_same ho (fun b hb => hsame b (ownsRow_lt ho b hb).2 (fun hm => n3 b hm b (List.mem_flatMap.2 ⟨u, hu, hb⟩) rfl))
                          · refine ownsRow_same ho (fun b hb => hsame b (ownsRow_lt ho b hb).2 (fun hm => hap b (List.mem_append.2 (.inr (List.mem_flatMap.2 ⟨u, hu, hb⟩))) (List.mem_append.2 (.inl hm)))))
                      exact ⟨v', _, _, w', _, hk.2, rfl, hs, fin hs (by simp [ARow.kind]), hrun⟩
          case h_3 e0 e1 m hr =>
            obtain ⟨_, rfl⟩ := hx.2 _ hr
            split at hk
            case h_2 => exact hk.elim
            case h_1 he0 =>
              have := Nat.eq_of_beq_eq_true he0
              subst this
              have hrow := h.heap.row k _ hr
              have gen : ∀ {m2 : List (List Int)} {cs2 : List Value}, Src w s m2.length cs2 → F2 (SInts w (badOf ob st.hp η) .i64) m2 cs2 → m.length + m2.length ≤ room → K (.own k) ((st.kill k).upd k (.rows e0 e1 false (m ++ m2))) →
                  ∃ v q st' w' η', K q st' ∧ st'.sz = st.sz ∧ SRep w0 ob st' a w' η' ∧ VR w' ob st' η' q v ∧ (Builtin.append_ #[t, t] ty #[η.val k, s]).run P w = .ok v w' := by
                intro m2 cs2 hsrc hF hroom hk
                obtain ⟨v', w', hrun, hown, hfr, hsz, hsame, hB, hnd⟩ := run_append_fresh (ty := ty) ht hte rfl hby' rfl hrow.1 hsrc (fun u hu => by
                  obtain ⟨i, hi⟩ := List.getElem?_of_mem hu
                  obtain ⟨l1, _, ho⟩ := F2.at' hF hi
                  obtain ⟨b, c, hu', _⟩ := ho
                  rw [hu']; rfl) hroom (wB h)
                have hbs : bsOf η k (.rows e0 e1 false m) = blk (η.val k) := by simp [bsOf, ARow.kind]
                have hbs' : bsOf (η.upd k v' (η.cel k ++ cs2)) k (.rows e0 e1 false (m ++ m2)) = blk v' := by simp [bsOf, ARow.kind, upd_val]
                have hs := h.app (r' := .rows e0 e1 false (m ++ m2)) (v' := v') (cs' := η.cel k ++ cs2) (hp1 := st.hp) hr (fun _ _ _ h => h) (fun b hb hn => hsame b hb (by rwa [hbs] at hn)) hB (by rw [hbs']; exact hnd)
                  (fun b hb => by
                    rw [hbs'] at hb
                    rcases hfr b hb with h1 | h1
                    · exact .inl ⟨k, _, hr, by rw [hbs]; exact h1, .inl rfl⟩
                    · exact .inr (by omega))
                  (fun hkp => ⟨by rw [upd_val, upd_cel, List.length_append]; exact hown, by
                    rw [upd_cel]
                    exact F2.append (F2.imp (fun _ _ _ ho => ho.keeps hkp) hrow.2) (F2.imp (fun _ _ _ ho => ho.keeps hkp) hF)⟩)
                exact ⟨v', _, _, w', _, hk, rfl, hs, fin hs (by simp [ARow.kind]), hrun⟩
              split at hk
              case h_3 => exact hk.elim
              case h_1 k2 =>
                split at hk
                case h_1 => exact hk.elim
                case h_2 =>
                  split at hk
                  case h_2 => exact hk.elim
                  case h_1 e3 e2 m2 hr2 =>
                    obtain ⟨_, rfl⟩ := hy.2 _ hr2
                    have hrow2 := h.heap.row k2 _ hr2
                    exact gen (Src.own hrow2.1) hrow2.2 hk.1 hk.2
              case h_2 m2 =>
                obtain ⟨sa, c, hv, _, _, hc⟩ := hy
                obtain ⟨cs2, hl2, hcs⟩ : ∃ cs2 : List Value, cs2.length = m2.length ∧ ∀ (i : Nat) l u, m2[i]? = some l → cs2[i]? = some u → ∃ b o, sa = some ⟨b, o, none⟩ ∧ w.cell? ⟨b, o + i, none⟩ = some u ∧ SInts w (badOf ob st.hp η) .i64 l u := by
                  have : ∀ (m2 : List (List Int)) (n : Nat), (∀ i l, m2[i]? = some l → ∃ b o u, sa = some ⟨b, o, none⟩ ∧ ¬ badOf ob st.hp η b ∧ w.cell? ⟨b, o + (n + i), none⟩ = some u ∧ SInts w (badOf ob st.hp η) .i64 l u) →
                      ∃ cs2 : List Value, cs2.length = m2.length ∧ ∀ (i : Nat) l u, m2[i]? = some l → cs2[i]? = some u → ∃ b o, sa = some ⟨b, o, none⟩ ∧ w.cell? ⟨b, o + (n + i), none⟩ = some u ∧ SInts w (badOf ob st.hp η) .i64 l u := by
                    intro m2
                    induction m2 with
                    | nil => intro n _; exact ⟨[], rfl, fun i l u h => by simp at h⟩
                    | cons l0 m2 ih =>
                      intro n hc
                      obtain ⟨b, o, u, h1, _, h2, h3⟩ := hc 0 l0 rfl
                      obtain ⟨cs2, e1, e2⟩ := ih (n + 1) (fun i l hi => by
                        have := hc (i + 1) l (by simpa using hi)
                        rwa [show n + (i + 1) = n + 1 + i by omega] at this)
                      refine ⟨u :: cs2, by simp [e1], fun i l u' hi hu => ?_⟩
                      match i with
                      | 0 =>
                        simp at hi hu; subst hi hu
                        exact ⟨b, o, h1, h2, h3⟩
                      | i + 1 =>
                        simp at hi hu
                        have := e2 i l u' hi hu
                        rwa [show n + 1 + i = n + (i + 1) by omega] at this
                  obtain ⟨cs2, e1, e2⟩ := this m2 0 (fun i l hi => by simpa using hc i l hi)
                  exact ⟨cs2, e1, fun i l u hi hu => by simpa using e2 i l u hi hu⟩
                refine gen (cs2 := cs2) ⟨sa, c, hv, hl2, fun j u hj => ?_⟩ (F2.intro hl2.symm (fun i l u hi hu => by obtain ⟨_, _, _, _, h3⟩ := hcs i l u hi hu; exact h3)) hk.1 hk.2
                obtain ⟨l, hl⟩ : ∃ l, m2[j]? = some l := ⟨_, List.getElem?_eq_getElem (by have := (List.getElem?_eq_some_iff.1 hj).1; omega)⟩
                obtain ⟨b, o, h1, h2, _⟩ := hcs j l u hl hj
                exact ⟨b, o, h1, h2⟩
end
end Go.Aw
/- All operations that make or write memory. -/
namespace Go.Aw
open Go.RowKit

section
variable {P : Program} {Γ : Tys} {w0 : Base} {w w' : World} {ob : Nat → Prop} {st : St} {a : Act} {η : Env}

theorem made_eq (zv : Value) (n : Nat) : madeCells #[zv] n = (List.replicate n zv).toArray := init_cells zv n

theorem SRep.adopt (h : SRep w0 ob st a w η) {r : ARow} (hr : ∀ bad hp nx (η' : Env) k, η'.val k = .slice none 0 0 → η'.cel k = [] → RowRep w w0.B bad hp nx η' k r) (hk : r.kind < 4) :
    ∃ η', SRep w0 ob (st.new r) a w η' ∧ VR w ob (st.new r) η' (.own st.nx) (.slice none 0 0) := by
  have hs := h.newRow (r := r) (v := .slice none 0 0) (cs := []) (w' := w) (hp1 := st.hp) (fun _ _ h => h) (Below.refl _ _)
    (by simp [bsOf, upd_val, upd_cel, blk]) (fun b hb => by simp [bsOf, upd_val, upd_cel, blk] at hb) (fun _ => hr _ _ _ _ _ (upd_val _ _ _ _) (upd_cel _ _ _ _))
  refine ⟨_, hs, by simp only [St.new]; omega, fun r' hr' => ?_⟩
  simp only [St.new, look_cons, if_true, Option.some.injEq] at hr'
  subst hr'
  exact ⟨hk, by rw [upd_val]⟩

theorem aappendN_sound (hΓ : TysOk P Γ) (h : SRep w0 ob st a w η) {t ty : Nat} {x y : AVal} {u : Value} {o : Operand} (hx : VR w ob st η x u) (hy : ev st o = some y) {K : AVal → St → Prop} (hk : aappendN Γ st t x y K) :
    ∃ v q st' w' η', K q st' ∧ st'.sz = st.sz ∧ SRep w0 ob st' a w' η' ∧ VR w' ob st' η' q v ∧ (Builtin.append_ #[t, t] ty #[u, a.eval o]).run P w = .ok v w' := by
  have nil : ∀ (e : Nat) (w : World), w.ownsRow w0.B e 1 (.slice none 0 0) 0 [] := fun _ _ => ⟨rfl, .inl ⟨rfl, rfl⟩⟩
  have hev : ∀ r, ev (st.new r) o = some y := fun r => by cases o <;> exact hy
  unfold aappendN at hk
  split at hk
  case h_1 =>
    obtain ⟨rfl, _⟩ := hx
    split at hk
    case h_2 => exact hk.elim
    case h_1 e s1 s2 s3 hs =>
      split at hk
      case h_3 => exact hk.elim
      case h_1 k _ _ _ he =>
        obtain ⟨η', h', hv⟩ := h.adopt (r := .ints e k []) (fun bad hp nx η' j h1 h2 => ⟨by rw [OwnInts, h1]; exact nil _ _, by rw [h2]; rfl⟩) (by simp [ARow.kind])
        obtain ⟨v, q, st', w', η2, g1, g2, g3, g4, g5⟩ := aappend_sound (ty := ty) hΓ h' hv (ev_sound h' (hev _)) hk
        exact ⟨v, q, st', w', η2, g1, g2, g3, g4, g5⟩
      case h_2 e1 _ _ _ he =>
        obtain ⟨η', h', hv⟩ := h.adopt (r := .rows e e1 (ownRows st y) []) (fun bad hp nx η' j h1 h2 => by
          cases ownRows st y with
          | true => exact ⟨by rw [h1, h2]; exact nil _ _, by rw [h2]; trivial⟩
          | false => exact ⟨by rw [h1, h2]; exact nil _ _, by rw [h2]; trivial⟩) (by cases ownRows st y <;> simp [ARow.kind])
        obtain ⟨v, q, st', w', η2, g1, g2, g3, g4, g5⟩ := aappend_sound (ty := ty) hΓ h' hv (ev_sound h' (hev _)) hk
        exact ⟨v, q, st', w', η2, g1, g2, g3, g4, g5⟩
  case h_2 =>
    obtain ⟨ba, rfl⟩ := hx
    split at hk
    case h_2 => exact hk.elim
    case h_1 e s1 s2 s3 hti =>
      have ht := (hΓ.at hti).desc
      simp only [TD.is] at ht
      split at hk
      case h_2 => exact hk.elim
      case h_1 d1 by_ zv hei =>
        have hte := hΓ.at hei
        split at hk
        case h_2 => exact hk.elim
        case h_1 hby =>
          have hby' := Nat.le_of_ble_eq_true hby
          split at hk
          case h_2 => exact hk.elim
          case h_1 l =>
            have hsrc := Src.ints (ev_sound h hy)
            by_cases hl : l = []
            · have hrun := (run_append_nul (B := w0.B) (ty := ty) (ba := ba) ht hte rfl hby' rfl hsrc (by subst hl; simp) (wB h)).1 (by subst hl; rfl)
              exact ⟨_, _, st, w, η, hk.1 hl, rfl, h, ⟨ba, rfl⟩, hrun⟩
            · obtain ⟨hr, hk⟩ := hk.2 hl
              have hne : l.length ≠ 0 := fun h0 => hl (List.eq_nil_of_length_eq_zero h0)
              obtain ⟨c, w', hrun, hown, hB⟩ := (run_append_nul (B := w0.B) (ty := ty) (ba := ba) ht hte rfl hby' rfl hsrc hr (wB h)).2 hne
              have hs := h.newRow (r := .ints e .i64 l) (v := .slice (some ⟨w.heap.size, 0, none⟩) l.length c) (cs := l.map (Value.int .i64)) (w' := w') (hp1 := st.hp)
                (fun _ _ h => h) hB (by simp [bsOf, upd_val, ARow.kind, blk]) (fun b hb => by simp [bsOf, upd_val, ARow.kind, blk] at hb; exact .inr (by omega))
                (fun _ => ⟨by rw [upd_val]; exact hown, upd_cel _ _ _ _⟩)
              refine ⟨_, _, _, w', _, hk, rfl, hs, ⟨by simp only [St.new]; omega, fun r hr => ?_⟩, hrun⟩
              simp only [St.new, look_cons, if_true, Option.some.injEq] at hr
              subst hr
              exact ⟨by simp [ARow.kind], by rw [upd_val]⟩
  case h_3 => exact aappend_sound (ty := ty) hΓ h hx (ev_sound h hy) hk

theorem amake_sound (hΓ : TysOk P Γ) (h : SRep w0 ob st a w η) {t : Nat} {x y : AVal} {u v : Value} (hx : VR w ob st η x u) (hy : VR w ob st η y v) {K : AVal → St → Prop} (hk : amake Γ st t x y K) :
    ∃ z q st' w' η', K q st' ∧ st'.sz = st.sz ∧ SRep w0 ob st' a w' η' ∧ VR w' ob st' η' q z ∧ (Instr.makeSlice t u v).run P w = .ok z w' ∧ Below w.heap.size w w' := by
  unfold amake at hk
  split at hk
  case h_2 => exact hk.elim
  case h_1 na =>
    split at hk
    case h_2 => exact hk.elim
    case h_1 nb =>
      obtain ⟨rfl, _⟩ := hx
      obtain ⟨rfl, _⟩ := hy
      split at hk
      case h_2 => exact hk.elim
      case h_1 e s1 s2 s3 hti =>
        have ht := (hΓ.at hti).desc
        simp only [TD.is] at ht
        have gen : ∀ {zv : Value} {n : Nat} {ti : TI}, TyOk P e ti → ti.size = 1 → ti.zero = [zv] → ti.bytes ≤ 64 → n ≤ room →
            (Instr.makeSlice t (.int .i64 (n : Int)) (.int .i64 (n : Int))).run P w = .ok (.slice (some ⟨w.heap.size, 0, none⟩) n n) (w.alloc (.cells (List.replicate n zv).toArray e)) := by
          intro zv n ti hte hs hz hb hn
          obtain ⟨i, z, g1, g2, g3, g4, g5, _⟩ := run_typeInfo hte
          have hn' : n ≤ 1099511627776 := hn
          have hb2 : (i.bytes : Int) * (n : Int) ≤ 281474976710656 := by
            have : i.bytes * n ≤ 64 * 1099511627776 := Nat.mul_le_mul (by rw [g3]; exact hb) hn'
            have h2 : ((i.bytes * n : Nat) : Int) ≤ 281474976710656 := by omega
            rwa [Int.natCast_mul] at h2
          have := run_make (P := P) w t e i z ht g1 g4 .i64 .i64 n n (by omega) (Int.le_refl _) hb2 (by omega)
          rw [g5, hz] at this
          have hsz : i.size = 1 := by rw [g2, hs]
          rw [hsz, Nat.mul_one] at this
          simp only [Int.toNat_natCast] at this
          rw [this, made_eq]
        split at hk
        case h_3 => exact hk.elim
        case h_1 k by_ k2 hei =>
          split at hk
          case h_2 => exact hk.elim
          case h_1 hq =>
            have := keq_spec hq
            subst this
            split at hk
            case h_2 => exact hk.elim
            case h_1 hby =>
              obtain ⟨n, rfl, rfl, hn, hk⟩ := hk
              have hn' : n ≤ 1099511627776 := hn
              have hrun := gen (hΓ.at hei) rfl rfl (Nat.le_of_ble_eq_true hby) hn
              obtain ⟨η', hs, hv⟩ := h.newInts (e := e) (k := k) (l := List.replicate n 0) (by simp; unfold maxLen; omega)
              simp only [List.map_replicate, List.length_replicate] at hs hv
              exact ⟨_, _, _, _, η', hk, rfl, hs, hv, hrun, below_alloc _ _⟩
        case h_2 e1 by_ hei =>
          split at hk
          case h_2 => exact hk.elim
          case h_1 hby =>
            obtain ⟨n, rfl, rfl, hn, hk⟩ := hk
            have hn' : n ≤ 1099511627776 := hn
            have hrun := gen (hΓ.at hei) rfl rfl (Nat.le_of_ble_eq_true hby) hn
            have hfl : (List.replicate n (Value.slice none 0 0)).flatMap blk = [] := by simp [blk]
            obtain ⟨η', hs, hv⟩ := h.newRows (hp1 := st.hp) (fun _ _ h => h) (e := e) (e1 := e1) (m := List.replicate n []) (cs := List.replicate n (.slice none 0 0)) (by simp; unfold maxLen; omega)
              (F2.intro (by simp) (fun i l u h1 h2 => by
                rw [List.getElem?_replicate] at h1 h2
                split at h1
                · simp only [Option.some.injEq] at h1
                  rw [if_pos ‹_›] at h2
                  simp only [Option.some.injEq] at h2
                  subst h1 h2
                  exact World.ownsRow_nil w w0.B e1 1
                · cases h1)) (by rw [hfl]; exact List.nodup_nil) (fun b hb => by rw [hfl] at hb; simp at hb)
            simp only [List.length_replicate] at hv
            exact ⟨_, _, _, _, η', hk, rfl, hs, hv, hrun, below_alloc _ _⟩

theorem zero_reps {bad : Nat → Prop} {hp : List (Nat × ARow)} {nx : Nat} : ∀ {zz : List Value}, zz.all Value.oneCell' = true → VReps w bad hp nx η (zz.map AVal.c) zz
  | [], _ => trivial
  | y :: r, hz => by
    simp only [List.all_cons, Bool.and_eq_true] at hz
    exact ⟨⟨rfl, hz.1⟩, zero_reps hz.2⟩

theorem an_sound (hΓ : TysOk P Γ) (h : SRep w0 ob st a w η) {o : Oper} {K : AVal → St → Prop} (hk : an Γ st o K) : ANOut P w0 ob st a w o K := by
  unfold an at hk
  obtain ⟨dst, op, type, pos, after, guard⟩ := o
  simp only at hk
  split at hk
  case h_1 e =>
    cases hti : look Γ e with
    | none => rw [hti] at hk; exact hk.elim
    | some ti =>
      rw [hti] at hk
      simp only at hk
      split at hk
      case h_2 => exact hk.elim
      case h_1 hz =>
        split at hk
        case h_1 => exact hk.elim
        case h_2 z0 zr hzl =>
          obtain ⟨i, z, g1, g2, g3, g4, g5, g6, g7, g8⟩ := run_typeInfo (hΓ.at hti)
          obtain ⟨η', hs, hv⟩ := h.newCells (e := e) (zero_reps hz) (by rw [hzl]; simp)
          refine ⟨_, _, _, _, η', hk, rfl, hs, hv, .inl ?_, fun _ => below_alloc _ _⟩
          simp [execOp, Instr.alloc, g8, newVar, newRow, g5]
  case h_2 e x =>
    cases hti : look Γ e with
    | none => rw [hti] at hk; exact hk.elim
    | some ti =>
      rw [hti] at hk
      simp only at hk
      split at hk
      case h_1 l hx =>
        split at hk
        case h_1 => exact hk.elim
        case h_2 q0 qr =>
          obtain ⟨cs, he, hr⟩ := ev_sound h hx
          obtain ⟨η', hs, hv⟩ := h.newCells (e := e) hr (by simp)
          exact ⟨_, _, _, _, η', hk, rfl, hs, hv, .inl (by simp [execOp, Instr.box, newVar, newRow, he, Value.cells]), fun _ => below_alloc _ _⟩
      case h_2 y _ hx =>
        split at hk
        case h_2 => exact hk.elim
        case h_1 hone =>
          have hy := ev_sound h hx
          obtain ⟨h1, h2⟩ := one_cell h.heap hone hy
          obtain ⟨η', hs, hv⟩ := h.newCells (e := e) (l := [y]) (cs := [a.eval x]) ⟨hy, trivial⟩ (by simp)
          exact ⟨_, _, _, _, η', hk, rfl, hs, hv, .inl (by simp [execOp, Instr.box, newVar, newRow, h2]), fun _ => below_alloc _ _⟩
      case h_3 => exact hk.elim
  case h_3 t len ps =>
    cases hp : parts st ps.toList with
    | none => rw [hp] at hk; exact hk.elim
    | some l =>
      rw [hp] at hk
      have hps := parts_sound h hp
      obtain ⟨v, x, st', w', η', g1, g2, g3, g4, g5, g6⟩ := abuildSlice_sound hΓ h (vs := ps.map fun (i, x) => (i, a.eval x)) (by simpa using hps) hk
      exact ⟨v, x, st', w', η', g1, g2, g3, g4, .inl (by simp [execOp, g5]), fun _ => g6⟩
  case h_4 t x y =>
    cases hx : ev st x with
    | none => rw [hx] at hk; exact hk.elim
    | some p =>
      rw [hx] at hk
      cases hy : ev st y with
      | none => rw [hy] at hk; exact hk.elim
      | some q =>
        rw [hy] at hk
        obtain ⟨st', w', η', g1, g2, g3, g4⟩ := astore_sound hΓ h (ev_sound h hx) (ev_sound h hy) hk
        exact ⟨undef, .un, st', w', η', g1, g2, g3, trivial, .inr ⟨by simp [execOp, g4], rfl⟩, fun hf => by cases hf⟩
  case h_5 t x y =>
    cases hx : ev st x with
    | none => rw [hx] at hk; exact hk.elim
    | some p =>
      rw [hx] at hk
      cases hy : ev st y with
      | none => rw [hy] at hk; exact hk.elim
      | some q =>
        rw [hy] at hk
        obtain ⟨z, q', st', w', η', g1, g2, g3, g4, g5, g6⟩ := amake_sound hΓ h (ev_sound h hx) (ev_sound h hy) hk
        exact ⟨z, q', st', w', η', g1, g2, g3, g4, .inl (by simp [execOp, g5]), fun _ => g6⟩
  case h_6 args tys =>
    split at hk
    case h_2 => exact hk.elim
    case h_1 x y hargs =>
      split at hk
      case h_2 => exact hk.elim
      case h_1 t t' htys =>
        split at hk
        case h_2 => exact hk.elim
        case h_1 htt =>
          have := Nat.eq_of_beq_eq_true htt
          subst this
          cases hx : ev st x with
          | none => rw [hx] at hk; exact hk.elim
          | some p =>
            rw [hx] at hk
            cases hy : ev st y with
            | none => rw [hy] at hk; exact hk.elim
            | some q =>
              rw [hy] at hk
              obtain ⟨al⟩ := args
              obtain ⟨tl⟩ := tys
              simp only at hargs htys
              subst hargs htys
              obtain ⟨v, q', st', w', η', g1, g2, g3, g4, g5⟩ := aappendN_sound (ty := type) hΓ h (ev_sound h hx) hy hk
              exact ⟨v, q', st', w', η', g1, g2, g3, g4, .inl (by simp [execOp, resolve, invoke, builtin, g5]), fun hf => by cases hf⟩
  case h_7 => exact hk.elim
end
end Go.Aw
/- Calls: what a callee is handed, and what comes back. -/
namespace Go.Aw
open Go.RowKit

section
variable {P : Program} {Γ : Tys} {w0 : Base} {w w' : World} {ob : Nat → Prop} {st : St} {a : Act} {η : Env} {B : Nat} {hp : List (Nat × ARow)} {nx : Nat}

theorem own_ints {e : Nat} {k : IntKind} {l : List Int} {v : Value} (h : OwnInts w B e k l v) : SInts w (fun _ => False) k l v := by
  rcases h.2 with ⟨hv, h0⟩ | ⟨g, cap, cur, hv, hg, hh, hnc, hcm, r⟩
  · have : l = [] := List.eq_nil_of_length_eq_zero h0
    subst this
    exact ⟨none, 0, by simpa using hv, by simp, by unfold maxLen; omega, fun i x hi => by simp at hi⟩
  · refine ⟨some ⟨g, 0, none⟩, cap, hv, hnc, hcm, fun i x hi => ⟨g, 0, rfl, fun h => h, ?_⟩⟩
    rw [Nat.zero_add]
    exact own_ptr h (by rw [hv]; rfl) (by rw [List.getElem?_map, hi]; rfl)

theorem own_rows {e : Nat} {m : List (List Int)} {cs : List Value} {v : Value} (h : w.ownsRow B e 1 v m.length cs) (hF : F2 (SInts w (fun _ => False) .i64) m cs) : SRows w (fun _ => False) m v := by
  rcases h.2 with ⟨hv, h0⟩ | ⟨g, cap, cur, hv, hg, hh, hnc, hcm, r⟩
  · have : m = [] := List.eq_nil_of_length_eq_zero h0
    subst this
    exact ⟨none, 0, by simpa using hv, by simp, by unfold maxLen; omega, fun i x hi => by simp at hi⟩
  · refine ⟨some ⟨g, 0, none⟩, cap, hv, hnc, hcm, fun i x hi => ?_⟩
    obtain ⟨u, hu, hs⟩ := F2.at hF hi
    refine ⟨g, 0, u, rfl, fun h => h, ?_, hs⟩
    rw [Nat.zero_add]
    exact own_ptr h (by rw [hv]; rfl) hu

theorem Keeps.none (w : World) (bad : Nat → Prop) : Keeps w bad w (fun _ => False) := fun _ _ _ _ h => ⟨fun h => h, h⟩

theorem own_recs {e s : Nat} {L : List (List Int × List (List Int))} {css : List (List Value)} {v : Value} {bad : Nat → Prop} {cs : List Value} (hcs : cs = css.flatten) (h : w.ownsRow B e (stp s) v L.length cs) (hF : F2 (SRec w bad s) L css) (hb : ∀ b, b ∈ blk v → ¬ bad b) : SRecs w bad s L v := by
  subst hcs
  rcases h.2 with ⟨hv, h0⟩ | ⟨g, cap, cur, hv, hg, hh, hnc, hcm, r⟩
  · have : L = [] := List.eq_nil_of_length_eq_zero h0
    subst this
    exact ⟨none, 0, by simpa using hv, by simp, by unfold maxLen; omega, fun i x hi => by simp at hi⟩
  · refine ⟨some ⟨g, 0, none⟩, cap, hv, hnc, hcm, fun i x hi => ?_⟩
    obtain ⟨cs, hcs, hs⟩ := F2.at hF hi
    refine ⟨g, 0, cs, rfl, hb g (by rw [hv]; simp [blk]), hs, fun j u hj => ?_⟩
    rw [Nat.zero_add]
    refine own_ptr h (by rw [hv]; rfl) ?_
    have key : ∀ {L : List (List Int × List (List Int))} {css : List (List Value)} {i j : Nat} {cs : List Value} {u : Value}, F2 (SRec w bad s) L css → css[i]? = some cs → cs[j]? = some u → css.flatten[i * stp s + j]? = some u := by
      intro L
      induction L with
      | nil => intro css i j cs u hf hi _; cases css with | nil => simp at hi | cons _ _ => exact hf.elim
      | cons r L ih =>
        intro css i j cs u hf hi hj
        cases css with
        | nil => exact hf.elim
        | cons c0 css =>
          have hl0 : c0.length = stp s := hf.1.len
          rw [List.flatten_cons]
          match i with
          | 0 =>
            simp only [List.getElem?_cons_zero, Option.some.injEq] at hi
            subst hi
            have hlt := (List.getElem?_eq_some_iff.1 hj).1
            rw [Nat.zero_mul, Nat.zero_add, List.getElem?_append_left hlt]
            exact hj
          | i + 1 =>
            simp only [List.getElem?_cons_succ] at hi
            have := ih hf.2 hi hj
            rw [List.getElem?_append_right (by rw [hl0, Nat.add_mul]; omega), hl0]
            rw [show (i + 1) * stp s + j - stp s = i * stp s + j by rw [Nat.add_mul, Nat.one_mul]; omega]
            exact this
    exact key hF hcs hj

theorem closeRow_sound (hh : HRep w B ob hp nx η) {k : Nat} {r : ARow} (hr : look hp k = some r) {t : T} (hc : closeRow r = some t) : TRep w (fun _ => False) t (η.val k) := by
  have hrow := hh.row k r hr
  match r with
  | .ints e kd l => simp only [closeRow, Option.some.injEq] at hc; subst hc; exact own_ints hrow.1
  | .rows e e1 true m => simp only [closeRow, Option.some.injEq] at hc; subst hc; exact own_rows hrow.1 (F2.imp (fun _ _ _ h => own_ints h) hrow.2)
  | .rows e e1 false m => simp only [closeRow, Option.some.injEq] at hc; subst hc; exact own_rows hrow.1 (F2.imp (fun _ _ _ h => h.keeps (Keeps.none w _)) hrow.2)
  | .cells e l => simp [closeRow] at hc
  | .recs e s L =>
    simp only [closeRow, Option.some.injEq] at hc; subst hc
    obtain ⟨h1, css, h2, h3⟩ := hrow
    exact own_recs h2 h1 (F2.imp (fun _ _ _ h => h.keeps (Keeps.none w _)) h3) (fun _ _ h => h)

mutual
theorem clo1_sound (hh : HRep w B ob hp nx η) {g : Nat → Nat → Option AVal} (hg : ∀ k off x v, g k off = some x → VRep w (badOf ob hp η) hp nx η (.ptr k off) v → VRep w (fun _ => False) [] 0 η0 x v) :
    ∀ (x : AVal) {x' : AVal} {v : Value}, clo1 g hp x = some x' → VRep w (badOf ob hp η) hp nx η x v → VRep w (fun _ => False) [] 0 η0 x' v
  | .c y, x', v, h, hv => by simp only [clo1, Option.some.injEq] at h; subst h; exact hv
  | .t t, x', v, h, hv => by simp only [clo1, Option.some.injEq] at h; subst h; exact TRep.keeps (Keeps.none w _) hv
  | .own k, x', v, h, hv => by
    simp only [clo1] at h
    cases hr : look hp k with
    | none => rw [hr] at h; cases h
    | some r =>
      rw [hr] at h
      simp only at h
      cases hc : closeRow r with
      | none => rw [hc] at h; cases h
      | some t =>
        rw [hc] at h
        simp only [Option.some.injEq] at h
        subst h
        rw [(hv.2 r hr).2]
        exact closeRow_sound hh hr hc
  | .sub k i, x', v, h, hv => by
    simp only [clo1] at h
    split at h
    case h_2 => cases h
    case h_1 e e1 m hr =>
      simp only [Option.some.injEq] at h
      subst h
      obtain ⟨_, hcel⟩ := hv.2 _ hr
      have hrow := hh.row k _ hr
      obtain ⟨l, hl, ho⟩ := F2.at' hrow.2 hcel
      rw [getD_of hl]
      exact own_ints ho
  | .ptr k off, x', v, h, hv => hg k off x' v (by simpa [clo1] using h) hv
  | .ag l, x', v, h, hv => by
    simp only [clo1] at h
    cases hc : clos g hp l with
    | none => rw [hc] at h; cases h
    | some l' =>
      rw [hc] at h
      simp only [Option.some.injEq] at h
      subst h
      obtain ⟨cs, rfl, hr⟩ := hv
      exact ⟨cs, rfl, clos_sound hh hg l hc hr⟩
  | .rp l off, x', v, h, hv => by
    simp only [clo1] at h
    cases hc : clos g hp l with
    | none => rw [hc] at h; cases h
    | some l' =>
      rw [hc] at h
      simp only [Option.some.injEq] at h
      subst h
      obtain ⟨b, cs, rfl, hr, hcell⟩ := hv
      exact ⟨b, cs, rfl, clos_sound hh hg l hc hr, fun i u hu => ⟨fun h => h, (hcell i u hu).2⟩⟩
  | .clo f l, x', v, h, hv => by
    simp only [clo1] at h
    cases hc : clos g hp l with
    | none => rw [hc] at h; cases h
    | some l' =>
      rw [hc] at h
      simp only [Option.some.injEq] at h
      subst h
      obtain ⟨cs, rfl, hr⟩ := hv
      exact ⟨cs, rfl, clos_sound hh hg l hc hr⟩
  | .knot f l n, x', v, h, hv => by
    simp only [clo1] at h
    cases hc : clos g hp l with
    | none => rw [hc] at h; cases h
    | some l' =>
      rw [hc] at h
      simp only [Option.some.injEq] at h
      subst h
      obtain ⟨b, cs, rfl, hr, _, hcell⟩ := hv
      exact ⟨b, cs, rfl, clos_sound hh hg l hc hr, fun h => h, hcell⟩
  | .nul, x', v, h, hv => by
    simp only [clo1, Option.some.injEq] at h
    subst h
    obtain ⟨ba, rfl⟩ := hv
    exact ⟨ba, 0, rfl, Nat.le_refl _, Nat.zero_le _, fun i x hi => by simp at hi⟩
  | .un, _, _, h, _ => by simp [clo1] at h
  | .tu _, _, _, h, _ => by simp [clo1] at h
  | .subp _ _ _, _, _, h, _ => by simp [clo1] at h
  | .adr _ _, _, _, h, _ => by simp [clo1] at h
theorem clos_sound (hh : HRep w B ob hp nx η) {g : Nat → Nat → Option AVal} (hg : ∀ k off x v, g k off = some x → VRep w (badOf ob hp η) hp nx η (.ptr k off) v → VRep w (fun _ => False) [] 0 η0 x v) :
    ∀ (l : List AVal) {l' : List AVal} {vs : List Value}, clos g hp l = some l' → VReps w (badOf ob hp η) hp nx η l vs → VReps w (fun _ => False) [] 0 η0 l' vs
  | [], l', [], h, _ => by simp only [clos, Option.some.injEq] at h; subst h; trivial
  | x :: l, l', v :: vs, h, hv => by
    simp only [clos] at h
    cases hc : clo1 g hp x with
    | none => rw [hc] at h; cases h
    | some x' =>
      rw [hc] at h
      simp only at h
      cases hl : clos g hp l with
      | none => rw [hl] at h; cases h
      | some l1 =>
        rw [hl] at h
        simp only [Option.some.injEq] at h
        subst h
        exact ⟨clo1_sound hh hg x hc hv.1, clos_sound hh hg l hl hv.2⟩
  | [], _, _ :: _, _, hv => hv.elim
  | _ :: _, _, [], _, hv => hv.elim
end

theorem selfAt_spec {k : Nat} : ∀ {l : List AVal} {n : Nat}, selfAt k l = some n → nth l n = some (.ptr k 0)
  | [], n, h => by simp [selfAt] at h
  | x :: r, n, h => by
    have rest : (match selfAt k r with | some n => some (n + 1) | none => none) = some n → nth (x :: r) n = some (.ptr k 0) := fun h => by
      split at h
      case h_1 m hm =>
        simp only [Option.some.injEq] at h
        subst h
        show nth r m = _
        exact selfAt_spec hm
      case h_2 => cases h
    unfold selfAt at h
    split at h
    case h_1 heq => cases heq
    case h_2 j r' heq =>
      simp only [List.cons.injEq] at heq
      obtain ⟨rfl, rfl⟩ := heq
      split at h
      case h_1 hb =>
        simp only [Option.some.injEq] at h
        subst h
        rw [Nat.eq_of_beq_eq_true hb]; rfl
      case h_2 => exact rest h
    case h_3 heq =>
      simp only [List.cons.injEq] at heq
      obtain ⟨rfl, rfl⟩ := heq
      exact rest h

theorem selfClo_spec {k off : Nat} {l : List AVal} {f : FuncId} {caps : List AVal} {n : Nat} (h : selfClo k off l = some (f, caps, n)) : l = [.clo f caps] ∧ off = 0 ∧ selfAt k caps = some n := by
  unfold selfClo at h
  split at h
  case h_2 => cases h
  case h_1 =>
    split at h
    case h_2 => cases h
    case h_1 =>
      split at h
      case h_2 => cases h
      case h_1 hs =>
        simp only [Option.some.injEq, Prod.mk.injEq] at h
        obtain ⟨rfl, rfl, rfl⟩ := h
        exact ⟨rfl, rfl, hs⟩

theorem clo0_sound (hh : HRep w B ob hp nx η) : ∀ (n k off : Nat) (x : AVal) (v : Value), clo0 hp n k off = some x → VRep w (badOf ob hp η) hp nx η (.ptr k off) v → VRep w (fun _ => False) [] 0 η0 x v
  | 0, _, _, _, _, h, _ => by simp [clo0] at h
  | n + 1, k, off, x, v, h, hv => by
    simp only [clo0, cloP] at h
    split at h
    case h_2 => cases h
    case h_1 e l hr =>
      split at h
      case h_2 =>
        split at h
        case h_2 => cases h
        case h_1 l' hl =>
          simp only [Option.some.injEq] at h
          subst h
          obtain ⟨_, b, hb, rfl⟩ := hv.2 _ hr
          have hrow := hh.row k _ hr
          have hrow' := hrow
          obtain ⟨b', h1, h2, h3, h4⟩ := hrow
          exact ⟨b, η.cel k, rfl, clos_sound hh (fun k off x v => clo0_sound hh n k off x v) l hl h4, fun i u hu => ⟨fun h => h, row_cell hrow' hb hu⟩⟩
      case h_1 f caps m hsc =>
        split at h
        case h_2 => cases h
        case h_1 l' hl =>
          simp only [Option.some.injEq] at h
          subst h
          obtain ⟨rfl, rfl, hself⟩ := selfClo_spec hsc
          obtain ⟨_, b, hb, rfl⟩ := hv.2 _ hr
          have hrow := hh.row k _ hr
          have hrow' := hrow
          obtain ⟨b', h1, h2, h3, h4⟩ := hrow
          match hcel : η.cel k, h4 with
          | [u], h4 =>
            obtain ⟨⟨cs, rfl, hcs⟩, _⟩ := h4
            obtain ⟨v', hv', hp'⟩ := hcs.nth (selfAt_spec hself)
            have hbb : v' = .pointer (some ⟨b, 0, none⟩) := by
              obtain ⟨_, b2, hb2, rfl⟩ := hp'.2 _ hr
              rw [hb] at hb2
              simp only [List.cons.injEq, and_true] at hb2
              rw [hb2]
            have hlen := VReps.length hcs
            have hm : m < cs.length := (List.getElem?_eq_some_iff.1 hv').1
            have hsplit : cs.take m ++ v' :: cs.drop (m + 1) = cs := by
              have : cs[m] = v' := (List.getElem?_eq_some_iff.1 hv').2
              rw [← this, ← List.drop_eq_getElem_cons hm, List.take_append_drop]
            have htl : (cs.take m).length = m := by rw [List.length_take]; omega
            refine ⟨b, cs.take m ++ cs.drop (m + 1), rfl, clos_sound hh (fun k off x v => clo0_sound hh n k off x v) _ hl ((hcs.take m).append (hcs.drop (m + 1))), fun h => h, ?_⟩
            have hcell := row_cell hrow' hb (i := 0) (u := .func (.func f) #[] cs.toArray) (by rw [hcel]; rfl)
            rw [hcell]
            have e1 : (cs.take m ++ cs.drop (m + 1)).take m = cs.take m := by
              rw [List.take_append_of_le_length (by omega), List.take_take, Nat.min_self]
            have e2 : (cs.take m ++ cs.drop (m + 1)).drop m = cs.drop (m + 1) := by
              have := List.drop_left (l₁ := cs.take m) (l₂ := cs.drop (m + 1))
              rw [htl] at this; exact this
            rw [e1, e2, ← hbb, hsplit]
          | [], h4 => exact h4.elim
          | _ :: _ :: _, h4 => exact h4.2.elim

theorem closeArgs_sound (hh : HRep w B ob hp nx η) {l l' : List AVal} {vs : List Value} (h : closeArgs hp l = some l') (hv : VReps w (badOf ob hp η) hp nx η l vs) : VReps w (fun _ => False) [] 0 η0 l' vs :=
  clos_sound hh (fun k off x v => clo0_sound hh 3 k off x v) l h hv

mutual
theorem clo1_plain {bad : Nat → Prop} {g : Nat → Nat → Option AVal} : ∀ (x : AVal) {x' : AVal} {v : Value}, hasOwn x = false → clo1 g hp x = some x' → VRep w bad hp nx η x v → VRep w bad [] 0 η0 x' v
  | .c y, x', v, _, h, hv => by simp only [clo1, Option.some.injEq] at h; subst h; exact hv
  | .t t, x', v, _, h, hv => by simp only [clo1, Option.some.injEq] at h; subst h; exact hv
  | .ag l, x', v, ho, h, hv => by
    simp only [clo1] at h
    cases hc : clos g hp l with
    | none => rw [hc] at h; cases h
    | some l' =>
      rw [hc] at h
      simp only [Option.some.injEq] at h
      subst h
      obtain ⟨cs, rfl, hr⟩ := hv
      exact ⟨cs, rfl, clos_plain l (by simpa [hasOwn] using ho) hc hr⟩
  | .rp l off, x', v, ho, h, hv => by
    simp only [clo1] at h
    cases hc : clos g hp l with
    | none => rw [hc] at h; cases h
    | some l' =>
      rw [hc] at h
      simp only [Option.some.injEq] at h
      subst h
      obtain ⟨b, cs, rfl, hr, hcell⟩ := hv
      exact ⟨b, cs, rfl, clos_plain l (by simpa [hasOwn] using ho) hc hr, hcell⟩
  | .clo f l, x', v, ho, h, hv => by
    simp only [clo1] at h
    cases hc : clos g hp l with
    | none => rw [hc] at h; cases h
    | some l' =>
      rw [hc] at h
      simp only [Option.some.injEq] at h
      subst h
      obtain ⟨cs, rfl, hr⟩ := hv
      exact ⟨cs, rfl, clos_plain l (by simpa [hasOwn] using ho) hc hr⟩
  | .knot f l n, x', v, ho, h, hv => by
    simp only [clo1] at h
    cases hc : clos g hp l with
    | none => rw [hc] at h; cases h
    | some l' =>
      rw [hc] at h
      simp only [Option.some.injEq] at h
      subst h
      obtain ⟨b, cs, rfl, hr, hb, hcell⟩ := hv
      exact ⟨b, cs, rfl, clos_plain l (by simpa [hasOwn] using ho) hc hr, hb, hcell⟩
  | .nul, x', v, _, h, hv => by
    simp only [clo1, Option.some.injEq] at h
    subst h
    obtain ⟨ba, rfl⟩ := hv
    exact ⟨ba, 0, rfl, Nat.le_refl _, Nat.zero_le _, fun i x hi => by simp at hi⟩
  | .own _, _, _, ho, _, _ => by simp [hasOwn] at ho
  | .sub _ _, _, _, ho, _, _ => by simp [hasOwn] at ho
  | .ptr _ _, _, _, ho, _, _ => by simp [hasOwn] at ho
  | .subp _ _ _, _, _, ho, _, _ => by simp [hasOwn] at ho
  | .un, _, _, ho, _, _ => by simp [hasOwn] at ho
  | .tu _, _, _, _, h, _ => by simp [clo1] at h
  | .adr _ _, _, _, _, h, _ => by simp [clo1] at h
theorem clos_plain {bad : Nat → Prop} {g : Nat → Nat → Option AVal} : ∀ (l : List AVal) {l' : List AVal} {vs : List Value}, hasOwns l = false → clos g hp l = some l' → VReps w bad hp nx η l vs → VReps w bad [] 0 η0 l' vs
  | [], l', [], _, h, _ => by simp only [clos, Option.some.injEq] at h; subst h; trivial
  | x :: l, l', v :: vs, ho, h, hv => by
    simp only [hasOwns, Bool.or_eq_false_iff] at ho
    simp only [clos] at h
    cases hc : clo1 g hp x with
    | none => rw [hc] at h; cases h
    | some x' =>
      rw [hc] at h
      simp only at h
      cases hl : clos g hp l with
      | none => rw [hl] at h; cases h
      | some l1 =>
        rw [hl] at h
        simp only [Option.some.injEq] at h
        subst h
        exact ⟨clo1_plain x ho.1 hc hv.1, clos_plain l ho.2 hl hv.2⟩
  | [], _, _ :: _, _, _, hv => hv.elim
  | _ :: _, _, [], _, _, hv => hv.elim
end

/-! ### results -/
mutual
theorem noSh_bad {bad bad' : Nat → Prop} : ∀ (x : AVal) {v : Value}, noSh x = true → VRep w bad hp nx η x v → VRep w bad' hp nx η x v
  | .c _, _, _, h => h
  | .own _, _, _, h => h
  | .ag l, _, hn, ⟨cs, hv, h⟩ => ⟨cs, hv, noShs_bad l (by simpa [noSh] using hn) h⟩
  | .tu l, _, hn, ⟨cs, hv, h⟩ => ⟨cs, hv, noShs_bad l (by simpa [noSh] using hn) h⟩
  | .un, _, hn, _ => by simp [noSh] at hn
  | .t _, _, hn, _ => by simp [noSh] at hn
  | .sub _ _, _, hn, _ => by simp [noSh] at hn
  | .ptr _ _, _, hn, _ => by simp [noSh] at hn
  | .subp _ _ _, _, hn, _ => by simp [noSh] at hn
  | .adr _ _, _, hn, _ => by simp [noSh] at hn
  | .rp _ _, _, hn, _ => by simp [noSh] at hn
  | .clo _ _, _, hn, _ => by simp [noSh] at hn
  | .knot _ _ _, _, hn, _ => by simp [noSh] at hn
  | .nul, _, _, h => h
theorem noShs_bad {bad bad' : Nat → Prop} : ∀ (l : List AVal) {vs : List Value}, noShs l = true → VReps w bad hp nx η l vs → VReps w bad' hp nx η l vs
  | [], [], _, _ => trivial
  | x :: l, v :: vs, hn, h => by
    simp only [noShs, Bool.and_eq_true] at hn
    exact ⟨noSh_bad x hn.1 h.1, noShs_bad l hn.2 h.2⟩
  | [], _ :: _, _, h => h.elim
  | _ :: _, [], _, h => h.elim
end

theorem rowsOwn_at : ∀ {h : List (Nat × ARow)}, rowsOwn h = true → ∀ k r, look h k = some r → r.kind = 1 ∨ r.kind = 2
  | [], _, k, r, hl => by simp [look] at hl
  | (j, .ints ..) :: h, ho, k, r, hl => by
    rw [look_cons] at hl
    split at hl
    · simp only [Option.some.injEq] at hl; subst hl; exact .inl rfl
    · exact rowsOwn_at (by simpa [rowsOwn] using ho) k r hl
  | (j, .rows _ _ true _) :: h, ho, k, r, hl => by
    rw [look_cons] at hl
    split at hl
    · simp only [Option.some.injEq] at hl; subst hl; exact .inr rfl
    · exact rowsOwn_at (by simpa [rowsOwn] using ho) k r hl
  | (j, .rows _ _ false _) :: h, ho, _, _, _ => by simp [rowsOwn] at ho
  | (j, .cells ..) :: h, ho, _, _, _ => by simp [rowsOwn] at ho
  | (j, .recs ..) :: h, ho, _, _, _ => by simp [rowsOwn] at ho

theorem HRep.bad {ob' : Nat → Prop} (h : HRep w B ob hp nx η) (ho : rowsOwn hp = true) : HRep w B ob' hp nx η := by
  refine ⟨fun k r hr => ?_, h.nodup, h.apart, h.lt⟩
  have hrow := h.row k r hr
  match r, rowsOwn_at ho k r hr with
  | .ints .., _ => exact hrow
  | .rows _ _ true _, _ => exact hrow
  | .rows _ _ false _, hk => simp [ARow.kind] at hk
  | .cells .., hk => simp [ARow.kind] at hk
  | .recs .., hk => simp [ARow.kind] at hk

def Env.join (d : Nat) (η ηh : Env) : Env := ⟨fun j => if j < d then η.val j else ηh.val (j - d), fun j => if j < d then η.cel j else ηh.cel (j - d)⟩

theorem look_shift (d : Nat) : ∀ (h : List (Nat × ARow)) (j : Nat), look (shiftH d h) (j + d) = (look h j).map (ARow.shift d)
  | [], _ => rfl
  | (i, r) :: h, j => by
    simp only [shiftH]
    rw [look_cons, look_cons]
    by_cases hij : i = j
    · simp [hij]
    · rw [if_neg hij, if_neg (by omega)]
      exact look_shift d h j

theorem look_shift_lt (d : Nat) : ∀ (h : List (Nat × ARow)) (j : Nat), j < d → look (shiftH d h) j = none
  | [], _, _ => rfl
  | (i, r) :: h, j, hj => by
    simp only [shiftH]
    rw [look_cons, if_neg (by omega)]
    exact look_shift_lt d h j hj

theorem look_append {α : Type} : ∀ (l r : List (Nat × α)) (j : Nat), look (l ++ r) j = match look l j with | some x => some x | none => look r j
  | [], _, _ => rfl
  | (i, x) :: l, r, j => by
    rw [List.cons_append, look_cons, look_cons]
    by_cases h : i = j
    · simp [h]
    · rw [if_neg h, if_neg h]; exact look_append l r j

theorem kind_shift (d : Nat) (r : ARow) : (r.shift d).kind = r.kind := by cases r <;> rfl

mutual
theorem VRep.shift {bad bad' : Nat → Prop} {h hp' : List (Nat × ARow)} {n nx' d : Nat} {ηh η' : Env} (hk : Keeps w bad w bad') (hn : n + d ≤ nx')
    (hl : ∀ j r', look hp' (j + d) = some r' → ∃ r, look h j = some r ∧ r' = r.shift d) (hη : ∀ j, η'.val (j + d) = ηh.val j ∧ η'.cel (j + d) = ηh.cel j) :
    ∀ (x : AVal) {v : Value}, VRep w bad h n ηh x v → VRep w bad' hp' nx' η' (x.shift d) v
  | .un, _, _ => trivial
  | .c _, _, h => h
  | .t _, _, h => TRep.keeps hk h
  | .adr _ _, _, h => ARep.keeps hk h
  | .ag l, _, ⟨cs, hv, h⟩ => ⟨cs, hv, VReps.shift hk hn hl hη l h⟩
  | .tu l, _, ⟨cs, hv, h⟩ => ⟨cs, hv, VReps.shift hk hn hl hη l h⟩
  | .clo _ l, _, ⟨cs, hv, h⟩ => ⟨cs, hv, VReps.shift hk hn hl hη l h⟩
  | .rp l _, _, ⟨b, cs, hv, h, hc⟩ => ⟨b, cs, hv, VReps.shift hk hn hl hη l h, fun i u hu => by obtain ⟨h1, h2⟩ := hc i u hu; exact hk b i u h1 h2⟩
  | .knot _ l _, _, ⟨b, cs, hv, h, hb, hc⟩ => ⟨b, cs, hv, VReps.shift hk hn hl hη l h, (hk b 0 _ hb hc).1, (hk b 0 _ hb hc).2⟩
  | .nul, _, h => h
  | .own k, v, h => by
    simp only [AVal.shift, VRep] at h ⊢
    refine ⟨by omega, fun r' hr' => ?_⟩
    obtain ⟨r, hr, rfl⟩ := hl k r' hr'
    obtain ⟨h1, h2⟩ := h.2 r hr
    exact ⟨by rw [kind_shift]; exact h1, by rw [(hη k).1]; exact h2⟩
  | .sub k i, v, h => by
    simp only [AVal.shift, VRep] at h ⊢
    refine ⟨by omega, fun r' hr' => ?_⟩
    obtain ⟨r, hr, rfl⟩ := hl k r' hr'
    obtain ⟨h1, h2⟩ := h.2 r hr
    exact ⟨by rw [kind_shift]; exact h1, by rw [(hη k).2]; exact h2⟩
  | .ptr k o, v, h => by
    simp only [AVal.shift, VRep] at h ⊢
    refine ⟨by omega, fun r' hr' => ?_⟩
    obtain ⟨r, hr, rfl⟩ := hl k r' hr'
    obtain ⟨h1, b, h2, h3⟩ := h.2 r hr
    exact ⟨by rw [(hη k).2]; exact h1, b, by rw [(hη k).1]; exact h2, h3⟩
  | .subp k i j, v, h => by
    simp only [AVal.shift, VRep] at h ⊢
    refine ⟨by omega, fun r' hr' => ?_⟩
    obtain ⟨r, hr, rfl⟩ := hl k r' hr'
    obtain ⟨h0, b, n', c, h1, h2, h3⟩ := h.2 r hr
    exact ⟨by rw [kind_shift]; exact h0, b, n', c, by rw [(hη k).2]; exact h1, h2, h3⟩
theorem VReps.shift {bad bad' : Nat → Prop} {h hp' : List (Nat × ARow)} {n nx' d : Nat} {ηh η' : Env} (hk : Keeps w bad w bad') (hn : n + d ≤ nx')
    (hl : ∀ j r', look hp' (j + d) = some r' → ∃ r, look h j = some r ∧ r' = r.shift d) (hη : ∀ j, η'.val (j + d) = ηh.val j ∧ η'.cel (j + d) = ηh.cel j) :
    ∀ (l : List AVal) {vs : List Value}, VReps w bad h n ηh l vs → VReps w bad' hp' nx' η' (shifts d l) vs
  | [], [], _ => trivial
  | x :: l, _ :: _, h => ⟨VRep.shift hk hn hl hη x h.1, VReps.shift hk hn hl hη l h.2⟩
  | [], _ :: _, h => h.elim
  | _ :: _, [], h => h.elim
end

theorem ownsRow_base {B' e n sz : Nat} {v : Value} {xs : List Value} (h : w.ownsRow B' e sz v n xs) (hB : B ≤ B') : w.ownsRow B e sz v n xs := by
  refine ⟨h.1, ?_⟩
  rcases h.2 with h2 | ⟨g, cap, cur, h1, h2, r⟩
  · exact .inl h2
  · exact .inr ⟨g, cap, cur, h1, by omega, r⟩

/-- what came back joins what is there -/
theorem SRep.join (h : SRep w0 ob st a w η) {hr : List (Nat × ARow)} {ηh : Env} (hw : Below w.heap.size w w') (hh : HRep w' w.heap.size (badOf ob st.hp η) hr hr.length ηh) :
    SRep w0 ob (st.add hr) a w' (Env.join st.nx η ηh) ∧
      ∀ x v, VRep w' (fun b => badOf ob st.hp η b ∨ ownB hr ηh b) hr hr.length ηh x v → VR w' ob (st.add hr) (Env.join st.nx η ηh) (x.shift st.nx) v := by
  have hη1 : ∀ j, j < st.nx → (Env.join st.nx η ηh).val j = η.val j ∧ (Env.join st.nx η ηh).cel j = η.cel j := fun j hj => by simp [Env.join, hj]
  have hη2 : ∀ j, (Env.join st.nx η ηh).val (j + st.nx) = ηh.val j ∧ (Env.join st.nx η ηh).cel (j + st.nx) = ηh.cel j := fun j => by
    have : ¬ (j + st.nx < st.nx) := by omega
    simp only [Env.join, this, if_false, Nat.add_sub_cancel]
    exact ⟨trivial, trivial⟩
  have hl1 : ∀ j, j < st.nx → look (st.add hr).hp j = look st.hp j := fun j hj => by
    simp only [St.add]; rw [look_append, look_shift_lt _ _ _ hj]
  have hl2 : ∀ j, look (st.add hr).hp (j + st.nx) = (look hr j).map (ARow.shift st.nx) := fun j => by
    simp only [St.add]; rw [look_append, look_shift]
    cases hj : look hr j with
    | some r => rfl
    | none =>
      simp only [Option.map_none]
      cases hx : look st.hp (j + st.nx) with
      | none => rfl
      | some r => have := h.heap.lt _ r hx; omega
  have hbs1 : ∀ j r, j < st.nx → bsOf (Env.join st.nx η ηh) j r = bsOf η j r := fun j r hj => bsOf_congr (hη1 j hj).1 (hη1 j hj).2 rfl
  have hbs2 : ∀ j r, bsOf (Env.join st.nx η ηh) (j + st.nx) (ARow.shift st.nx r) = bsOf ηh j r := fun j r => by
    simp only [bsOf, (hη2 j).1, (hη2 j).2, kind_shift]
  have hsplit : ∀ j r, look (st.add hr).hp j = some r → (j < st.nx ∧ look st.hp j = some r) ∨ ∃ i r0, j = i + st.nx ∧ look hr i = some r0 ∧ r = r0.shift st.nx := fun j r hj => by
    by_cases hlt : j < st.nx
    · exact .inl ⟨hlt, by rw [hl1 j hlt] at hj; exact hj⟩
    · obtain ⟨i, rfl⟩ : ∃ i, j = i + st.nx := ⟨j - st.nx, by omega⟩
      rw [hl2] at hj
      obtain ⟨r0, h1, h2⟩ := Option.map_eq_some_iff.1 hj
      exact .inr ⟨i, r0, rfl, h1, h2.symm⟩
  have hold : ∀ b, ownB (st.add hr).hp (Env.join st.nx η ηh) b → ownB st.hp η b ∨ (ownB hr ηh b) := fun b ⟨j, r, hj, hb⟩ => by
    rcases hsplit j r hj with ⟨hlt, hj'⟩ | ⟨i, r0, rfl, h1, rfl⟩
    · rw [hbs1 j r hlt] at hb; exact .inl ⟨j, r, hj', hb⟩
    · rw [hbs2] at hb; exact .inr ⟨i, r0, h1, hb⟩
  have hnew : ∀ b, ownB hr ηh b → w.heap.size ≤ b := fun b ⟨j, r, hj, hb⟩ => ((hh.row j r hj).lt b hb).1
  have hkeep : Keeps w (badOf ob st.hp η) w' (badOf ob (st.add hr).hp (Env.join st.nx η ηh)) := by
    intro b o x hb hc
    have hlt := cell_lt hc
    refine ⟨?_, cell_below hw hc⟩
    rintro (h1 | h1)
    · exact hb (.inl h1)
    · rcases hold b h1 with h2 | h2
      · exact hb (.inr h2)
      · have := hnew b h2; omega
  have hkeep2 : Keeps w' (fun b => badOf ob st.hp η b ∨ ownB hr ηh b) w' (badOf ob (st.add hr).hp (Env.join st.nx η ηh)) := by
    intro b o x hb hc
    refine ⟨?_, hc⟩
    rintro (h1 | h1)
    · exact hb (.inl (.inl h1))
    · rcases hold b h1 with h2 | h2
      · exact hb (.inl (.inr h2))
      · exact hb (.inr h2)
  have hok : ∀ j, j < st.nx → OwnOk st.hp η (st.add hr).hp (Env.join st.nx η ηh) j := fun j hj =>
    OwnOk.of (fun r' hr' => ⟨r', by rw [hl1 j hj] at hr'; exact hr', rfl⟩) (hη1 j hj).1 (hη1 j hj).2
  have hsk : ∀ j, j < st.nx → SubOk st.hp η (st.add hr).hp (Env.join st.nx η ηh) j := fun j hj =>
    SubOk.of (fun r' hr' => ⟨r', by rw [hl1 j hj] at hr'; exact hr', rfl⟩) (hη1 j hj).2
  have hBw := wB h
  have hlk : ∀ j r', look (st.add hr).hp (j + st.nx) = some r' → ∃ r, look hr j = some r ∧ r' = r.shift st.nx := fun j r' hj => by
    rw [hl2] at hj
    obtain ⟨r0, h1, h2⟩ := Option.map_eq_some_iff.1 hj
    exact ⟨r0, h1, h2.symm⟩
  have hvr : ∀ x v, VRep w' (fun b => badOf ob st.hp η b ∨ ownB hr ηh b) hr hr.length ηh x v → VR w' ob (st.add hr) (Env.join st.nx η ηh) (x.shift st.nx) v := fun x v hx =>
    VRep.shift (nx' := (st.add hr).nx) hkeep2 (by simp only [St.add]; omega) hlk hη2 x hx
  have hheap : HRep w' w0.B ob (st.add hr).hp (st.add hr).nx (Env.join st.nx η ηh) := by
    refine ⟨fun j r hj => ?_, fun j r hj => ?_, fun j r j' r' hj hj' hne b hb => ?_, fun j r hj => ?_⟩
    · rcases hsplit j r hj with ⟨hlt, hj'⟩ | ⟨i, r0, rfl, h1, rfl⟩
      · have hrow := h.heap.row j r hj'
        have := hrow.flt (f := fun _ => true) (g := fun _ => true) (w' := w') (bad' := badOf ob (st.add hr).hp (Env.join st.nx η ηh)) (hp' := (st.add hr).hp) (nx' := (st.add hr).nx) (η' := Env.join st.nx η ηh)
          hkeep (by simp [St.add]) (fun k hk _ => hok k hk) (fun k hk _ => hsk k hk) (hη1 j hlt).1 (hη1 j hlt).2 (fun b hb => hw.block b (hrow.lt b hb).2)
        rwa [rowflt_true] at this
      · have hrow := hh.row i r0 h1
        match r0 with
        | .ints e kd l =>
          simp only [ARow.shift, RowRep, OwnInts, (hη2 i).1, (hη2 i).2]
          exact ⟨ownsRow_base hrow.1 hBw, hrow.2⟩
        | .rows e e1 true m =>
          simp only [ARow.shift, RowRep, (hη2 i).1, (hη2 i).2]
          exact ⟨ownsRow_base hrow.1 hBw, F2.imp (fun _ _ _ ho => ownsRow_base ho hBw) hrow.2⟩
        | .rows e e1 false m =>
          simp only [ARow.shift, RowRep, (hη2 i).1, (hη2 i).2]
          exact ⟨ownsRow_base hrow.1 hBw, F2.imp (fun _ _ _ ho => ho.keeps hkeep2) hrow.2⟩
        | .cells e l =>
          simp only [ARow.shift, RowRep, (hη2 i).1, (hη2 i).2]
          obtain ⟨b, g1, g2, g3, g4⟩ := hrow
          exact ⟨b, g1, by omega, g3, VReps.shift (nx' := (st.add hr).nx) hkeep2 (by simp only [St.add]; omega) hlk hη2 l g4⟩
        | .recs e s L =>
          simp only [ARow.shift, RowRep, (hη2 i).1, (hη2 i).2]
          obtain ⟨g1, css, g2, g3⟩ := hrow
          exact ⟨ownsRow_base g1 hBw, css, g2, F2.imp (fun _ _ _ ho => ho.keeps hkeep2) g3⟩
    · rcases hsplit j r hj with ⟨hlt, hj'⟩ | ⟨i, r0, rfl, h1, rfl⟩
      · rw [hbs1 j r hlt]; exact h.heap.nodup j r hj'
      · rw [hbs2]; exact hh.nodup i r0 h1
    · rcases hsplit j r hj with ⟨hlt, hj1⟩ | ⟨i, r0, rfl, h1, rfl⟩ <;> rcases hsplit j' r' hj' with ⟨hlt', hj1'⟩ | ⟨i', r0', rfl, h1', rfl⟩
      · rw [hbs1 j r hlt] at hb; rw [hbs1 j' r' hlt']; exact h.heap.apart j r j' r' hj1 hj1' hne b hb
      · rw [hbs1 j r hlt] at hb; rw [hbs2]
        intro hm
        have := ((h.heap.row j r hj1).lt b hb).2
        have := ((hh.row i' r0' h1').lt b hm).1
        omega
      · rw [hbs2] at hb; rw [hbs1 j' r' hlt']
        intro hm
        have := ((h.heap.row j' r' hj1').lt b hm).2
        have := ((hh.row i r0 h1).lt b hb).1
        omega
      · rw [hbs2] at hb; rw [hbs2]; exact hh.apart i r0 i' r0' h1 h1' (fun e => hne (by rw [e])) b hb
    · rcases hsplit j r hj with ⟨hlt, hj'⟩ | ⟨i, r0, rfl, h1, rfl⟩
      · simp only [St.add]; omega
      · have := hh.lt i r0 h1; simp only [St.add]; omega
  refine ⟨⟨h.defers, h.size, h.below.trans (hw.mono h.wB), h.base, fun b hb hm => ?_, fun b ho => ?_, hheap, fun i x hi => ?_⟩, hvr⟩
  · rw [hw.block b (Nat.lt_of_lt_of_le hb h.grow), h.frame b hb hm]
  · rcases hold b ho with h1 | h1
    · exact h.src b h1
    · exact .inr (Nat.le_trans h.grow (hnew b h1))
  exact VRep.frame hkeep (by simp [St.add]) hok hsk (h.slot i x hi)
end
end Go.Aw
/- A region that draws its order: operations that only read, in any order, before operations in one forced order. -/
namespace Go.Aw
open Go.RowKit

section
variable {P : Program} {ops : Array Oper} {md : Region.Mode} {C : World → Prop}

/-- 'f' operations of the head are taken, whichever come up; what then holds -/
def headAny (P : Program) (md : Region.Mode) (ops : Array Oper) (C : World → Prop) (n : Nat) (L : Array Bool → Act → Prop) : Nat → Array Bool → Act → Prop
  | 0, listed, a => L listed a
  | f + 1, listed, a => Region.ready md ops listed ≠ [] ∧ ∀ i ∈ Region.ready md ops listed, i < n ∧ qOp P ops C i (headAny P md ops C n L f (listed.setIfInBounds i true)) a

theorem headAny_any {n g : Nat} {L : Array Bool → Act → Prop} {Q : Exit → Act → World → Prop} (hL : ∀ listed a w, C w → L listed a → wpAny P md ops Q g listed a w) :
    ∀ (f : Nat) (listed : Array Bool) (a : Act) (w : World), C w → headAny P md ops C n L f listed a → wpAny P md ops Q (f + g) listed a w
  | 0, listed, a, w, hw, h => by rw [Nat.zero_add]; exact hL _ _ _ hw h
  | f + 1, listed, a, w, hw, h => by
    rw [show f + 1 + g = (f + g) + 1 by omega]
    exact ⟨fun h0 => absurd h0 h.1, fun i hi => wpOp_of_qOp hw (fun a' w' hw' h' => headAny_any hL f _ a' w' hw' h') (h.2 i hi).2⟩

theorem headAny_first {n i : Nat} {oi : Oper} {v : Value} {L : Array Bool → Act → Prop} (hi : ops[i]? = some oi) (hsel : ∀ (j : Nat) (o : Oper) cs b, ops[j]? = some o → o.op ≠ .select cs b)
    (hs : Region.sinkB md ops n = true) (hc : Region.chainB md ops n = true) (hn : n < ops.size) (hin : i < n) (hdone : ∀ listed a, L listed a → ∀ j ∈ Region.ready md ops listed, n ≤ j) :
    ∀ (f : Nat) (listed : Array Bool) (a : Act), HeadInv md ops n listed →
      (∀ j oj, ops[j]? = some oj → j ≠ i → listed.getD j true = false → (∀ e ∈ oj.after, Region.binds md e = true → e.on ≠ i) → oi.apart ops oj = true) →
      i ∈ Region.ready md ops listed → YieldsIn P ops C oi v a →
      headAny P md ops C n L f (listed.setIfInBounds i true) (a.put oi.dst v) → headAny P md ops C n L (f + 1) listed a := by
  intro f
  induction f with
  | zero =>
    intro listed a inv _ hr hy H
    have hun := (mem_ready.1 hr).1
    refine ⟨fun h => (by rw [h] at hr; cases hr), fun j hj => ?_⟩
    have hjn : j < n := Nat.lt_of_not_le fun h => tail_waits hs hc hn inv _ i rfl hin hun j h hj
    refine ⟨hjn, ?_⟩
    by_cases hji : j = i
    · subst hji; exact hy.qOp hi H
    · have := hdone _ _ H j (ready_mono hj hji)
      omega
  | succ f ih =>
    intro listed a inv hfree hr hy H
    have hun := (mem_ready.1 hr).1
    refine ⟨fun h => (by rw [h] at hr; cases hr), fun j hj => ?_⟩
    have hjn : j < n := Nat.lt_of_not_le fun h => tail_waits hs hc hn inv _ i rfl hin hun j h hj
    refine ⟨hjn, ?_⟩
    by_cases hji : j = i
    · subst hji; exact hy.qOp hi H
    · have h1 := (H.2 j (ready_mono hj hji)).2
      obtain ⟨hjun, oj, hoj, hall⟩ := mem_ready.1 hj
      have hnot : ∀ e ∈ oj.after, Region.binds md e = true → e.on ≠ i := fun e he hb heq => by
        have h1 := hall e he hb
        rw [heq, getD_both hun] at h1
        cases h1
      have h2 := qOp_put hoj (hfree j oj hoj hji hjun hnot) (fun cs b => hsel i oi cs b hi) (fun cs b => hsel j oj cs b hoj) hy h1
      have hfree' : ∀ k ok, ops[k]? = some ok → k ≠ i → (listed.setIfInBounds j true).getD k true = false →
          (∀ e ∈ ok.after, Region.binds md e = true → e.on ≠ i) → oi.apart ops ok = true := fun k ok hk hki hun hno => by
        refine hfree k ok hk hki ?_ hno
        by_cases hjk : j = k
        · subst hjk; exact hjun
        · rw [getD_set_ne true hjk] at hun; exact hun
      refine qOp_mono (fun a' h3 => ih (listed.setIfInBounds j true) a' (inv.set hj hjn) hfree' (ready_mono hr (Ne.symm hji)) h3.1 ?_) h2
      rw [Array.setIfInBounds_comm _ _ hji]
      exact h3.2

theorem headAny_lex {n g : Nat} {Lq : Act → Prop} (hsel : Region.noSelect ops = true) (hs : Region.sinkB md ops n = true) (hc : Region.chainB md ops n = true) (hn : n < ops.size) :
    ∀ (l : List Oper) (k : Nat) (listed : Array Bool) (a : Act), (∀ j, j < l.length → l[j]? = ops[k + j]?) → k + l.length = n → HeadInv md ops n listed →
    Region.lexHead md ops g l.length k listed = true → wpQuiet P ops C Lq l a →
    headAny P md ops C n (fun listed' a' => Region.seqB md ops g n listed' = true ∧ Lq a') l.length listed a
  | [], k, listed, a, _, hk, _, hB, h => by
    have : k = n := by simpa using hk
    subst this
    exact ⟨by simpa [Region.lexHead] using hB, h⟩
  | o :: l, k, listed, a, hl, hk, inv, hB, h => by
    have h0 : ops[k]? = some o := by simpa using (hl 0 (by simp)).symm
    simp only [List.length_cons, Region.lexHead, Bool.and_eq_true] at hB
    obtain ⟨⟨hr, hf⟩, hB'⟩ := hB
    have hkn : k < n := by simp only [List.length_cons] at hk; omega
    have hr' : k ∈ Region.ready md ops listed := by simpa using hr
    have hst : qOp P ops C k (wpQuiet P ops C Lq l) a := by unfold qOp; simp only [h0]; exact h
    obtain ⟨v, hy, hK⟩ := yieldsIn_of_qOp h0 hst
    exact headAny_first h0 (Region.noSelect_spec hsel) hs hc hn hkn (fun listed' a' hL => seqB_ready hL.1) l.length listed a inv (Region.free_spec h0 hf) hr' hy
      (headAny_lex hsel hs hc hn l (k + 1) _ _ (fun j hj => by have := hl (j + 1) (by simp; omega); simpa [Nat.add_assoc, Nat.add_comm 1 j] using this) (by simp only [List.length_cons] at hk; omega) (inv.set hr' hkn) hB' hK)

/-- a quiet head, then a forced tail -/
theorem wp_quiet_tail {id : Nat} {Q : Exit → Act → World → Prop} {a : Act} {w : World} (n : Nat) (hm : P.follows .mixedOrders = true) (hB : Region.lexTailB .any ops n = true) (hC : C { w with drawn := w.drawn + 1 })
    (h : wpQuiet P ops C (fun a' => ∀ w', C w' → wpList P ops Q (ops.toList.drop n) a' w') (ops.toList.take n) a) : (Code.region id ops true).wp P Q a w := by
  simp only [Region.lexTailB, Bool.and_eq_true, decide_eq_true_eq] at hB
  obtain ⟨⟨⟨⟨hsel, hn⟩, hs⟩, hc⟩, hlex⟩ := hB
  have hn' : n < ops.toList.length := by simpa using hn
  have htl : (ops.toList.take n).length = n := by rw [List.length_take]; omega
  have hdl : (ops.toList.drop n).length = ops.size - n := by simp
  have inv0 : HeadInv .any ops n (Array.replicate ops.size false) :=
    ⟨by simp, fun j oj _ hl => (by rw [getD_replicate_false] at hl; cases hl), fun t _ ht => getD_in (by simpa using ht) (getD_replicate_false _ _)⟩
  have H := headAny_lex (md := .any) (C := C) (g := ops.size - n) hsel hs hc hn (ops.toList.take n) 0 _ a (fun j hj => by
    have hj' : j < n := by rw [htl] at hj; exact hj
    simp [hj']) (by simpa using htl) inv0 (by rw [htl]; exact hlex) h
  refine wp_region_any hm ?_
  have := headAny_any (Q := Q) (g := ops.size - n) (fun listed a' w' hw' hL => by
    have := wpAny_of_seq (md := .any) (Q' := Q) (ops.toList.drop n) n listed a' w' (fun j => by simp [List.getElem?_drop]) (by rw [hdl]; exact hL.1) (hL.2 w' hw')
    rwa [hdl] at this) _ _ _ _ hC H
  rw [htl, show n + (ops.size - n) = ops.size by omega] at this
  exact this
end
end Go.Aw
/- A region that draws its order: operations that only read may be taken first; the others in every order. -/
namespace Go.Aw
open Go.RowKit

def NoQ : Exit → Act → World → Prop := fun _ _ _ => False

theorem noQ_lets (h : LetsOut NoQ) : False := let ⟨_, _, h⟩ := h; h

/-- but for one block, what was there is as it was -/
def Frm (g : Value) (w w' : World) : Prop := w.heap.size ≤ w'.heap.size ∧ ∀ b, b < w.heap.size → b ∉ blk g → w'.heap[b]? = w.heap[b]?
/-- how much must stay: 0 all that was there, 1 all but one block, 2 nothing -/
def Rl (g : Value) : Nat → World → World → Prop
  | 0, w, w' => Below w.heap.size w w'
  | 1, w, w' => Frm g w w'
  | _, _, _ => True
theorem Rl.refl (g : Value) : ∀ (c : Nat) (w : World), Rl g c w w
  | 0, _ => Below.refl _ _
  | 1, _ => ⟨Nat.le_refl _, fun _ _ _ => rfl⟩
  | _ + 2, _ => trivial
theorem Rl.trans {g : Value} : ∀ {c : Nat} {w w' w2 : World}, Rl g c w w' → Rl g c w' w2 → Rl g c w w2
  | 0, _, _, _, h, k => Below.trans h (k.mono h.size)
  | 1, _, _, _, h, k => ⟨Nat.le_trans h.1 k.1, fun b hb hn => (k.2 b (Nat.lt_of_lt_of_le hb h.1) hn).trans (h.2 b hb hn)⟩
  | _ + 2, _, _, _, _, _ => trivial

section
variable {P : Program} {ops : Array Oper} {md : Region.Mode} {xs : List Nat} {fr : Bool} {g : Value}

def nbAt (xs : List Nat) (ops : Array Oper) (i : Nat) : Bool :=
  match ops[i]? with
  | some o => nbOp o || xs.contains i
  | none => false

/-- what may write anything -/
def nfAt (fr : Bool) (xs : List Nat) (ops : Array Oper) (i : Nat) : Bool :=
  match ops[i]? with
  | some o => nbOp o || (!fr && xs.contains i)
  | none => false
/-- what a step leaves as it was -/
def StpG (fr : Bool) (g : Value) (xs : List Nat) (ops : Array Oper) (i : Nat) (w w' : World) : Prop :=
  (nbAt xs ops i = false → Below w.heap.size w w') ∧ (nfAt fr xs ops i = false → Frm g w w')
theorem StpG.below {i : Nat} {w w' : World} (h : Below w.heap.size w w') : StpG fr g xs ops i w w' := ⟨fun _ => h, fun _ => ⟨h.size, fun b hb _ => h.block b hb⟩⟩

/-- an operation that looks at no memory -/
def mfOp0 (o : Oper) : Bool :=
  match o.op with
  | .move _ | .assign _ | .extract _ _ => true
  | _ => false
def mfOp (o : Oper) : Bool :=
  match o.op with
  | .move _ | .assign _ | .extract _ _ => true
  | .fieldAddr .. | .indexAddr .. => true
  | _ => false

/-- whatever order is picked from here on; every step but those that write only adds to what is there -/
def wpG (fr : Bool) (g : Value) (xs : List Nat) (P : Program) (md : Region.Mode) (ops : Array Oper) (K : Act → World → Prop) : Nat → Array Bool → Act → World → Prop
  | 0, listed, a, w => Region.ready md ops listed = [] ∧ K a w
  | f + 1, listed, a, w => (Region.ready md ops listed = [] → K a w) ∧
    ∀ i ∈ Region.ready md ops listed, wpOp P ops NoQ i (fun a' w' => StpG fr g xs ops i w w' ∧ wpG fr g xs P md ops K f (listed.setIfInBounds i true) a' w') a w

theorem upon_noQ {Q : Exit → Act → World → Prop} {o : Oper} {a : Act} {K : Act → World → Prop} {r : Result Next} (h : o.upon P a K NoQ r) : o.upon P a K Q r := by
  cases r with
  | ok n w' =>
    cases n <;> simp only [Oper.upon] at h ⊢ <;> first
      | exact h
      | exact Calls.mono h (fun e w'' he => by cases e <;> first | exact he | exact he.elim | exact (noQ_lets he).elim)
  | halt x w' => cases x <;> simp only [Oper.upon] at h ⊢ <;> exact h.elim

theorem wpOp_noQ {Q : Exit → Act → World → Prop} {i : Nat} {K : Act → World → Prop} {a : Act} {w : World} (h : wpOp P ops NoQ i K a w) : wpOp P ops Q i K a w := by
  unfold wpOp at *
  split
  · rename_i ho; simpa [ho] using h
  · rename_i o ho
    simp only [ho] at h
    split
    · rename_i hw
      simp only [hw, if_true] at h
      rcases h with h | h
      · exact .inl (upon_noQ h)
      · exact (noQ_lets h.2).elim
    · rename_i hw; simp only [hw] at h; exact h

theorem wpG_any {K : Act → World → Prop} {Q : Exit → Act → World → Prop} (hQ : ∀ a w, K a w → Q .normal a w) : ∀ (f : Nat) (listed : Array Bool) (a : Act) (w : World), wpG fr g xs P md ops K f listed a w → wpAny P md ops Q f listed a w
  | 0, _, _, _, h => ⟨h.1, hQ _ _ h.2⟩
  | f + 1, _, _, _, h => ⟨fun h0 => hQ _ _ (h.1 h0), fun i hi => wpOp_mono (fun a' w' h' => wpG_any hQ f _ a' w' h'.2) (wpOp_noQ (h.2 i hi))⟩

/-- it leaves 'v', now and in every world that only goes on from here -/
def YieldsNC (P : Program) (ops : Array Oper) (g : Value) (c : Nat) (w : World) (o : Oper) (v : Value) (a : Act) : Prop :=
  (Region.wanted o (yielded ops a.tmps) = true ∧ ∀ w', Rl g c w w' → (execOp a.eval o).run P w' = .ok (.value v) w') ∨
  (Region.wanted o (yielded ops a.tmps) = false ∧ v = undef)

theorem YieldsNC.later {w w' : World} {c : Nat} {o : Oper} {v : Value} {a : Act} (h : YieldsNC P ops g c w o v a) (hb : Rl g c w w') : YieldsNC P ops g c w' o v a := by
  rcases h with ⟨h1, h2⟩ | h
  · exact .inl ⟨h1, fun w2 h3 => h2 w2 (hb.trans h3)⟩
  · exact .inr h

theorem YieldsNC.of_same {w : World} {c : Nat} {o : Oper} {v : Value} {a a' : Act} (hy : YieldsNC P ops g c w o v a) (he : execOp a'.eval o = execOp a.eval o)
    (hw : Region.wanted o (yielded ops a'.tmps) = Region.wanted o (yielded ops a.tmps)) : YieldsNC P ops g c w o v a' := by
  unfold YieldsNC at *
  rw [he, hw]
  exact hy

theorem YieldsNC.op {w : World} {c : Nat} {i : Nat} {o : Oper} {v : Value} {a : Act} (hi : ops[i]? = some o) (hy : YieldsNC P ops g c w o v a) {K : Act → World → Prop} (h : K (a.put o.dst v) w) : wpOp P ops NoQ i K a w := by
  unfold wpOp
  simp only [hi]
  rcases hy with ⟨hw, hv⟩ | ⟨hw, rfl⟩
  · simp only [hw, if_true]
    refine .inl ?_
    unfold Oper.wp
    rw [hv w (Rl.refl _ _ _)]
    exact h
  · simp only [hw, Bool.false_eq_true, if_false]; exact h

/-- an operation does not see a slot that it does not read -/
theorem wpOp_put {w : World} {c : Nat} {S : World → Prop} (hS : ∀ w', S w' → Rl g c w w') {j : Nat} {oi oj : Oper} {v : Value} (hj : ops[j]? = some oj) (hap : oi.apart ops oj = true)
    (hsi : ∀ cs b, oi.op ≠ .select cs b) (hsj : ∀ cs b, oj.op ≠ .select cs b) {K : Act → World → Prop} {a : Act}
    (hy : YieldsNC P ops g c w oi v a) (h : wpOp P ops NoQ j (fun a' w' => S w' ∧ K a' w') (a.put oi.dst v) w) :
    wpOp P ops NoQ j (fun a' w' => S w' ∧ YieldsNC P ops g c w' oi v a' ∧ K (a'.put oi.dst v) w') a w := by
  obtain ⟨h1, h2, h3⟩ := Oper.apart_spec hap
  have keep : ∀ (a : Act), YieldsNC P ops g c w oi v a → ∀ u, YieldsNC P ops g c w oi v (a.put oj.dst u) := fun a hy u =>
    hy.of_same (execOp_put oi hsi a oj.dst u h3) (wanted_put oi a oj.dst u h3)
  have fin : ∀ (a : Act) (u : Value) (w' : World), YieldsNC P ops g c w oi v a → S w' ∧ K ((a.put oi.dst v).put oj.dst u) w' →
      S w' ∧ YieldsNC P ops g c w' oi v (a.put oj.dst u) ∧ K ((a.put oj.dst u).put oi.dst v) w' := fun a u w' hy h =>
    ⟨h.1, (keep a hy u).later (hS _ h.1), by rw [← Act.put_comm a v u h2]; exact h.2⟩
  unfold wpOp at *
  simp only [hj] at *
  rw [wanted_put oj a oi.dst v h1] at h
  split
  · rename_i hw
    simp only [hw, if_true] at h
    rcases h with h | h
    · refine .inl ?_
      unfold Oper.wp at *
      rw [execOp_put oj hsj a oi.dst v h1] at h
      generalize (execOp a.eval oj).run P w = r at *
      cases r with
      | ok n w' =>
        cases n <;> simp only [Oper.upon] at h ⊢
        case value u => exact fin a u w' hy h
        case skip => exact fin a undef w' hy h
        case defer d =>
          refine fin { a with defers := d :: a.defers } undef w' (hy.of_same rfl rfl) ?_
          have e : ({ a with defers := d :: a.defers } : Act).put oi.dst v = { a.put oi.dst v with defers := d :: (a.put oi.dst v).defers } := by cases oi.dst <;> rfl
          rw [e]; exact h
        case enter f args => exact Calls.mono h (fun e w'' he => by
          cases e with
          | returned u => exact fin a u w'' hy he
          | panicked c => exact he.elim
          | outgrown => exact he)
        case row r args => exact Rows.mono h (fun u w'' he => fin a u w'' hy he)
      | halt x w' => cases x <;> simp only [Oper.upon] at h <;> exact h.elim
    · exact (noQ_lets h.2).elim
  · rename_i hw
    simp only [hw] at h
    exact fin a undef w hy h

/-- what is listed waits for nothing that is not -/
def Clo (md : Region.Mode) (ops : Array Oper) (listed : Array Bool) : Prop :=
  ∀ j o, ops[j]? = some o → listed.getD j false = true → ∀ e ∈ o.after, Region.binds md e = true → listed.getD e.on false = true

def reachB (md : Region.Mode) (ops : Array Oper) : Nat → Nat → Nat → Bool
  | 0, j, i => j == i
  | f + 1, j, i => j == i || (match ops[j]? with
    | some o => o.after.any fun e => Region.binds md e && reachB md ops f e.on i
    | none => false)

theorem reachB_listed {listed : Array Bool} (hc : Clo md ops listed) {i : Nat} : ∀ (f j : Nat), reachB md ops f j i = true → listed.getD j false = true → listed.getD i false = true
  | 0, j, h, hj => by simp only [reachB, beq_iff_eq] at h; subst h; exact hj
  | f + 1, j, h, hj => by
    simp only [reachB, Bool.or_eq_true, beq_iff_eq] at h
    rcases h with rfl | h
    · exact hj
    · split at h
      case h_2 => cases h
      case h_1 o ho =>
        simp only [Array.any_eq_true', Bool.and_eq_true] at h
        obtain ⟨e, he, hb, hr⟩ := h
        exact reachB_listed hc f e.on hr (hc j o ho hj e he hb)

theorem reachB_ready {listed : Array Bool} (hc : Clo md ops listed) {i j : Nat} (hj : j ∈ Region.ready md ops listed) (hne : j ≠ i) {f : Nat} (h : reachB md ops f j i = true) : listed.getD i false = true := by
  obtain ⟨_, o, ho, hall⟩ := mem_ready.1 hj
  cases f with
  | zero => simp only [reachB, beq_iff_eq] at h; exact absurd h hne
  | succ f =>
    simp only [reachB, Bool.or_eq_true, beq_iff_eq, hne, false_or, ho] at h
    simp only [Array.any_eq_true', Bool.and_eq_true] at h
    obtain ⟨e, he, hb, hr⟩ := h
    exact reachB_listed hc f e.on hr (hall e he hb)

theorem Clo.set {listed : Array Bool} (hc : Clo md ops listed) {i : Nat} (hi : i ∈ Region.ready md ops listed) : Clo md ops (listed.setIfInBounds i true) := by
  have mono : ∀ k, listed.getD k false = true → (listed.setIfInBounds i true).getD k false = true := fun k hk => by
    by_cases hik : i = k
    · subst hik
      simp only [Array.getD_eq_getD_getElem?, Array.getElem?_setIfInBounds] at hk ⊢
      cases hx : listed[i]? with
      | none => rw [hx] at hk; cases hk
      | some b => have := (Array.getElem?_eq_some_iff.1 hx).1; simp [this]
    · rw [getD_set_ne false hik]; exact hk
  obtain ⟨_, oi, hoi, hall⟩ := mem_ready.1 hi
  intro j o ho hj e he hb
  by_cases hij : i = j
  · subst hij
    rw [hoi] at ho
    obtain rfl := Option.some.inj ho
    exact mono _ (hall e he hb)
  · rw [getD_set_ne false hij] at hj
    exact mono _ (hc j o ho hj e he hb)

/-- whoever writes memory waits for operation i, or operation i looks at none -/
def calmC (c : Nat) (fr : Bool) (xs : List Nat) (md : Region.Mode) (ops : Array Oper) (i : Nat) : Bool :=
  match c with
  | 0 => (List.range ops.size).all fun j => !nbAt xs ops j || reachB md ops ops.size j i
  | 1 => (List.range ops.size).all fun j => !nfAt fr xs ops j || reachB md ops ops.size j i
  | _ => true
def calm (xs : List Nat) (md : Region.Mode) (ops : Array Oper) (i : Nat) : Bool :=
  (match ops[i]? with | some o => mfOp o | none => false) || (List.range ops.size).all fun j => !nbAt xs ops j || reachB md ops ops.size j i

theorem wpG_first {K : Act → World → Prop} {c i : Nat} {oi : Oper} {v : Value} (hi : ops[i]? = some oi) (hsel : ∀ (j : Nat) (o : Oper) cs b, ops[j]? = some o → o.op ≠ .select cs b) :
    ∀ (f : Nat) (listed : Array Bool) (a : Act) (w : World),
      (∀ j oj, ops[j]? = some oj → j ≠ i → listed.getD j true = false → (∀ e ∈ oj.after, Region.binds md e = true → e.on ≠ i) → oi.apart ops oj = true) →
      i ∈ Region.ready md ops listed → YieldsNC P ops g c w oi v a → Clo md ops listed → calmC c fr xs md ops i = true →
      wpG fr g xs P md ops K f (listed.setIfInBounds i true) (a.put oi.dst v) w → wpG fr g xs P md ops K (f + 1) listed a w := by
  intro f
  induction f with
  | zero =>
    intro listed a w _ hr hy _ _ H
    refine ⟨fun h => (by rw [h] at hr; cases hr), fun j hj => ?_⟩
    by_cases hji : j = i
    · subst hji; exact hy.op hi ⟨.below (Below.refl _ _), H⟩
    · have := ready_mono hj hji
      rw [H.1] at this
      cases this
  | succ f ih =>
    intro listed a w hfree hr hy hclo hcalm H
    refine ⟨fun h => (by rw [h] at hr; cases hr), fun j hj => ?_⟩
    by_cases hji : j = i
    · subst hji; exact hy.op hi ⟨.below (Below.refl _ _), H⟩
    · have h1 := H.2 j (ready_mono hj hji)
      obtain ⟨hjun, oj, hoj, hall⟩ := mem_ready.1 hj
      have hnot : ∀ e ∈ oj.after, Region.binds md e = true → e.on ≠ i := fun e he hb heq => by
        have h1 := hall e he hb
        have h0 := (mem_ready.1 hr).1
        rw [heq, getD_both h0] at h1
        cases h1
      have hrch : reachB md ops ops.size j i = true → False := fun h => by
        have h0 := (mem_ready.1 hr).1
        have := reachB_ready hclo hj hji h
        rw [getD_both h0] at this
        cases this
      have hjs := (Array.getElem?_eq_some_iff.1 hoj).1
      have hS : ∀ w', StpG fr g xs ops j w w' → Rl g c w w' := fun w' hs => by
        match c, hcalm with
        | 0, hcalm =>
          simp only [calmC, Bool.or_eq_true, List.all_eq_true, List.mem_range, Bool.not_eq_true'] at hcalm
          exact hs.1 ((hcalm j hjs).resolve_right hrch)
        | 1, hcalm =>
          simp only [calmC, Bool.or_eq_true, List.all_eq_true, List.mem_range, Bool.not_eq_true'] at hcalm
          exact hs.2 ((hcalm j hjs).resolve_right hrch)
        | _ + 2, _ => trivial
      have h2 := wpOp_put hS hoj (hfree j oj hoj hji hjun hnot) (fun cs b => hsel i oi cs b hi) (fun cs b => hsel j oj cs b hoj) hy h1
      have hfree' : ∀ k ok, ops[k]? = some ok → k ≠ i → (listed.setIfInBounds j true).getD k true = false →
          (∀ e ∈ ok.after, Region.binds md e = true → e.on ≠ i) → oi.apart ops ok = true := fun k ok hk hki hun hno => by
        refine hfree k ok hk hki ?_ hno
        by_cases hjk : j = k
        · subst hjk; exact hjun
        · rw [getD_set_ne true hjk] at hun; exact hun
      refine wpOp_mono (fun a' w' h3 => ⟨h3.1, ih (listed.setIfInBounds j true) a' w' hfree' (ready_mono hr (Ne.symm hji)) h3.2.1 (hclo.set hj) hcalm ?_⟩) h2
      rw [Array.setIfInBounds_comm _ _ hji]
      exact h3.2.2
end
end Go.Aw
/- Rows of the call's own, cut. -/
namespace Go.Aw
open Go.RowKit

section
variable {P : Program} {Γ : Tys} {w0 : Base} {w w' : World} {ob : Nat → Prop} {st : St} {a : Act} {η : Env} {B : Nat}

theorem ownsRow_take {e n h cap : Nat} {ba : Option Addr} {xs : List Value} (ho : w.ownsRow B e 1 (.slice ba n cap) n xs) (hh : h ≤ n) :
    w.ownsRow B e 1 (.slice (if cap = 0 then ba else ba.map (·.add 0)) (h - 0) (cap - 0)) h (xs.take h) := by
  have hl := ho.1
  refine ⟨by rw [List.length_take]; omega, ?_⟩
  rcases ho.2 with ⟨hv, h0⟩ | ⟨g, cap', cur, hv, hg, hhp, hnc, hcm, hcs, htk⟩
  · cases hv
    exact .inl ⟨by simp; omega, by omega⟩
  · cases hv
    refine .inr ⟨g, cap, cur, ?_, hg, hhp, by omega, hcm, hcs, ?_⟩
    · by_cases hc : cap = 0
      · simp [hc]
      · simp [hc, Addr.add_lit]
    · rw [← htk]
      simp only [Nat.mul_one]
      rw [List.take_take, Nat.min_eq_left hh]

theorem SRows.drop {bad : Nat → Prop} {m : List (List Int)} {ba : Option Addr} {n c i : Nat} (h : SRows w bad m (.slice ba n c)) (hi : i ≤ m.length) :
    SRows w bad (m.drop i) (.slice (if c = i then ba else ba.map (·.add i)) (n - i) (c - i)) := by
  obtain ⟨a', c', hv, h1, h2, h3⟩ := h
  simp only [Value.slice.injEq] at hv
  obtain ⟨rfl, rfl, rfl⟩ := hv
  have hl : (m.drop i).length = m.length - i := by simp
  refine ⟨_, c - i, by rw [hl], by rw [hl]; omega, by omega, fun j l hj => ?_⟩
  rw [List.getElem?_drop] at hj
  have hlt := (List.getElem?_eq_some_iff.1 hj).1
  obtain ⟨b, o, u, rfl, hb, hc, hs⟩ := h3 (i + j) l hj
  refine ⟨b, o + i, u, ?_, hb, by rw [Nat.add_assoc]; exact hc, hs⟩
  rw [if_neg (by omega)]
  simp [Addr.add_lit]

theorem own_intsB {e : Nat} {k : IntKind} {l : List Int} {v : Value} {bad : Nat → Prop} (h : OwnInts w B e k l v) (hb : ∀ b, b ∈ blk v → ¬ bad b) : SInts w bad k l v := by
  obtain ⟨a, c, hv, h1, h2, h3⟩ := own_ints h
  refine ⟨a, c, hv, h1, h2, fun i x hi => ?_⟩
  obtain ⟨b, o, ha, _, hc⟩ := h3 i x hi
  exact ⟨b, o, ha, hb b (by rw [hv, ha]; simp [blk]), hc⟩

theorem own_rowsB {e : Nat} {m : List (List Int)} {cs : List Value} {v : Value} {bad : Nat → Prop} (h : w.ownsRow B e 1 v m.length cs) (hF : F2 (SInts w bad .i64) m cs) (hb : ∀ b, b ∈ blk v → ¬ bad b) : SRows w bad m v := by
  rcases h.2 with ⟨hv, h0⟩ | ⟨g, cap, cur, hv, hg, hh, hnc, hcm, r⟩
  · have : m = [] := List.eq_nil_of_length_eq_zero h0
    subst this
    exact ⟨none, 0, by simpa using hv, by simp, by unfold maxLen; omega, fun i x hi => by simp at hi⟩
  · refine ⟨some ⟨g, 0, none⟩, cap, hv, hnc, hcm, fun i x hi => ?_⟩
    obtain ⟨u, hu, hs⟩ := F2.at hF hi
    refine ⟨g, 0, u, rfl, hb g (by rw [hv]; simp [blk]), ?_, hs⟩
    rw [Nat.zero_add]
    exact own_ptr h (by rw [hv]; rfl) hu

/-- a row is given up -/
theorem SRep.giveUp (h : SRep w0 ob st a w η) (k : Nat) : SRep w0 ob (st.del k) a w η := by
  have hs : ∀ j r, look (rem k st.hp) j = some r → look st.hp j = some r := fun j r hj => by
    by_cases e : j = k
    · subst e; rw [look_rem] at hj; cases hj
    · rwa [look_rem_ne _ _ _ e] at hj
  obtain ⟨hh, hk⟩ := h.heap.forget (hp' := rem k st.hp) (nx' := st.nx) hs (fun j r hj => h.heap.lt j r (hs j r hj)) (Nat.le_refl _)
  refine ⟨h.defers, h.size, h.below, h.base, h.frame, fun b ⟨j, r, hj, hm⟩ => h.src b ⟨j, r, hs j r hj, hm⟩, hh, fun i x hi => ?_⟩
  exact VRep.frame hk (Nat.le_refl _) (fun j _ => OwnOk.of (fun r' hr' => ⟨r', hs j r' hr', rfl⟩) rfl rfl) (fun j _ => SubOk.of (fun r' hr' => ⟨r', hs j r' hr', rfl⟩) rfl) (h.slot i x hi)

theorem acut_sound (hΓ : TysOk P Γ) (h : SRep w0 ob st a w η) {o : Oper} {t k : Nat} {lo hi : Option Operand} (hc : cutOf st o = some (t, k, lo, hi)) {K : AVal → St → Prop} (hk : acut Γ st t k lo hi K) :
    ∃ v x st' η', K x st' ∧ st'.sz = st.sz ∧ SRep w0 ob st' a w η' ∧ VR w ob st' η' x v ∧ (execOp a.eval o).run P w = .ok (.value v) w := by
  obtain ⟨dst, op, type, pos, after, guard⟩ := o
  unfold cutOf at hc
  simp only at hc
  split at hc
  case h_2 => cases hc
  case h_1 t0 x lo0 hi0 =>
    split at hc
    case h_2 => cases hc
    case h_1 k0 hx =>
      simp only [Option.some.injEq, Prod.mk.injEq] at hc
      obtain ⟨rfl, rfl, rfl, rfl⟩ := hc
      have hv := ev_sound h hx
      unfold acut at hk
      split at hk
      case h_2 => exact hk.elim
      case h_1 e q1 q2 q3 hti =>
      have ht := (hΓ.at hti).desc
      simp only [TD.is] at ht
      split at hk
      case h_2 => exact hk.elim
      case h_1 d1 d2 d3 hei =>
      have hte := hΓ.at hei
      split at hk
      case h_1 =>
        split at hk
        case h_2 => exact hk.elim
        case h_1 y =>
        split at hk
        case h_2 => exact hk.elim
        case h_1 kk n hy =>
        split at hk
        case h_2 => exact hk.elim
        case h_1 e0 kd l hr =>
        obtain ⟨j, rfl, hj, hK⟩ := hk
        obtain ⟨hlt, hown⟩ := hv
        obtain ⟨_, hval⟩ := hown _ hr
        have hrow := h.heap.row k0 _ hr
        obtain ⟨ba, cp, hsl⟩ := len_own hrow.1
        have hnc : l.length ≤ cp := by
          rcases hrow.1.2 with ⟨h1, h2⟩ | ⟨g, cap, cur, h1, _, _, h2, _⟩
          · rw [hsl] at h1; simp only [Value.slice.injEq] at h1; omega
          · rw [hsl] at h1; simp only [Value.slice.injEq] at h1; omega
        have hown2 : w.ownsRow w0.B e0 1 (.slice (if cp = 0 then ba else ba.map (·.add 0)) (j - 0) (cp - 0)) j ((l.map (Value.int kd)).take j) := by
          have := hrow.1
          simp only [OwnInts] at this
          rw [hsl] at this
          exact ownsRow_take this hj
        generalize hv' : Value.slice (if cp = 0 then ba else ba.map (·.add 0)) (j - 0) (cp - 0) = v' at hown2
        have hblk : ∀ b, b ∈ blk v' → b ∈ blk (η.val k0) := fun b hb => by
          rw [← hv', hsl] at *
          cases ba with
          | none => by_cases h0 : cp = 0 <;> simp [h0, blk] at hb
          | some ad =>
            by_cases h0 : cp = 0
            · simpa [h0, blk] using hb
            · have : (ad.add 0) = ad := by cases ad; simp [Addr.add]
              simpa [h0, blk, this] using hb
        have hnd : (blk v').Nodup := by
          rw [← hv']; unfold blk; split <;> simp
        have hbs : bsOf η k0 (.ints e0 kd l) = blk (η.val k0) := by simp [bsOf, ARow.kind]
        have hbs' : bsOf (η.upd k0 v' ((l.take j).map (Value.int kd))) k0 (.ints e0 kd (l.take j)) = blk v' := by simp [bsOf, ARow.kind, upd_val]
        have hs := h.app (w' := w) (r' := .ints e0 kd (l.take j)) (v' := v') (cs' := (l.take j).map (Value.int kd)) (hp1 := st.hp) hr (fun _ _ _ h => h) (fun _ _ _ => rfl) (Below.refl _ _) (by rw [hbs']; exact hnd)
          (fun b hb => by
            rw [hbs'] at hb
            exact .inl ⟨k0, _, hr, by rw [hbs]; exact hblk b hb, .inl rfl⟩)
          (fun _ => ⟨by
            rw [upd_val]
            simp only [OwnInts, List.length_take, Nat.min_eq_left hj, List.map_take]
            exact hown2, upd_cel _ _ _ _⟩)
        refine ⟨v', .own k0, _, _, hK, rfl, hs, ⟨hlt, fun r hr' => ?_⟩, ?_⟩
        · simp only [St.upd, St.kill] at hr'
          rw [look_upd, if_pos rfl] at hr'
          obtain rfl := Option.some.inj hr'
          exact ⟨by simp [ARow.kind], (upd_val _ _ _ _).symm⟩
        · obtain ⟨hyv, _⟩ := ev_sound h hy
          simp only [execOp, hval, hsl, hyv, Option.map_none, Option.map_some]
          rw [Sem.run_bind, run_slice ht hte rfl (.inr (.inl ⟨rfl, rfl⟩)) (.inr ⟨_, rfl⟩) (Nat.zero_le _) hj hnc w, hv']
          simp
      case h_2 xl =>
        split at hk
        case h_2 => exact hk.elim
        case h_1 =>
        split at hk
        case h_2 => exact hk.elim
        case h_1 kk n hy =>
        split at hk
        case h_2 => exact hk.elim
        case h_1 e0 e1 m hr =>
        obtain ⟨j, rfl, hj, hK⟩ := hk
        obtain ⟨hlt, hown⟩ := hv
        obtain ⟨_, hval⟩ := hown _ hr
        have hrow := h.heap.row k0 _ hr
        obtain ⟨ba, cp, hsl⟩ := len_own hrow.1
        have hnc : m.length ≤ cp := by
          rcases hrow.1.2 with ⟨h1, h2⟩ | ⟨g, cap, cur, h1, _, _, h2, _⟩
          · rw [hsl] at h1; simp only [Value.slice.injEq] at h1; omega
          · rw [hsl] at h1; simp only [Value.slice.injEq] at h1; omega
        have hs := h.giveUp k0
        have hgone : ∀ b, b ∈ bsOf η k0 (.rows e0 e1 true m) → ¬ badOf ob (st.del k0).hp η b := fun b hb => by
          rintro (h1 | ⟨j', r', hj', hm⟩)
          · exact h.free ⟨k0, _, hr, hb⟩ h1
          · simp only [St.del] at hj'
            by_cases e : j' = k0
            · subst e; rw [look_rem] at hj'; cases hj'
            · rw [look_rem_ne _ _ _ e] at hj'
              exact h.heap.apart j' r' k0 _ hj' hr e b hm hb
        have hbs : bsOf η k0 (.rows e0 e1 true m) = blk (η.val k0) ++ (η.cel k0).flatMap blk := by simp [bsOf, ARow.kind]
        have hS : SRows w (badOf ob (st.del k0).hp η) m (η.val k0) := own_rowsB hrow.1
          (F2.imp (fun l u hu ho => own_intsB ho (fun b hb => hgone b (by rw [hbs]; exact List.mem_append.2 (.inr (List.mem_flatMap.2 ⟨u, hu, hb⟩))))) hrow.2)
          (fun b hb => hgone b (by rw [hbs]; exact List.mem_append.2 (.inl hb)))
        rw [hsl] at hS
        refine ⟨_, .t (.rows (m.drop j)), _, η, hK, rfl, hs, hS.drop hj, ?_⟩
        obtain ⟨hyv, _⟩ := ev_sound h hy
        simp only [execOp, hval, hsl, hyv, Option.map_none, Option.map_some]
        rw [Sem.run_bind, run_slice ht hte rfl (.inr (.inr ⟨_, rfl⟩)) (.inl ⟨rfl, rfl⟩) hj (Nat.le_refl _) hnc w]
        simp
end
end Go.Aw
/- Lists of operations. -/
namespace Go.Aw
open Go.RowKit

section
variable {P : Program} {Γ : Tys} {w0 : Base} {w w' : World} {ob : Nat → Prop} {st : St} {a : Act} {η : Env}

theorem VReps.app {w : World} {bad : Nat → Prop} {hp : List (Nat × ARow)} {nx : Nat} : ∀ {l : List AVal} {vs : List Value} {l' : List AVal} {vs' : List Value}, VReps w bad hp nx η l vs → VReps w bad hp nx η l' vs' → VReps w bad hp nx η (l ++ l') (vs ++ vs') := VReps.append

theorem callee_run (h : SRep w0 ob st a w η) {c : Call} {g : FuncId} {args : List AVal} (hc : callee st c = some (g, args)) (hf : FOk P g) {o : Oper} (ho : o.op = .call c) :
    ∃ vs : List Value, VRs w ob st η args vs ∧ ∀ w' : World, (execOp a.eval o).run P w' = .ok (.enter g vs.toArray) w' := by
  obtain ⟨ce, ar, tys⟩ := c
  obtain ⟨al⟩ := ar
  unfold callee at hc
  simp only at hc
  split at hc
  case h_2 => cases hc
  case h_1 f =>
    split at hc
    case h_2 => cases hc
    case h_1 g' caps hev =>
      split at hc
      case h_2 => cases hc
      case h_1 l hl =>
        simp only [Option.some.injEq, Prod.mk.injEq] at hc
        obtain ⟨rfl, rfl⟩ := hc
        obtain ⟨cs, he, hr⟩ := ev_sound h hev
        have hl' := evs_sound h hl
        obtain ⟨fn, h1, h2, h3⟩ := hf.ok
        refine ⟨_, hl'.append hr, fun w' => ?_⟩
        have h3' : fn.body ≠ none := by intro e; rw [e] at h3; cases h3
        have h2' : fn.name ≠ "runtime.NumGoroutine" := by simpa using h2
        simp [execOp, ho, resolve, Deferred.ofValue, he, invoke, callFunc, h1, h2', h3']

/-- what comes back is taken in -/
theorem acallR_core (h : SRep w0 ob st a w η) {f : FuncId} {args cargs : List AVal} (hcl : closeArgs st.hp args = some cargs) {K : AVal → St → Prop}
    (hk : match hasOwns args with
      | true => ACall P f cargs fun x h => match noSh x && rowsOwn h with
        | true => K (x.shift st.nx) (st.add h)
        | false => False
      | false => ACall P f cargs fun x h => K (x.shift st.nx) (st.add h)) {vs : List Value} (hvs : VRs w ob st η args vs) :
    Calls P f vs.toArray w fun e w' => ∃ v x st' η', e = .returned v ∧ K x st' ∧ st'.sz = st.sz ∧ Below w.heap.size w w' ∧ SRep w0 ob st' a w' η' ∧ VR w' ob st' η' x v := by
  have enter : ∀ {bad : Nat → Prop} {K' : AVal → List (Nat × ARow) → Prop} {Q : Ending → World → Prop}, ACall P f cargs K' → (∀ b, bad b → b < w.heap.size) → (∀ vs, VRs w ob st η args vs → VReps w bad [] 0 η0 cargs vs) →
      (∀ x hr, K' x hr → ∀ v w' ηh, Below w.heap.size w w' → HRep w' w.heap.size bad hr hr.length ηh → VRep w' (fun b => bad b ∨ ownB hr ηh b) hr hr.length ηh x v → Q (.returned v) w') → Calls P f vs.toArray w Q := by
    intro bad K' Q hc hbl hargs hcont
    obtain ⟨post, ⟨hf, hs⟩, hpost⟩ := hc.run
    refine (hs w bad vs hbl (hargs vs hvs)).mono ?_
    rintro e w' ⟨v, x, hr, ηh, rfl, hp, hb, hh, hv⟩
    exact hcont x hr (hpost x hr hp) v w' ηh hb hh hv
  split at hk
  case h_1 hown =>
    refine enter (bad := fun _ => False) hk (fun _ h => h.elim) (fun vs hvs => closeArgs_sound h.heap hcl hvs) (fun x hr hK v w' ηh hb hh hv => ?_)
    cases hns : noSh x && rowsOwn hr with
    | false => rw [hns] at hK; exact hK.elim
    | true =>
      rw [hns] at hK
      simp only [Bool.and_eq_true] at hns
      obtain ⟨hs', hvr⟩ := h.join hb (hh.bad (ob' := badOf ob st.hp η) hns.2)
      exact ⟨v, _, _, _, rfl, hK, rfl, hb, hs', hvr x v (noSh_bad x hns.1 hv)⟩
  case h_2 hown =>
    refine enter (bad := badOf ob st.hp η) hk (fun _ hb => h.badlt hb) (fun vs hvs => ?_) (fun x hr hK v w' ηh hb hh hv => ?_)
    · exact clos_plain args hown hcl hvs
    · obtain ⟨hs', hvr⟩ := h.join hb hh
      exact ⟨v, _, _, _, rfl, hK, rfl, hb, hs', hvr x v hv⟩

theorem acallR_sound (h : SRep w0 ob st a w η) {c : Call} {K : AVal → St → Prop} (hk : acallR P st c K) {o : Oper} (ho : o.op = .call c) {next : Act → World → Prop} {Q : Exit → Act → World → Prop}
    (hn : ∀ v x st' w' η', K x st' → st'.sz = st.sz → Below w.heap.size w w' → SRep w0 ob st' a w' η' → VR w' ob st' η' x v → next (a.put o.dst v) w') : o.wp P a w next Q := by
  unfold acallR at hk
  split at hk
  case h_1 => exact hk.elim
  case h_2 f args hcal =>
    split at hk
    case h_1 => exact hk.elim
    case h_2 cargs hcl =>
      have hfok : FOk P f := by
        split at hk
        · obtain ⟨post, ⟨hf, _⟩, _⟩ := hk.run; exact hf
        · obtain ⟨post, ⟨hf, _⟩, _⟩ := hk.run; exact hf
      obtain ⟨vs, hvs, hrun⟩ := callee_run h hcal hfok ho
      unfold Oper.wp
      rw [hrun w, Oper.upon_enter]
      refine (acallR_core h hcl hk hvs).mono ?_
      rintro e w' ⟨v, x, st', η', rfl, hK, hsz, hb, hs', hv⟩
      exact hn v x st' w' η' hK hsz hb hs' hv

theorem ACallS.useK {f : FuncId} {args cargs : List AVal} {K : AVal → St → Prop} {post : AVal → List (Nat × ARow) → Prop} (hs : FSpec P f cargs post)
    (hk : ∀ x h, post x h → match hasOwns args with
      | true => match noSh x && rowsOwn h with
        | true => K (x.shift st.nx) (st.add h)
        | false => False
      | false => K (x.shift st.nx) (st.add h)) (hc : closeArgs st.hp args = some cargs) : ACallS P st f args K := by
  refine ⟨hs.1, fun w0 ob a w η h vs hvs => ?_⟩
  refine (acallR_core (K := K) h hc ?_ hvs).mono ?_
  · split
    case h_1 hown => rw [hown] at hk; exact ⟨_, hs, fun x h hp => hk x h hp⟩
    case h_2 hown => rw [hown] at hk; exact ⟨_, hs, fun x h hp => hk x h hp⟩
  · rintro e w' ⟨v, x, st', η', he, hK, hsz, _, hs', hv⟩
    exact ⟨v, x, st', η', he, hK, hsz, hs', hv⟩

/-- what comes back is taken in -/
theorem acall_sound (h : SRep w0 ob st a w η) {c : Call} {K : AVal → St → Prop} (hk : acall P st c K) {o : Oper} (ho : o.op = .call c) {next : Act → World → Prop} {Q : Exit → Act → World → Prop}
    (hn : ∀ v x st' w' η', K x st' → st'.sz = st.sz → SRep w0 ob st' a w' η' → VR w' ob st' η' x v → next (a.put o.dst v) w') : o.wp P a w next Q := by
  unfold acall at hk
  split at hk
  case h_1 => exact hk.elim
  case h_2 f args hcal =>
    obtain ⟨st1, hk, e1, e2, e3, e4⟩ := frSt_spec hk
    rw [frL_eq] at hk
    obtain ⟨vs, hvs, hrun⟩ := callee_run h hcal hk.fok ho
    unfold Oper.wp
    rw [hrun w, Oper.upon_enter]
    refine (hk.run w0 ob a w η (h.same e1 e2 e3 e4) vs (by rw [e2, e3]; exact hvs)).mono ?_
    rintro e w' ⟨v, x, st', η', rfl, hK, hsz, hs', hv⟩
    exact hn v x st' w' η' hK (hsz.trans e1) hs' hv

theorem putD_sound {st' : St} (h : SRep w0 ob st' a w' η) {o : Oper} {x : AVal} {v : Value} {K : St → Prop} (hk : putD st' o x K) (hv : VR w' ob st' η x v) : ∃ st'', K st'' ∧ SRep w0 ob st'' (a.put o.dst v) w' η ∧ st''.sz = st'.sz := by
  unfold putD at hk
  split at hk
  case h_1 hd => rw [hd]; exact ⟨_, hk, h, rfl⟩
  case h_2 d hd =>
    split at hk
    case h_2 => exact hk.elim
    case h_1 hlt =>
      rw [hd]
      exact ⟨_, hk, h.put (Nat.le_of_ble_eq_true hlt) hv, rfl⟩

/-- what is remembered of guards -/
def DecOk (dec : List (Nat × Bool)) (a : Act) : Prop := ∀ d b, look dec d = some b → a.tmps[d]? = some (.bool b)

theorem DecOk.put {dec : List (Nat × Bool)} (h : DecOk dec a) (o : Oper) (v : Value) : DecOk (decOff o dec) (a.put o.dst v) := by
  intro d b hd
  unfold decOff at hd
  cases ho : o.dst with
  | none => rw [ho] at hd; simp only [Act.put]; exact h d b hd
  | some d' =>
    rw [ho] at hd
    simp only at hd
    by_cases hdd : d = d'
    · subst hdd; rw [look_rem] at hd; cases hd
    · rw [look_rem_ne _ _ _ hdd] at hd
      have := h d b hd
      simp only [Act.put, Array.getElem?_setIfInBounds]
      rw [if_neg (Ne.symm hdd)]; exact this

theorem aguard_sound (h : SRep w0 ob st a w η) {opsA : Array Oper} {dec : List (Nat × Bool)} (hdec : DecOk dec a) {o : Oper} {yes no : List (Nat × Bool) → Prop} (hk : aguard opsA.toList st dec o yes no) :
    ∃ dec', DecOk dec' a ∧ ((Region.wanted o (yielded opsA a.tmps) = true ∧ yes dec') ∨ (Region.wanted o (yielded opsA a.tmps) = false ∧ no dec')) := by
  unfold aguard at hk
  unfold Region.wanted
  split at hk
  case h_1 hg => rw [hg]; exact ⟨dec, hdec, .inl ⟨rfl, hk⟩⟩
  case h_2 j want hg =>
    rw [hg]
    split at hk
    case h_2 => exact hk.elim
    case h_1 oj hoj =>
      rw [nth_eq] at hoj
      have hoj' : opsA[j]? = some oj := by simpa using hoj
      split at hk
      case h_2 => exact hk.elim
      case h_1 d hd =>
        have yv : ∀ b, a.tmps[d]? = some (.bool b) → yielded opsA a.tmps j = some b := fun b hb => by
          simp [yielded, hoj', hd, hb]
        split at hk
        case h_1 b hb =>
          have hy := yv b (hdec d b hb)
          simp only [hy]
          split at hk
          case h_1 => exact ⟨dec, hdec, .inl ⟨rfl, hk⟩⟩
          case h_2 => exact ⟨dec, hdec, .inl ⟨rfl, hk⟩⟩
          case h_3 h1 h2 =>
            refine ⟨dec, hdec, .inr ⟨?_, hk⟩⟩
            cases b <;> cases want <;> first | rfl | (exact (h1 rfl rfl).elim) | (exact (h2 rfl rfl).elim)
        case h_2 hnone =>
          split at hk
          case h_3 => exact hk.elim
          case h_2 hb =>
            have hv := h.tmp hb
            obtain ⟨cs, hv, hcs⟩ := hv
            have hcs : cs = [] := by cases cs with | nil => rfl | cons => exact hcs.elim
            subst hcs
            refine ⟨dec, hdec, .inr ⟨?_, hk⟩⟩
            have : yielded opsA a.tmps j = none := by
              simp only [yielded, hoj', hd, Option.bind_some]
              cases hq : a.tmps[d]? with
              | none => rfl
              | some u =>
                rw [Array.getD_eq_getD_getElem?, hq] at hv
                simp only [Option.getD_some] at hv
                subst hv; rfl
            simp only [this]
            rfl
          case h_1 b hb =>
            obtain ⟨hv, _⟩ := h.tmp hb
            have hdlt : d < a.tmps.size := by
              refine Nat.lt_of_not_le fun hge => ?_
              have : a.tmps.getD d undef = undef := by simp [Array.getD_eq_getD_getElem?, Array.getElem?_eq_none hge]
              rw [this] at hv
              simp [undef] at hv
            have hv' : a.tmps[d]? = some (.bool b) := by
              rw [Array.getD_eq_getD_getElem?, Array.getElem?_eq_getElem hdlt] at hv
              rw [Array.getElem?_eq_getElem hdlt]
              simpa using hv
            have hy := yv b hv'
            simp only [hy]
            have hdec' : DecOk ((d, b) :: dec) a := fun d' b' h' => by
              rw [look_cons] at h'
              split at h'
              · simp only [Option.some.injEq] at h'; subst_vars; exact hv'
              · exact hdec d' b' h'
            refine ⟨(d, b) :: dec, hdec', ?_⟩
            cases want <;> cases b <;> simp only at hk
            · exact .inl ⟨rfl, hk.1 trivial⟩
            · exact .inr ⟨rfl, hk.2 trivial⟩
            · exact .inr ⟨rfl, hk.2 trivial⟩
            · exact .inl ⟨rfl, hk.1 trivial⟩

theorem decOf_eval {dec : List (Nat × Bool)} (hdec : DecOk dec a) {c : Operand} {b : Bool} (h : decOf dec c = some b) : a.eval c = .bool b := by
  unfold decOf at h
  split at h
  case h_1 t =>
    have := hdec t b h
    simp [Act.eval, Array.getD_eq_getD_getElem?, this]
  case h_2 => cases h

theorem apick_sound (h : SRep w0 ob st a w η) {dec : List (Nat × Bool)} (hdec : DecOk dec a) {o : Oper} {c x y : Operand} (ho : o.op = .pick c x y) {K : AVal → Prop} (hk : apick st dec c x y K) :
    ∃ v q, K q ∧ VR w ob st η q v ∧ Yields1 P w a o v := by
  have fin : ∀ t : Bool, a.eval c = .bool t → (match ev st (if t then x else y) with | some v => K v | none => False) → ∃ v q, K q ∧ VR w ob st η q v ∧ Yields1 P w a o v := by
    intro t hc hk
    cases he : ev st (if t then x else y) with
    | none => rw [he] at hk; exact hk.elim
    | some q =>
      rw [he] at hk
      refine ⟨_, q, hk, ev_sound h he, fun w' _ => ?_⟩
      simp only [execOp, ho, hc, asBool]
      cases t <;> rfl
  unfold apick at hk
  split at hk
  case h_1 hr => exact fin true (decOf_eval hdec hr) hk
  case h_2 hr => exact fin false (decOf_eval hdec hr) hk
  case h_3 =>
    split at hk
    case h_2 => exact hk.elim
    case h_1 t ht =>
      obtain ⟨hc, _⟩ := ev_sound h ht
      cases t with
      | true => exact fin true hc (hk.1 rfl)
      | false => exact fin false hc (hk.2 rfl)

theorem isPick_op {o : Oper} {c x y : Operand} (h : isPick o = some (c, x, y)) : o.op = .pick c x y := by
  unfold isPick at h
  split at h
  case h_1 heq => simp only [Option.some.injEq, Prod.mk.injEq] at h; obtain ⟨rfl, rfl, rfl⟩ := h; exact heq
  case h_2 => cases h

theorem isCall_op {o : Oper} {c : Call} (h : isCall o = some c) : o.op = .call c := by
  unfold isCall at h
  split at h
  case h_1 heq => simp only [Option.some.injEq] at h; subst h; exact heq
  case h_2 => cases h

theorem wp_of_yields {o : Oper} {v : Value} (hy : Yields1 P w a o v) {next : Act → World → Prop} {Q : Exit → Act → World → Prop} (hn : next (a.put o.dst v) w) : o.wp P a w next Q := by
  unfold Oper.wp
  rw [hy w (Below.refl _ _), Oper.upon_value]
  exact hn

theorem undef_rep (st : St) : VR w ob st η (.tu []) undef := ⟨[], rfl, trivial⟩

theorem alist_soundR (hΓ : TysOk P Γ) {opsA : Array Oper} {Q : Exit → Act → World → Prop} {K : St → Prop} (rest : List Oper) (hQ : ∀ st a w η, K st → SRep w0 ob st a w η → wpList P opsA Q rest a w) :
    ∀ (l : List Oper) (st : St) (dec : List (Nat × Bool)) (a : Act) (w : World) (η : Env), SRep w0 ob st a w η → DecOk dec a → alist P Γ opsA.toList l st dec K → wpList P opsA Q (l ++ rest) a w
  | [], st, dec, a, w, η, h, _, hk => by rw [List.nil_append]; exact hQ st a w η hk h
  | o :: l, st, dec, a, w, η, h, hdec, hk => by
    rw [alist_cons] at hk
    obtain ⟨dec', hdec', hg⟩ := aguard_sound h hdec hk
    rw [List.cons_append]
    unfold wpList
    rcases hg with ⟨hw, hk⟩ | ⟨hw, hk⟩
    · rw [if_pos hw]
      refine .inl ?_
      split at hk
      case h_1 c x y hp =>
        obtain ⟨v, q, hq, hv, hy⟩ := apick_sound (P := P) h hdec' (isPick_op hp) hk
        obtain ⟨st2, hk2, hs2, _⟩ := putD_sound h hq hv
        exact wp_of_yields hy (alist_soundR hΓ rest hQ l st2 _ _ _ η hs2 (hdec'.put o v) hk2)
      case h_2 =>
        split at hk
        case h_1 c hc =>
          refine acall_sound h hk (isCall_op hc) (fun v x st' w' η' hK _ hs' hv => ?_)
          obtain ⟨st2, hk2, hs2, _⟩ := putD_sound hs' hK hv
          exact alist_soundR hΓ rest hQ l st2 _ _ _ η' hs2 (hdec'.put o v) hk2
        case h_2 =>
          split at hk
          case h_1 =>
            obtain ⟨v, x, st', w', η', hK, _, hs', hv, hrun, _⟩ := an_sound hΓ h hk
            obtain ⟨st2, hk2, hs2, _⟩ := putD_sound hs' hK hv
            have := alist_soundR hΓ rest hQ l st2 _ _ _ η' hs2 (hdec'.put o v) hk2
            unfold Oper.wp
            rcases hrun with hrun | ⟨hrun, rfl⟩
            · rw [hrun, Oper.upon_value]; exact this
            · rw [hrun, Oper.upon_skip]; exact this
          case h_2 =>
            split at hk
            case h_1 t k lo hi hcut =>
              obtain ⟨v, x, st', η', hK, _, hs', hv, hrun⟩ := acut_sound hΓ h hcut hk
              obtain ⟨st2, hk2, hs2, _⟩ := putD_sound hs' hK hv
              have := alist_soundR hΓ rest hQ l st2 _ _ _ η' hs2 (hdec'.put o v) hk2
              unfold Oper.wp
              rw [hrun, Oper.upon_value]; exact this
            case h_2 =>
            obtain ⟨v, q, hq, hv, hy⟩ := aq_sound hΓ h hk
            obtain ⟨st2, hk2, hs2, _⟩ := putD_sound h hq hv
            exact wp_of_yields hy (alist_soundR hΓ rest hQ l st2 _ _ _ η hs2 (hdec'.put o v) hk2)
    · rw [if_neg (by rw [hw]; simp)]
      obtain ⟨st2, hk2, hs2, _⟩ := putD_sound h hk (undef_rep st)
      exact alist_soundR hΓ rest hQ l _ _ _ _ η hs2 (hdec'.put o undef) hk2

theorem alist_sound (hΓ : TysOk P Γ) {opsA : Array Oper} {Q : Exit → Act → World → Prop} {K : St → Prop} (hQ : ∀ st a w η, K st → SRep w0 ob st a w η → Q .normal a w) :
    ∀ (l : List Oper) (st : St) (dec : List (Nat × Bool)) (a : Act) (w : World) (η : Env), SRep w0 ob st a w η → DecOk dec a → alist P Γ opsA.toList l st dec K → wpList P opsA Q l a w := fun l st dec a w η h hd hk => by
  have := alist_soundR hΓ (Q := Q) [] (fun st a w η hk h => hQ st a w η hk h) l st dec a w η h hd hk
  rwa [List.append_nil] at this

theorem qcall_sound (h : SRep w0 ob st a w η) {c : Call} {K : AVal → Prop} (hk : qcall P st c K) {o : Oper} (ho : o.op = .call c) :
    ∃ v q, K q ∧ VR w ob st η q v ∧ ∀ w', Below w.heap.size w w' → o.quietAt P a (fun w' => Below w.heap.size w w') w' v := by
  unfold qcall at hk
  split at hk
  case h_1 => exact hk.elim
  case h_2 f args hcal =>
    split at hk
    case h_1 => exact hk.elim
    case h_2 cargs hcl =>
      obtain ⟨v, hone, ⟨hf, hs⟩, hK⟩ := hk.run
      obtain ⟨vs, hvs, hrun⟩ := callee_run h hcal hf ho
      refine ⟨v, .c v, hK, ⟨rfl, hone⟩, fun w1 hb => ?_⟩
      have h1 := h.mono hb
      unfold Oper.quietAt
      rw [hrun w1]
      refine ⟨rfl, ?_⟩
      have hcl1 : VReps w1 (fun _ => False) [] 0 η0 cargs vs := by
        refine closeArgs_sound h1.heap hcl ?_
        exact VReps.frame (Keeps.below hb) (Nat.le_refl _) (fun k _ => OwnOk.refl _ _ k) (fun k _ => SubOk.refl _ _ k) hvs
      refine (hs w1 (fun _ => False) vs (fun _ h => h.elim) hcl1).mono ?_
      rintro e w2 ⟨u, x, hr, ηh, rfl, ⟨rfl, rfl⟩, hb2, _, hv⟩
      refine ⟨by rw [hv.1], ?_⟩
      exact hb.trans (hb2.mono hb.size)

theorem wpQuiet_of_yields {o : Oper} {v : Value} {C : World → Prop} (hC : C = fun w' => Below w.heap.size w w') (hy : Yields1 P w a o v) {K : Act → Prop} (hn : K (a.put o.dst v)) : o.quiet P a C K := by
  subst hC
  refine ⟨v, fun w' hb => ?_, hn⟩
  unfold Oper.quietAt
  rw [hy w' hb]
  exact ⟨rfl, rfl⟩

theorem aqlist_sound (hΓ : TysOk P Γ) {opsA : Array Oper} {Q' : Act → Prop} {w : World} {η : Env} {K : St → List (Nat × Bool) → Prop} (hQ : ∀ st a dec, K st dec → SRep w0 ob st a w η → DecOk dec a → Q' a) :
    ∀ (l : List Oper) (st : St) (dec : List (Nat × Bool)) (a : Act), SRep w0 ob st a w η → DecOk dec a → aqlist P Γ opsA.toList l st dec K → wpQuiet P opsA (fun w' => Below w.heap.size w w') Q' l a
  | [], st, dec, a, h, hdec, hk => hQ st a dec hk h hdec
  | o :: l, st, dec, a, h, hdec, hk => by
    rw [aqlist_cons] at hk
    obtain ⟨dec', hdec', hg⟩ := aguard_sound h hdec hk
    unfold wpQuiet
    rcases hg with ⟨hw, hk⟩ | ⟨hw, hk⟩
    · rw [if_pos hw]
      split at hk
      case h_1 c x y hp =>
        obtain ⟨v, q, hq, hv, hy⟩ := apick_sound (P := P) h hdec' (isPick_op hp) hk
        obtain ⟨st2, hk2, hs2, _⟩ := putD_sound h hq hv
        exact wpQuiet_of_yields rfl hy (aqlist_sound hΓ hQ l st2 _ _ hs2 (hdec'.put o v) hk2)
      case h_2 =>
        split at hk
        case h_1 c hc =>
          obtain ⟨v, q, hq, hv, hy⟩ := qcall_sound h hk (isCall_op hc)
          obtain ⟨st2, hk2, hs2, _⟩ := putD_sound h hq hv
          exact ⟨v, hy, aqlist_sound hΓ hQ l st2 _ _ hs2 (hdec'.put o v) hk2⟩
        case h_2 =>
          obtain ⟨v, q, hq, hv, hy⟩ := aq_sound hΓ h hk
          obtain ⟨st2, hk2, hs2, _⟩ := putD_sound h hq hv
          exact wpQuiet_of_yields rfl hy (aqlist_sound hΓ hQ l st2 _ _ hs2 (hdec'.put o v) hk2)
    · rw [if_neg (by rw [hw]; simp)]
      obtain ⟨st2, hk2, hs2, _⟩ := putD_sound h hk (undef_rep st)
      exact aqlist_sound hΓ hQ l _ _ _ hs2 (hdec'.put o undef) hk2

theorem below_drawn (w : World) : Below w.heap.size w { w with drawn := w.drawn + 1 } := ⟨rfl, rfl, rfl, Nat.le_refl _, fun _ _ => rfl⟩

theorem ADraw.std (hΓ : TysOk P Γ) (hm : P.follows .mixedOrders = true) {ops : Array Oper} {K : St → Prop} (hk : astd P Γ ops st K) : ADraw P ops st K := by
  refine ⟨fun id w0 ob a w ⟨η, h⟩ => ?_⟩
  have fin : ∀ st a w η, K st → SRep w0 ob st a w η → (fun e a' w' => e = Exit.normal ∧ ∃ st', K st' ∧ StRep w0 ob st' a' w') Exit.normal a w := fun st a w η hk hs => ⟨rfl, st, hk, η, hs⟩
  have nodec : DecOk [] a := fun d b hd => by simp [look] at hd
  unfold astd at hk
  split at hk
  case h_1 =>
    obtain ⟨hB, hk⟩ := hk
    refine wp_region_quiet (C := fun w' => Below w.heap.size w w') hm hB (below_drawn w) ?_
    exact aqlist_sound hΓ (fun st a dec hK hs _ w' hw' => fin st a w' η hK (hs.mono hw')) _ st [] a h nodec hk
  case h_2 =>
    obtain ⟨hB, hk⟩ := hk
    refine wp_quiet_tail (C := fun w' => Below w.heap.size w w') _ hm hB (below_drawn w) ?_
    exact aqlist_sound hΓ (fun st a dec hK hs hdec w' hw' => alist_sound hΓ fin _ st dec a w' η (hs.mono hw') hdec hK) _ st [] a h nodec hk

theorem aregion_sound (hΓ : TysOk P Γ) (h : SRep w0 ob st a w η) {id : Nat} {ops : Array Oper} {draw : Bool} {K : Exit → St → Prop} (hk : aregion P Γ ops draw st (K .normal)) :
    (Code.region id ops draw).wp P (lift w0 ob K) a w := by
  have fin : ∀ st a w η, K .normal st → SRep w0 ob st a w η → lift w0 ob K .normal a w := fun st a w η hk hs => ⟨st, hk, η, hs⟩
  have nodec : DecOk [] a := fun d b hd => by simp [look] at hd
  unfold aregion at hk
  split at hk
  case h_1 =>
    split at hk
    case h_1 => exact wp_region_list (alist_sound hΓ fin _ st [] a w η h nodec hk)
    case h_2 => exact wp_mono (hk.run id w0 ob a w ⟨η, h⟩) (fun e a' w' ⟨he, st', h1, h2⟩ => by subst he; exact ⟨st', h1, h2⟩)
  case h_2 => exact wp_mono (hk.run id w0 ob a w ⟨η, h⟩) (fun e a' w' ⟨he, st', h1, h2⟩ => by subst he; exact ⟨st', h1, h2⟩)
end
end Go.Aw
namespace Go.Aw
theorem ACall.use {P : Program} {st : St} {f : FuncId} {args cargs : List AVal} {K : AVal → St → Prop} {x : AVal} {h : List (Nat × ARow)} (hs : FSpec P f cargs (ex x h))
    (hk : match hasOwns args with
      | true => match noSh x && rowsOwn h with
        | true => K (x.shift st.nx) (st.add h)
        | false => False
      | false => K (x.shift st.nx) (st.add h)) (hc : closeArgs st.hp args = some cargs := by rfl) : ACallS P st f args K :=
  ACallS.useK hs (fun _ _ e => by obtain ⟨rfl, rfl⟩ := e; exact hk) hc
theorem ACall.usek {P : Program} {st : St} {f : FuncId} {args cargs : List AVal} {K : AVal → St → Prop} {x : AVal} {h : List (Nat × ARow)} (hs : FSpec P f cargs (ex x h))
    (hk : match hasOwns args with
      | true => match noSh x && rowsOwn h with
        | true => K (x.shift st.nx) (st.add h)
        | false => False
      | false => K (x.shift st.nx) (st.add h)) (hc : closeArgs st.hp args = some cargs := by kernel_rfl) : ACallS P st f args K :=
  ACallS.useK hs (fun _ _ e => by obtain ⟨rfl, rfl⟩ := e; exact hk) hc
theorem ACall.use' {P : Program} {st : St} {f : FuncId} {args cargs : List AVal} {K : AVal → St → Prop} {post : AVal → List (Nat × ARow) → Prop} (hs : FSpec P f cargs post)
    (hk : ∀ x h, post x h → match hasOwns args with
      | true => match noSh x && rowsOwn h with
        | true => K (x.shift st.nx) (st.add h)
        | false => False
      | false => K (x.shift st.nx) (st.add h)) (hc : closeArgs st.hp args = some cargs := by rfl) : ACallS P st f args K := ACallS.useK hs hk hc
end Go.Aw
/- A region that draws its order, by a plan: what only reads is taken as it comes up, calls in every order. -/
namespace Go.Aw
open Go.RowKit

/-- an order of going on: 'q' takes one that only reads; 'alt' .. 'last' go through all that may be next -/
inductive Plan where
  | done
  | q (i : Nat) (p : Plan)
  | last (i : Nat) (p : Plan)
  | alt (i : Nat) (p rest : Plan)
  | inl (i : Nat) (p : Plan)
  | alti (i : Nat) (p rest : Plan)
  | ql (i : Nat) (p : Plan)

def Plan.ok (fr : Bool) (xs : List Nat) (ops : Array Oper) : Plan → Array Bool → Option (List Nat) → Bool
  | .done, listed, none => (Region.ready .any ops listed).isEmpty
  | .q i p, listed, none => (Region.ready .any ops listed).contains i && Region.free .any ops listed i && calm xs .any ops i && p.ok fr xs ops (listed.setIfInBounds i true) none
  | .last i p, listed, todo => (match todo.getD (Region.ready .any ops listed) with | [j] => j == i | _ => false) && p.ok fr xs ops (listed.setIfInBounds i true) none
  | .alt i p rest, listed, todo => match todo.getD (Region.ready .any ops listed) with
    | j :: t => j == i && p.ok fr xs ops (listed.setIfInBounds i true) none && rest.ok fr xs ops listed (some t)
    | [] => false
  | .inl i p, listed, todo => xs.contains i && (match todo.getD (Region.ready .any ops listed) with | [j] => j == i | _ => false) && p.ok fr xs ops (listed.setIfInBounds i true) none
  | .alti i p rest, listed, todo => match todo.getD (Region.ready .any ops listed) with
    | j :: t => xs.contains i && j == i && p.ok fr xs ops (listed.setIfInBounds i true) none && rest.ok fr xs ops listed (some t)
    | [] => false
  | .ql i p, listed, none => (Region.ready .any ops listed).contains i && Region.free .any ops listed i && calmC 1 fr xs .any ops i && p.ok fr xs ops (listed.setIfInBounds i true) none
  | _, _, _ => false

def Plan.deep : Plan → Nat
  | .done => 0
  | .q _ p => p.deep + 1
  | .last _ p => p.deep + 1
  | .alt _ p rest => max (p.deep + 1) rest.deep
  | .inl _ p => p.deep + 1
  | .alti _ p rest => max (p.deep + 1) rest.deep
  | .ql _ p => p.deep + 1

/-- a call, in such a region -/
def astep (P : Program) (Γ : Tys) (ops : List Oper) (i : Nat) (st : St) (dec : List (Nat × Bool)) (K : St → List (Nat × Bool) → Prop) : Prop :=
  match nth ops i with
  | none => False
  | some o => aguard ops st dec o
      (fun dec => match isPick o with
        | some (c, a, b) => apick st dec c a b fun v => putD st o v fun st' => K st' (decOff o dec)
        | none => match isCall o with
          | some c => acallR P st c fun v st' => putD st' o v fun st'' => K st'' (decOff o dec)
          | none => match isNQ o with
            | true => an Γ st o fun v st' => putD st' o v fun st'' => K st'' (decOff o dec)
            | false => match cutOf st o with
              | some (t, k, lo, hi) => acut Γ st t k lo hi fun v st' => putD st' o v fun st'' => K st'' (decOff o dec)
              | none => aq Γ st o fun v => putD st o v fun st' => K st' (decOff o dec))
      (fun dec => putD st o (.tu []) fun st' => K st' (decOff o dec))

/-- a call that may write rows of its caller, in such a region -/
def astepI (P : Program) (ops : List Oper) (i : Nat) (st : St) (dec : List (Nat × Bool)) (K : St → List (Nat × Bool) → Prop) : Prop :=
  match nth ops i with
  | none => False
  | some o => match o.guard with
    | some _ => False
    | none => match isCall o with
      | some c => acall P st c fun v st' => putD st' o v fun st'' => K st'' (decOff o dec)
      | none => False

/-- a call that of what is there writes but the row 0 -/
structure ACallT (P : Program) (st : St) (f : FuncId) (args : List AVal) (K : AVal → St → Prop) : Prop where
  fok : FOk P f
  run : ∀ w0 ob a w η, SRep w0 ob st a w η → ∀ vs, VReps w (fun b => ob b ∨ ownB st.hp η b) st.hp st.nx η args vs →
    Calls P f vs.toArray w fun e w' => (∃ v x st' η', e = .returned v ∧ K x st' ∧ st'.sz = st.sz ∧ SRep w0 ob st' a w' η' ∧ VRep w' (fun b => ob b ∨ ownB st'.hp η' b) st'.hp st'.nx η' x v) ∧
      w.heap.size ≤ w'.heap.size ∧ ∀ r, look st.hp 0 = some r → ∀ b, b < w.heap.size → b ∉ bsOf η 0 r → w'.heap[b]? = w.heap[b]?

/-- slot z lies behind the frame and points to row 0 -/
def gho (z : Nat) (st : St) (K : Prop) : Prop :=
  match look st.sl z with
  | some (.ptr 0 0) => match look st.hp 0 with
    | some (.cells _ _) => match Nat.ble st.sz z with
      | true => K
      | false => False
    | _ => False
  | _ => False

def acallT (P : Program) (z : Nat) (st : St) (c : Call) (K : AVal → St → Prop) : Prop :=
  match callee st c with
  | none => False
  | some (f, args) => gho z st (frSt st fun st => frL args fun args => ACallT P st f args K)

def astepT (P : Program) (z : Nat) (ops : List Oper) (i : Nat) (st : St) (dec : List (Nat × Bool)) (K : St → List (Nat × Bool) → Prop) : Prop :=
  match nth ops i with
  | none => False
  | some o => match o.guard with
    | some _ => False
    | none => match isCall o with
      | some c => acallT P z st c fun v st' => putD st' o v fun st'' => K st'' (decOff o dec)
      | none => False

/-- a cell of a row of the call's own (not row 0) is read -/
def aloadC (Γ : Tys) (z : Nat) (st : St) (t : Nat) (x : Operand) (K : AVal → Prop) : Prop :=
  match ev st x with
  | some (.ptr k off) => match k with
    | 0 => False
    | k + 1 => match look st.hp (k + 1) with
      | some (.cells _ l) => match look Γ t with
        | some ti => match ti.d.agg with
          | false => match nth l off with
            | some y => gho z st (K y)
            | none => False
          | true => False
        | none => False
      | _ => False
  | _ => False

def areadL (Γ : Tys) (z : Nat) (ops : List Oper) (i : Nat) (st : St) (dec : List (Nat × Bool)) (K : St → List (Nat × Bool) → Prop) : Prop :=
  match nth ops i with
  | none => False
  | some o => match o.guard with
    | some _ => False
    | none => match o.op with
      | .load t x => aloadC Γ z st t x fun v => putD st o v fun st' => K st' (decOff o dec)
      | _ => False

/-- an operation that only reads -/
def aread (Γ : Tys) (ops : List Oper) (i : Nat) (st : St) (dec : List (Nat × Bool)) (K : St → List (Nat × Bool) → Prop) : Prop :=
  match nth ops i with
  | none => False
  | some o => aguard ops st dec o
      (fun dec => match isPick o with
        | some (c, a, b) => apick st dec c a b fun v => putD st o v fun st' => K st' (decOff o dec)
        | none => match isCall o with
          | some _ => False
          | none => aq Γ st o fun v => putD st o v fun st' => K st' (decOff o dec))
      (fun dec => putD st o (.tu []) fun st' => K st' (decOff o dec))

def apl (P : Program) (Γ : Tys) (tz : Option Nat) (ops : List Oper) (K : St → Prop) (p : Plan) : St → List (Nat × Bool) → Prop :=
  @Plan.rec (fun _ => St → List (Nat × Bool) → Prop)
    (fun st _ => K st)
    (fun i _ ih st dec => aread Γ ops i st dec ih)
    (fun i _ ih st dec => astep P Γ ops i st dec ih)
    (fun i _ _ ih ih' st dec => astep P Γ ops i st dec ih ∧ ih' st dec)
    (fun i _ ih st dec => match tz with | none => astepI P ops i st dec ih | some z => astepT P z ops i st dec ih)
    (fun i _ _ ih ih' st dec => (match tz with | none => astepI P ops i st dec ih | some z => astepT P z ops i st dec ih) ∧ ih' st dec)
    (fun i _ ih st dec => match tz with | none => False | some z => areadL Γ z ops i st dec ih) p

section
variable {P : Program} {Γ : Tys} {w0 : Base} {w w' : World} {ob : Nat → Prop} {st : St} {a : Act} {η : Env} {ops : Array Oper} {xs : List Nat} {fr : Bool} {g : Value}

def Fin (w0 : Base) (ob : Nat → Prop) (K : St → Prop) (a : Act) (w : World) : Prop := ∃ st η, K st ∧ SRep w0 ob st a w η

theorem yields_mf {o : Oper} {v : Value} (hy : Yields1 P w a o v) : ∀ w', (mfOp0 o = true ∨ Below w.heap.size w w') → (execOp a.eval o).run P w' = .ok (.value v) w' := by
  intro w' h
  rcases h with h | h
  · have h0 := hy w (Below.refl _ _)
    obtain ⟨dst, op, type, pos, after, guard⟩ := o
    unfold mfOp0 at h
    split at h
    case h_1 x hx =>
      simp only at hx
      subst hx
      simp only [execOp, Sem.run_pure, Result.ok.injEq] at h0 ⊢
      exact ⟨h0.1, trivial⟩
    case h_2 x hx =>
      simp only at hx
      subst hx
      simp only [execOp, Sem.run_pure, Result.ok.injEq] at h0 ⊢
      exact ⟨h0.1, trivial⟩
    case h_3 x i hx =>
      simp only at hx
      subst hx
      simp only [execOp, Sem.run_bind, Sem.run_pure] at h0 ⊢
      unfold Instr.extract at h0 ⊢
      split at h0
      case h_1 vs =>
        split at h0
        case h_1 u hu =>
          simp only [Sem.run_pure, Result.andThen_ok, Result.ok.injEq] at h0 ⊢
          exact ⟨h0.1, trivial⟩
        case h_2 => simp at h0
      case h_2 => simp at h0
    case h_4 => cases h
  · exact hy w' h

/-- what looks at no memory yields the same in every world -/
theorem aq_mf (hΓ : TysOk P Γ) (h : SRep w0 ob st a w η) {o : Oper} {K : AVal → Prop} (hk : aq Γ st o K) :
    ∃ v x, K x ∧ VR w ob st η x v ∧ ∀ w', (mfOp o = true ∨ Below w.heap.size w w') → (execOp a.eval o).run P w' = .ok (.value v) w' := by
  by_cases h0 : mfOp o = true ∧ mfOp0 o = false
  · obtain ⟨dst, op, type, pos, after, guard⟩ := o
    cases op <;> simp [mfOp, mfOp0] at h0
    case fieldAddr s x f =>
      have hk : (match ev st x with | some a => afaddr Γ st s a f K | none => False) := hk
      cases hx : ev st x with
      | none => rw [hx] at hk; exact hk.elim
      | some p =>
        rw [hx] at hk
        obtain ⟨v, z, h1, h2, h3⟩ := afaddr_sound hΓ h (ev_sound h hx) hk
        exact ⟨v, z, h1, h2, fun w' _ => by simp [execOp, h3 w']⟩
    case indexAddr t x ix =>
      have hk : (match ev st x with
        | some a => match ev st ix with | some b => aidx Γ st t a b K | none => False
        | none => False) := hk
      cases hx : ev st x with
      | none => rw [hx] at hk; exact hk.elim
      | some p =>
        rw [hx] at hk
        cases hy : ev st ix with
        | none => rw [hy] at hk; exact hk.elim
        | some q =>
          rw [hy] at hk
          obtain ⟨v, z, h1, h2, h3⟩ := aidx_sound hΓ h (ev_sound h hx) (ev_sound h hy) hk
          exact ⟨v, z, h1, h2, fun w' _ => by simp [execOp, h3 w']⟩
  · obtain ⟨v, z, h1, h2, h3⟩ := aq_sound hΓ h hk
    refine ⟨v, z, h1, h2, fun w' hw => yields_mf h3 w' (hw.imp (fun hm => ?_) id)⟩
    cases h5 : mfOp0 o with
    | true => rfl
    | false => exact absurd ⟨hm, h5⟩ h0

theorem gho_spec (h : SRep w0 ob st a w η) {z : Nat} {K : Prop} (hk : gho z st K) : K ∧ ∃ e l b, look st.hp 0 = some (.cells e l) ∧ bsOf η 0 (.cells e l) = [b] ∧ blk (w0.γ z) = [b] := by
  unfold gho at hk
  split at hk
  case h_2 => exact hk.elim
  case h_1 hz =>
    split at hk
    case h_2 => exact hk.elim
    case h_1 e l hr =>
      split at hk
      case h_2 => exact hk.elim
      case h_1 hle =>
        have hle := Nat.le_of_ble_eq_true hle
        have hs := h.slot _ _ hz
        rw [Array.getD_eq_getD_getElem?, Array.getElem?_eq_none (by rw [h.size]; exact hle)] at hs
        obtain ⟨_, hs⟩ := (hs : VRep w _ _ _ _ (.ptr 0 0) (w0.γ z))
        obtain ⟨_, b, h1, h2⟩ := hs _ hr
        exact ⟨hk, e, l, b, hr, by simp [bsOf, ARow.kind, h1], by rw [show w0.γ z = _ from h2]; rfl⟩

theorem acallT_sound (h : SRep w0 ob st a w η) {z : Nat} {c : Call} {K : AVal → St → Prop} (hk : acallT P z st c K) {o : Oper} (ho : o.op = .call c) {next : Act → World → Prop} {Q : Exit → Act → World → Prop}
    (hn : ∀ v x st' w' η', K x st' → st'.sz = st.sz → Frm (w0.γ z) w w' → SRep w0 ob st' a w' η' → VR w' ob st' η' x v → next (a.put o.dst v) w') : o.wp P a w next Q := by
  unfold acallT at hk
  split at hk
  case h_1 => exact hk.elim
  case h_2 f args hcal =>
    obtain ⟨hk, e, l, b0, hr0, hb0, hg0⟩ := gho_spec h hk
    obtain ⟨st1, hk, e1, e2, e3, e4⟩ := frSt_spec hk
    rw [frL_eq] at hk
    obtain ⟨vs, hvs, hrun⟩ := callee_run h hcal hk.fok ho
    unfold Oper.wp
    rw [hrun w, Oper.upon_enter]
    refine (hk.run w0 ob a w η (h.same e1 e2 e3 e4) vs (by rw [e2, e3]; exact hvs)).mono ?_
    rintro e' w' ⟨⟨v, x, st', η', rfl, hK, hsz, hs', hv⟩, hsize, hfr⟩
    refine hn v x st' w' η' hK (hsz.trans e1) ⟨hsize, fun b hb hnb => hfr _ (by rw [e2]; exact hr0) b hb (by rw [hb0, ← hg0]; exact hnb)⟩ hs' hv

theorem astepT_sound {z : Nat} {i : Nat} (hxs : xs.contains i = true) (h : SRep w0 ob st a w η) {dec : List (Nat × Bool)} {K : St → List (Nat × Bool) → Prop} (hd : DecOk dec a) (hk : astepT P z ops.toList i st dec K) {next : Act → World → Prop}
    (hn : ∀ st' dec' a' w' η', K st' dec' → SRep w0 ob st' a' w' η' → DecOk dec' a' → next a' w') : wpOp P ops NoQ i (fun a' w' => StpG fr (w0.γ z) xs ops i w w' ∧ next a' w') a w := by
  unfold astepT at hk
  split at hk
  case h_1 => exact hk.elim
  case h_2 o ho =>
    have hoi : ops[i]? = some o := by rw [nth_eq] at ho; simpa using ho
    have hnb : ¬ nbAt xs ops i = false := fun h => by
      simp only [nbAt, hoi, Bool.or_eq_false_iff] at h
      rw [hxs] at h
      exact absurd h.2 (by simp)
    split at hk
    case h_1 => exact hk.elim
    case h_2 hg =>
      split at hk
      case h_2 => exact hk.elim
      case h_1 c hc =>
        have hw : Region.wanted o (yielded ops a.tmps) = true := by unfold Region.wanted; rw [hg]
        unfold wpOp
        simp only [hoi]
        rw [if_pos hw]
        refine .inl ?_
        refine acallT_sound h hk (isCall_op hc) (fun v x st' w' η' hK _ hF hs' hv => ?_)
        obtain ⟨st2, hk2, hs2, _⟩ := putD_sound hs' hK hv
        exact ⟨⟨fun h => absurd h hnb, fun _ => hF⟩, hn _ _ _ _ _ hk2 hs2 (hd.put o v)⟩

theorem aloadC_sound (hΓ : TysOk P Γ) (h : SRep w0 ob st a w η) {z t : Nat} {x : Operand} {K : AVal → Prop} (hk : aloadC Γ z st t x K) :
    ∃ v y, K y ∧ VR w ob st η y v ∧ ∀ w', Frm (w0.γ z) w w' → (Instr.loadAt t (a.eval x)).run P w' = .ok v w' := by
  unfold aloadC at hk
  split at hk
  case h_2 => exact hk.elim
  case h_1 k off hx =>
  split at hk
  case h_1 => exact hk.elim
  case h_2 k =>
  split at hk
  case h_2 => exact hk.elim
  case h_1 e l hr =>
  split at hk
  case h_2 => exact hk.elim
  case h_1 ti hti =>
  split at hk
  case h_2 => exact hk.elim
  case h_1 ha =>
  split at hk
  case h_2 => exact hk.elim
  case h_1 y hy =>
  obtain ⟨hK, e0, l0, b0, hr0, hb0, hg0⟩ := gho_spec h hk
  obtain ⟨_, hp⟩ := (ev_sound h hx : VR w ob st η (.ptr (k + 1) off) (a.eval x))
  obtain ⟨_, b, hb, hval⟩ := hp _ hr
  have hrow := h.heap.row _ _ hr
  obtain ⟨b', h1, h2, h3, h4⟩ := hrow
  obtain ⟨v, hv, hvy⟩ := VReps.nth h4 hy
  have hc := row_cell (h.heap.row _ _ hr) hb hv
  have hmem : b ∈ bsOf η (k + 1) (.cells e l) := by simp [bsOf, ARow.kind, hb]
  have hlt := (RowRep.lt (h.heap.row _ _ hr) b hmem).2
  have hne : b ∉ blk (w0.γ z) := by
    rw [hg0, ← hb0]
    exact h.heap.apart _ _ 0 _ hr hr0 (by omega) b hmem
  refine ⟨v, y, hK, hvy, fun w' hF => ?_⟩
  rw [hval, run_loadAt]
  exact run_loadVar1 (hΓ.at hti) ha (by rw [World.cell?_of_block (w := w) (hF.2 b hlt hne)]; exact hc)

theorem areadL_sound (hΓ : TysOk P Γ) (h : SRep w0 ob st a w η) {z i : Nat} {dec : List (Nat × Bool)} {K : St → List (Nat × Bool) → Prop} (hd : DecOk dec a) (hk : areadL Γ z ops.toList i st dec K) :
    ∃ o v, ops[i]? = some o ∧ YieldsNC P ops (w0.γ z) 1 w o v a ∧ ∃ st' dec', K st' dec' ∧ SRep w0 ob st' (a.put o.dst v) w η ∧ DecOk dec' (a.put o.dst v) := by
  unfold areadL at hk
  split at hk
  case h_1 => exact hk.elim
  case h_2 o ho =>
    have hoi : ops[i]? = some o := by rw [nth_eq] at ho; simpa using ho
    split at hk
    case h_1 => exact hk.elim
    case h_2 hg =>
      split at hk
      case h_2 => exact hk.elim
      case h_1 t x hop =>
        have hw : Region.wanted o (yielded ops a.tmps) = true := by unfold Region.wanted; rw [hg]
        obtain ⟨v, q, hq, hv, hy⟩ := aloadC_sound hΓ h hk
        obtain ⟨st2, hk2, hs2, _⟩ := putD_sound h hq hv
        exact ⟨o, v, hoi, .inl ⟨hw, fun w' hF => by simp [execOp, hop, hy w' hF]⟩, st2, _, hk2, hs2, hd.put o v⟩

theorem aread_sound (hΓ : TysOk P Γ) (h : SRep w0 ob st a w η) {i : Nat} {dec : List (Nat × Bool)} {K : St → List (Nat × Bool) → Prop} (hd : DecOk dec a) (hk : aread Γ ops.toList i st dec K) :
    ∃ o v, ops[i]? = some o ∧ YieldsNC P ops g (if mfOp o then 2 else 0) w o v a ∧ ∃ st' dec', K st' dec' ∧ SRep w0 ob st' (a.put o.dst v) w η ∧ DecOk dec' (a.put o.dst v) := by
  unfold aread at hk
  split at hk
  case h_1 => exact hk.elim
  case h_2 o ho =>
    have hoi : ops[i]? = some o := by rw [nth_eq] at ho; simpa using ho
    obtain ⟨dec', hdec', hg⟩ := aguard_sound h hd hk
    rcases hg with ⟨hw, hk⟩ | ⟨hw, hk⟩
    · split at hk
      case h_1 c x y hp =>
        obtain ⟨v, q, hq, hv, hy⟩ := apick_sound (P := P) h hdec' (isPick_op hp) hk
        obtain ⟨st2, hk2, hs2, _⟩ := putD_sound h hq hv
        have hm : mfOp o = false := by simp [mfOp, isPick_op hp]
        exact ⟨o, v, hoi, .inl ⟨hw, fun w' hw' => hy w' (by simpa [hm, Rl] using hw')⟩, st2, _, hk2, hs2, hdec'.put o v⟩
      case h_2 =>
        split at hk
        case h_1 => exact hk.elim
        case h_2 =>
          obtain ⟨v, q, hq, hv, hy⟩ := aq_mf hΓ h hk
          obtain ⟨st2, hk2, hs2, _⟩ := putD_sound h hq hv
          exact ⟨o, v, hoi, .inl ⟨hw, fun w' hw' => hy w' (by
            cases hm : mfOp o with
            | true => exact .inl rfl
            | false => exact .inr (by simpa [hm, Rl] using hw'))⟩, st2, _, hk2, hs2, hdec'.put o v⟩
    · obtain ⟨st2, hk2, hs2, _⟩ := putD_sound h hk (undef_rep st)
      exact ⟨o, undef, hoi, .inr ⟨hw, rfl⟩, _, _, hk2, hs2, hdec'.put o undef⟩

theorem astep_sound (hΓ : TysOk P Γ) (h : SRep w0 ob st a w η) {i : Nat} {dec : List (Nat × Bool)} {K : St → List (Nat × Bool) → Prop} (hd : DecOk dec a) (hk : astep P Γ ops.toList i st dec K) {next : Act → World → Prop}
    (hn : ∀ st' dec' a' w' η', K st' dec' → StpG fr g xs ops i w w' → SRep w0 ob st' a' w' η' → DecOk dec' a' → next a' w') : wpOp P ops NoQ i next a w := by
  unfold astep at hk
  split at hk
  case h_1 => exact hk.elim
  case h_2 o ho =>
    have hoi : ops[i]? = some o := by rw [nth_eq] at ho; simpa using ho
    obtain ⟨dec', hdec', hg⟩ := aguard_sound h hd hk
    unfold wpOp
    simp only [hoi]
    rcases hg with ⟨hw, hk⟩ | ⟨hw, hk⟩
    · rw [if_pos hw]
      refine .inl ?_
      split at hk
      case h_1 c x y hp =>
        obtain ⟨v, q, hq, hv, hy⟩ := apick_sound (P := P) h hdec' (isPick_op hp) hk
        obtain ⟨st2, hk2, hs2, _⟩ := putD_sound h hq hv
        exact wp_of_yields hy (hn _ _ _ _ _ hk2 (.below (Below.refl _ _)) hs2 (hdec'.put o v))
      case h_2 =>
        split at hk
        case h_1 c hc =>
          refine acallR_sound h hk (isCall_op hc) (fun v x st' w' η' hK _ hb hs' hv => ?_)
          obtain ⟨st2, hk2, hs2, _⟩ := putD_sound hs' hK hv
          exact hn _ _ _ _ _ hk2 (.below hb) hs2 (hdec'.put o v)
        case h_2 =>
          split at hk
          case h_2 =>
            split at hk
            case h_1 t k lo hi hcut =>
              obtain ⟨v, x, st', η', hK, _, hs', hv, hrun⟩ := acut_sound hΓ h hcut hk
              obtain ⟨st2, hk2, hs2, _⟩ := putD_sound hs' hK hv
              have := hn _ _ _ _ _ hk2 (.below (Below.refl _ _)) hs2 (hdec'.put o v)
              unfold Oper.wp
              rw [hrun, Oper.upon_value]; exact this
            case h_2 =>
            obtain ⟨v, q, hq, hv, hy⟩ := aq_sound hΓ h hk
            obtain ⟨st2, hk2, hs2, _⟩ := putD_sound h hq hv
            exact wp_of_yields hy (hn _ _ _ _ _ hk2 (.below (Below.refl _ _)) hs2 (hdec'.put o v))
          case h_1 hnq =>
            have hnb : nbAt xs ops i = false → nbOp o = false := fun h => by simp only [nbAt, hoi, Bool.or_eq_false_iff] at h; exact h.1
            have hnf : nfAt fr xs ops i = false → nbOp o = false := fun h => by simp only [nfAt, hoi, Bool.or_eq_false_iff] at h; exact h.1
            obtain ⟨v, x, st', w', η', hK, _, hs', hv, hrun, hbw⟩ := an_sound hΓ h hk
            obtain ⟨st2, hk2, hs2, _⟩ := putD_sound hs' hK hv
            have := hn _ _ _ _ _ hk2 ⟨fun hf => hbw (hnb hf), fun hf => (StpG.below (fr := fr) (g := g) (xs := []) (ops := #[]) (i := 0) (hbw (hnf hf))).2 rfl⟩ hs2 (hdec'.put o v)
            unfold Oper.wp
            rcases hrun with hrun | ⟨hrun, rfl⟩
            · rw [hrun, Oper.upon_value]; exact this
            · rw [hrun, Oper.upon_skip]; exact this
    · rw [if_neg (by rw [hw]; simp)]
      obtain ⟨st2, hk2, hs2, _⟩ := putD_sound h hk (undef_rep st)
      exact hn _ _ _ _ _ hk2 (.below (Below.refl _ _)) hs2 (hdec'.put o undef)

theorem astepI_sound {i : Nat} (hfr : fr = false) (hxs : xs.contains i = true) (h : SRep w0 ob st a w η) {dec : List (Nat × Bool)} {K : St → List (Nat × Bool) → Prop} (hd : DecOk dec a) (hk : astepI P ops.toList i st dec K) {next : Act → World → Prop}
    (hn : ∀ st' dec' a' w' η', K st' dec' → SRep w0 ob st' a' w' η' → DecOk dec' a' → next a' w') : wpOp P ops NoQ i (fun a' w' => StpG fr g xs ops i w w' ∧ next a' w') a w := by
  unfold astepI at hk
  split at hk
  case h_1 => exact hk.elim
  case h_2 o ho =>
    have hoi : ops[i]? = some o := by rw [nth_eq] at ho; simpa using ho
    have hnb : ¬ nbAt xs ops i = false := fun h => by
      simp only [nbAt, hoi, Bool.or_eq_false_iff] at h
      rw [hxs] at h
      exact absurd h.2 (by simp)
    split at hk
    case h_1 => exact hk.elim
    case h_2 hg =>
      split at hk
      case h_2 => exact hk.elim
      case h_1 c hc =>
        have hw : Region.wanted o (yielded ops a.tmps) = true := by unfold Region.wanted; rw [hg]
        unfold wpOp
        simp only [hoi]
        rw [if_pos hw]
        refine .inl ?_
        refine acall_sound h hk (isCall_op hc) (fun v x st' w' η' hK _ hs' hv => ?_)
        obtain ⟨st2, hk2, hs2, _⟩ := putD_sound hs' hK hv
        exact ⟨⟨fun h => absurd h hnb, fun h => by simp only [nfAt, hoi, hfr, Bool.or_eq_false_iff, Bool.not_false, Bool.true_and] at h; rw [hxs] at h; exact absurd h.2 (by simp)⟩, hn _ _ _ _ _ hk2 hs2 (hd.put o v)⟩

def frO (tz : Option Nat) : Bool := match tz with | none => false | some _ => true
def gO (w0 : Base) (tz : Option Nat) : Value := match tz with | none => undef | some z => w0.γ z
theorem astepX_sound {tz : Option Nat} {i : Nat} (hxs : xs.contains i = true) (h : SRep w0 ob st a w η) {dec : List (Nat × Bool)} {K : St → List (Nat × Bool) → Prop} (hd : DecOk dec a)
    (hk : match tz with | none => astepI P ops.toList i st dec K | some z => astepT P z ops.toList i st dec K) {next : Act → World → Prop}
    (hn : ∀ st' dec' a' w' η', K st' dec' → SRep w0 ob st' a' w' η' → DecOk dec' a' → next a' w') : wpOp P ops NoQ i (fun a' w' => StpG (frO tz) (gO w0 tz) xs ops i w w' ∧ next a' w') a w := by
  cases tz with
  | none => exact astepI_sound rfl hxs h hd hk hn
  | some z => exact astepT_sound hxs h hd hk hn

theorem clo_none (ops : Array Oper) : Clo .any ops (Array.replicate ops.size false) := fun j o _ hj => by
  simp only [Array.getD_eq_getD_getElem?, Array.getElem?_replicate] at hj
  split at hj <;> simp at hj

theorem apl_sound {tz : Option Nat} (hΓ : TysOk P Γ) (hsel : Region.noSelect ops = true) {K : St → Prop} : ∀ (p : Plan) (listed : Array Bool) (todo : Option (List Nat)) (f : Nat) (st : St) (dec : List (Nat × Bool)) (a : Act) (w : World) (η : Env),
    p.ok (frO tz) xs ops listed todo = true → p.deep ≤ f → Clo .any ops listed → (∀ t, todo = some t → ∀ i ∈ t, i ∈ Region.ready .any ops listed) → SRep w0 ob st a w η → DecOk dec a → apl P Γ tz ops.toList K p st dec →
      (todo = none → wpG (frO tz) (gO w0 tz) xs P .any ops (Fin w0 ob K) f listed a w) ∧
      ∀ t, todo = some t → ∃ f', f = f' + 1 ∧ ∀ i ∈ t, wpOp P ops NoQ i (fun a' w' => StpG (frO tz) (gO w0 tz) xs ops i w w' ∧ wpG (frO tz) (gO w0 tz) xs P .any ops (Fin w0 ob K) f' (listed.setIfInBounds i true) a' w') a w
  | .done, listed, some t, f, st, dec, a, w, η, hok, _, hclo, htd, h, hd, hk => by simp [Plan.ok] at hok
  | .done, listed, none, f, st, dec, a, w, η, hok, _, hclo, htd, h, hd, hk => by
    have hr : Region.ready .any ops listed = [] := by simpa [Plan.ok] using hok
    refine ⟨fun _ => ?_, fun t ht => by cases ht⟩
    cases f with
    | zero => exact ⟨hr, st, η, hk, h⟩
    | succ f => exact ⟨fun _ => ⟨st, η, hk, h⟩, fun i hi => by rw [hr] at hi; cases hi⟩
  | .q i p, listed, some t, f, st, dec, a, w, η, hok, _, hclo, htd, h, hd, hk => by simp [Plan.ok] at hok
  | .q i p, listed, none, f, st, dec, a, w, η, hok, hf, hclo, htd, h, hd, hk => by
    simp only [Plan.ok, Bool.and_eq_true] at hok
    obtain ⟨⟨⟨h1, h2⟩, hcalm⟩, h3⟩ := hok
    have hrdy : i ∈ Region.ready .any ops listed := by simpa using h1
    obtain ⟨o, v, hoi, hy, st', dec', hk', hs', hd'⟩ := aread_sound hΓ h hd (show aread Γ ops.toList i st dec (apl P Γ tz ops.toList K p) from hk)
    simp only [Plan.deep] at hf
    obtain ⟨f', rfl⟩ : ∃ f', f = f' + 1 := ⟨f - 1, by omega⟩
    refine ⟨fun _ => ?_, fun t ht => by cases ht⟩
    have := (apl_sound hΓ hsel p _ none f' st' dec' _ w η h3 (by omega) (hclo.set hrdy) (fun t ht => by cases ht) hs' hd' hk').1 rfl
    refine wpG_first hoi (Region.noSelect_spec hsel) f' listed a w (Region.free_spec hoi h2) hrdy hy hclo ?_ this
    cases hm : mfOp o with
    | true => rfl
    | false => simpa [calm, hoi, hm, calmC] using hcalm
  | .ql i p, listed, some t, f, st, dec, a, w, η, hok, _, hclo, htd, h, hd, hk => by simp [Plan.ok] at hok
  | .ql i p, listed, none, f, st, dec, a, w, η, hok, hf, hclo, htd, h, hd, hk => by
    simp only [Plan.ok, Bool.and_eq_true] at hok
    obtain ⟨⟨⟨h1, h2⟩, hcalm⟩, h3⟩ := hok
    have hrdy : i ∈ Region.ready .any ops listed := by simpa using h1
    simp only [Plan.deep] at hf
    obtain ⟨f', rfl⟩ : ∃ f', f = f' + 1 := ⟨f - 1, by omega⟩
    refine ⟨fun _ => ?_, fun t ht => by cases ht⟩
    cases tz with
    | none => exact hk.elim
    | some z =>
      obtain ⟨o, v, hoi, hy, st', dec', hk', hs', hd'⟩ := areadL_sound hΓ h hd (show areadL Γ z ops.toList i st dec (apl P Γ (some z) ops.toList K p) from hk)
      have := (apl_sound hΓ hsel p _ none f' st' dec' _ w η h3 (by omega) (hclo.set hrdy) (fun t ht => by cases ht) hs' hd' hk').1 rfl
      exact wpG_first (c := 1) hoi (Region.noSelect_spec hsel) f' listed a w (Region.free_spec hoi h2) hrdy hy hclo hcalm this
  | .last i p, listed, todo, f, st, dec, a, w, η, hok, hf, hclo, htd, h, hd, hk => by
    simp only [Plan.ok, Bool.and_eq_true] at hok
    obtain ⟨h1, h3⟩ := hok
    simp only [Plan.deep] at hf
    obtain ⟨f', rfl⟩ : ∃ f', f = f' + 1 := ⟨f - 1, by omega⟩
    have hone : todo.getD (Region.ready .any ops listed) = [i] := by
      split at h1
      case h_1 j hj => rw [hj, eq_of_beq h1]
      case h_2 => cases h1
    have hrdy : i ∈ Region.ready .any ops listed := by
      cases todo with
      | none => simp only [Option.getD_none] at hone; rw [hone]; simp
      | some t => simp only [Option.getD_some] at hone; subst hone; exact htd _ rfl i (by simp)
    have key : wpOp P ops NoQ i (fun a' w' => StpG (frO tz) (gO w0 tz) xs ops i w w' ∧ wpG (frO tz) (gO w0 tz) xs P .any ops (Fin w0 ob K) f' (listed.setIfInBounds i true) a' w') a w :=
      astep_sound hΓ h hd (show astep P Γ ops.toList i st dec (apl P Γ tz ops.toList K p) from hk) (fun st' dec' a' w' η' hk' hb hs' hd' =>
        ⟨hb, (apl_sound hΓ hsel p _ none f' st' dec' a' w' η' h3 (by omega) (hclo.set hrdy) (fun t ht => by cases ht) hs' hd' hk').1 rfl⟩)
    refine ⟨fun ht => ?_, fun t ht => ⟨f', rfl, fun j hj => ?_⟩⟩
    · subst ht
      simp only [Option.getD_none] at hone
      refine ⟨fun h0 => (by rw [h0] at hone; cases hone), fun j hj => ?_⟩
      rw [hone] at hj
      obtain rfl := List.mem_singleton.1 hj
      exact key
    · subst ht
      simp only [Option.getD_some] at hone
      subst hone
      obtain rfl := List.mem_singleton.1 hj
      exact key
  | .alt i p rest, listed, todo, f, st, dec, a, w, η, hok, hf, hclo, htd, h, hd, hk => by
    simp only [Plan.ok] at hok
    simp only [Plan.deep] at hf
    obtain ⟨f', rfl⟩ : ∃ f', f = f' + 1 := ⟨f - 1, by omega⟩
    split at hok
    case h_2 => cases hok
    case h_1 j t hj =>
      simp only [Bool.and_eq_true] at hok
      obtain ⟨⟨h1, h3⟩, h4⟩ := hok
      obtain rfl := eq_of_beq h1
      obtain ⟨hk1, hk2⟩ := (show astep P Γ ops.toList j st dec (apl P Γ tz ops.toList K p) ∧ apl P Γ tz ops.toList K rest st dec from hk)
      have hrdys : ∀ i ∈ j :: t, i ∈ Region.ready .any ops listed := by
        cases todo with
        | none => simp only [Option.getD_none] at hj; rw [hj]; exact fun i hi => hi
        | some t' => simp only [Option.getD_some] at hj; subst hj; exact htd _ rfl
      have hrdy := hrdys j (by simp)
      have key : wpOp P ops NoQ j (fun a' w' => StpG (frO tz) (gO w0 tz) xs ops j w w' ∧ wpG (frO tz) (gO w0 tz) xs P .any ops (Fin w0 ob K) f' (listed.setIfInBounds j true) a' w') a w :=
        astep_sound hΓ h hd hk1 (fun st' dec' a' w' η' hk' hb hs' hd' =>
          ⟨hb, (apl_sound hΓ hsel p _ none f' st' dec' a' w' η' h3 (by omega) (hclo.set hrdy) (fun t ht => by cases ht) hs' hd' hk').1 rfl⟩)
      obtain ⟨f2, hf2, hrest⟩ := (apl_sound hΓ hsel rest listed (some t) (f' + 1) st dec a w η h4 (by omega) hclo (fun t' ht' => by obtain rfl := Option.some.inj ht'; exact fun i hi => hrdys i (by simp [hi])) h hd hk2).2 t rfl
      obtain rfl : f' = f2 := by omega
      have all : ∀ i ∈ j :: t, wpOp P ops NoQ i (fun a' w' => StpG (frO tz) (gO w0 tz) xs ops i w w' ∧ wpG (frO tz) (gO w0 tz) xs P .any ops (Fin w0 ob K) f' (listed.setIfInBounds i true) a' w') a w := fun i hi => by
        rcases List.mem_cons.1 hi with rfl | hi
        · exact key
        · exact hrest i hi
      refine ⟨fun ht => ?_, fun t' ht => ⟨f', rfl, fun i hi => ?_⟩⟩
      · subst ht
        simp only [Option.getD_none] at hj
        refine ⟨fun h0 => (by rw [h0] at hj; cases hj), fun i hi => ?_⟩
        rw [hj] at hi
        exact all i hi
      · subst ht
        simp only [Option.getD_some] at hj
        subst hj
        exact all i hi

  | .inl i p, listed, todo, f, st, dec, a, w, η, hok, hf, hclo, htd, h, hd, hk => by
    simp only [Plan.ok, Bool.and_eq_true] at hok
    obtain ⟨⟨hxs, h1⟩, h3⟩ := hok
    simp only [Plan.deep] at hf
    obtain ⟨f', rfl⟩ : ∃ f', f = f' + 1 := ⟨f - 1, by omega⟩
    have hone : todo.getD (Region.ready .any ops listed) = [i] := by
      split at h1
      case h_1 j hj => rw [hj, eq_of_beq h1]
      case h_2 => cases h1
    have hrdy : i ∈ Region.ready .any ops listed := by
      cases todo with
      | none => simp only [Option.getD_none] at hone; rw [hone]; simp
      | some t => simp only [Option.getD_some] at hone; subst hone; exact htd _ rfl i (by simp)
    have key : wpOp P ops NoQ i (fun a' w' => StpG (frO tz) (gO w0 tz) xs ops i w w' ∧ wpG (frO tz) (gO w0 tz) xs P .any ops (Fin w0 ob K) f' (listed.setIfInBounds i true) a' w') a w :=
      astepX_sound (tz := tz) hxs h hd hk (fun st' dec' a' w' η' hk' hs' hd' =>
        (apl_sound hΓ hsel p _ none f' st' dec' a' w' η' h3 (by omega) (hclo.set hrdy) (fun t ht => by cases ht) hs' hd' hk').1 rfl)
    refine ⟨fun ht => ?_, fun t ht => ⟨f', rfl, fun j hj => ?_⟩⟩
    · subst ht
      simp only [Option.getD_none] at hone
      refine ⟨fun h0 => (by rw [h0] at hone; cases hone), fun j hj => ?_⟩
      rw [hone] at hj
      obtain rfl := List.mem_singleton.1 hj
      exact key
    · subst ht
      simp only [Option.getD_some] at hone
      subst hone
      obtain rfl := List.mem_singleton.1 hj
      exact key
  | .alti i p rest, listed, todo, f, st, dec, a, w, η, hok, hf, hclo, htd, h, hd, hk => by
    simp only [Plan.ok] at hok
    simp only [Plan.deep] at hf
    obtain ⟨f', rfl⟩ : ∃ f', f = f' + 1 := ⟨f - 1, by omega⟩
    split at hok
    case h_2 => cases hok
    case h_1 j t hj =>
      simp only [Bool.and_eq_true] at hok
      obtain ⟨⟨⟨hxs, h1⟩, h3⟩, h4⟩ := hok
      obtain rfl := eq_of_beq h1
      obtain ⟨hk1, hk2⟩ := hk
      have hrdys : ∀ i ∈ j :: t, i ∈ Region.ready .any ops listed := by
        cases todo with
        | none => simp only [Option.getD_none] at hj; rw [hj]; exact fun i hi => hi
        | some t' => simp only [Option.getD_some] at hj; subst hj; exact htd _ rfl
      have hrdy := hrdys j (by simp)
      have key : wpOp P ops NoQ j (fun a' w' => StpG (frO tz) (gO w0 tz) xs ops j w w' ∧ wpG (frO tz) (gO w0 tz) xs P .any ops (Fin w0 ob K) f' (listed.setIfInBounds j true) a' w') a w :=
        astepX_sound (tz := tz) hxs h hd hk1 (fun st' dec' a' w' η' hk' hs' hd' =>
          (apl_sound hΓ hsel p _ none f' st' dec' a' w' η' h3 (by omega) (hclo.set hrdy) (fun t ht => by cases ht) hs' hd' hk').1 rfl)
      obtain ⟨f2, hf2, hrest⟩ := (apl_sound hΓ hsel rest listed (some t) (f' + 1) st dec a w η h4 (by omega) hclo (fun t' ht' => by obtain rfl := Option.some.inj ht'; exact fun i hi => hrdys i (by simp [hi])) h hd hk2).2 t rfl
      obtain rfl : f' = f2 := by omega
      have all : ∀ i ∈ j :: t, wpOp P ops NoQ i (fun a' w' => StpG (frO tz) (gO w0 tz) xs ops i w w' ∧ wpG (frO tz) (gO w0 tz) xs P .any ops (Fin w0 ob K) f' (listed.setIfInBounds i true) a' w') a w := fun i hi => by
        rcases List.mem_cons.1 hi with rfl | hi
        · exact key
        · exact hrest i hi
      refine ⟨fun ht => ?_, fun t' ht => ⟨f', rfl, fun i hi => ?_⟩⟩
      · subst ht
        simp only [Option.getD_none] at hj
        refine ⟨fun h0 => (by rw [h0] at hj; cases hj), fun i hi => ?_⟩
        rw [hj] at hi
        exact all i hi
      · subst ht
        simp only [Option.getD_some] at hj
        subst hj
        exact all i hi

/-- a drawn region by a plan -/
theorem ADraw.planZ (tz : Option Nat) (xs : List Nat) (hΓ : TysOk P Γ) (hm : P.follows .mixedOrders = true) {K : St → Prop} (p : Plan) (hp : (Region.noSelect ops && p.ok (frO tz) xs ops (Array.replicate ops.size false) none && Nat.ble p.deep ops.size) = true)
    (hk : apl P Γ tz ops.toList K p st []) : ADraw P ops st K := by
  refine ⟨fun id w0 ob a w ⟨η, h⟩ => ?_⟩
  simp only [Bool.and_eq_true] at hp
  obtain ⟨⟨h1, h2⟩, h3⟩ := hp
  refine wp_region_any hm (wpG_any (fr := frO tz) (g := gO w0 tz) (xs := xs) (K := Fin w0 ob K) (fun a w ⟨st', η', hk', hs'⟩ => ⟨rfl, st', hk', η', hs'⟩) _ _ _ _ ?_)
  exact (apl_sound hΓ h1 p _ none _ st [] a _ η h2 (Nat.le_of_ble_eq_true h3) (clo_none _) (fun t ht => by cases ht) (h.mono (below_drawn w)) (fun d b hd => by simp [look] at hd) hk).1 rfl

theorem ADraw.planX (xs : List Nat) (hΓ : TysOk P Γ) (hm : P.follows .mixedOrders = true) {K : St → Prop} (p : Plan) (hp : (Region.noSelect ops && p.ok false xs ops (Array.replicate ops.size false) none && Nat.ble p.deep ops.size) = true)
    (hk : apl P Γ none ops.toList K p st []) : ADraw P ops st K := ADraw.planZ none xs hΓ hm p hp hk
/-- .. of a function that writes a variable of its caller: slot z, behind the frame, points to it -/
theorem ADraw.planT (z : Nat) (xs : List Nat) (hΓ : TysOk P Γ) (hm : P.follows .mixedOrders = true) {K : St → Prop} (p : Plan) (hp : (Region.noSelect ops && p.ok true xs ops (Array.replicate ops.size false) none && Nat.ble p.deep ops.size) = true)
    (hk : apl P Γ (some z) ops.toList K p st []) : ADraw P ops st K := ADraw.planZ (some z) xs hΓ hm p hp hk

theorem ADraw.plan (hΓ : TysOk P Γ) (hm : P.follows .mixedOrders = true) {K : St → Prop} (p : Plan) (hp : (Region.noSelect ops && p.ok false [] ops (Array.replicate ops.size false) none && Nat.ble p.deep ops.size) = true)
    (hk : apl P Γ none ops.toList K p st []) : ADraw P ops st K := ADraw.planX [] hΓ hm p hp hk
end
end Go.Aw
/- Code, loops, whole functions. -/
namespace Go.Aw
open Go.RowKit

section
variable {P : Program} {Γ : Tys} {w0 : Base} {w w' : World} {ob : Nat → Prop} {st : St} {a : Act} {η : Env}

theorem lift_mono {K K' : Exit → St → Prop} (h : ∀ e st, K e st → K' e st) {e : Exit} {a : Act} {w : World} (hl : lift w0 ob K e a w) : lift w0 ob K' e a w :=
  let ⟨st, hk, hs⟩ := hl; ⟨st, h e st hk, hs⟩

theorem acode_sound (hΓ : TysOk P Γ) (hm : P.follows .mixedOrders = true) : ∀ (c : Code) (st : St) (K : Exit → St → Prop) (a : Act) (w : World), acode P Γ c st K → StRep w0 ob st a w → c.wp P (lift w0 ob K) a w
  | .skip, st, K, a, w, hk, h => wp_skip ⟨st, hk, h⟩
  | .label _, st, K, a, w, hk, h => wp_label ⟨st, hk, h⟩
  | .region id ops d, st, K, a, w, hk, ⟨η, h⟩ =>
    wp_mono (aregion_sound (K := fun e st => match e with | .normal => frSt st (K .normal) | e => K e st) hΓ h hk) (fun e a' w' hl => by
      obtain ⟨st', hk', η', hs'⟩ := hl
      cases e with
      | normal =>
        obtain ⟨st1, hk1, e1, e2, e3, e4⟩ := frSt_spec (show frSt st' (K .normal) from hk')
        exact ⟨st1, hk1, η', hs'.same e1 e2 e3 e4⟩
      | _ => exact ⟨st', hk', η', hs'⟩)
  | .seq x y, st, K, a, w, hk, h => by
    refine wp_seq ?_
    refine wp_mono (acode_sound hΓ hm x st _ a w hk h) (fun e a' w' hl => ?_)
    obtain ⟨st', hk', hs'⟩ := hl
    cases e with
    | normal => exact acode_sound hΓ hm y st' K a' w' hk' hs'
    | _ => exact ⟨st', hk', hs'⟩
  | .cond c x y, st, K, a, w, hk, h => by
    rw [acode_cond] at hk
    split at hk
    case h_2 => exact hk.elim
    case h_1 t ht =>
      obtain ⟨η, hs⟩ := h
      obtain ⟨hc, _⟩ := ev_sound hs ht
      refine wp_cond_split hc (fun e => ?_) (fun e => ?_)
      · exact acode_sound hΓ hm x st K a w (hk.1 e) ⟨η, hs⟩
      · exact acode_sound hΓ hm y st K a w (hk.2 e) ⟨η, hs⟩
  | .block id b, st, K, a, w, hk, h => by
    refine wp_block ?_
    refine wp_mono (acode_sound hΓ hm b st _ a w hk h) (fun e a' w' hl => ?_)
    obtain ⟨st', hk', hs'⟩ := hl
    cases e with
    | exit id' =>
      simp only [Exit.inBlock]
      simp only at hk'
      split at hk'
      case h_1 hb =>
        rw [if_pos (Nat.eq_of_beq_eq_true hb)]; exact ⟨st', hk', hs'⟩
      case h_2 hb =>
        rw [if_neg (fun e => by rw [e, Nat.beq_refl] at hb; cases hb)]; exact ⟨st', hk', hs'⟩
    | _ => exact ⟨st', hk', hs'⟩
  | .exit id, st, K, a, w, hk, h => wp_exit ⟨st, hk, h⟩
  | .ret, st, K, a, w, hk, h => wp_ret ⟨st, hk, h⟩
  | .loop b, st, K, a, w, hk, h => hk.run w0 ob a w h
  | .rangeFunc .., _, _, _, _, hk, _ => hk.elim
  | .scope _, _, _, _, _, hk, _ => hk.elim
  | .goto _, _, _, _, _, hk, _ => hk.elim
  | .refuse _, _, _, _, _, hk, _ => hk.elim

end

/-! ### the same state told otherwise -/
inductive Org where
  | row (k : Nat)
  | sub (k i : Nat)
  | nil

def keyIn (k : Nat) : List (Nat × Org) → Bool
  | [] => false
  | (_, .row j) :: r => match Nat.beq j k with | true => true | false => keyIn k r
  | (_, .sub j _) :: r => match Nat.beq j k with | true => true | false => keyIn k r
  | (_, .nil) :: r => keyIn k r

def distinct : List (Nat × Org) → Bool
  | [] => true
  | (_, .row j) :: r => match keyIn j r with | true => false | false => distinct r
  | (_, .sub j _) :: r => match keyIn j r with | true => false | false => distinct r
  | (_, .nil) :: r => distinct r

section
variable (hp : List (Nat × ARow)) (R : List (Nat × Org)) (nx : Nat)
mutual
/-- a value of the one state as the other tells it -/
def vw : AVal → AVal → Prop
  | .un, y => match y with | .un => True | _ => False
  | .c v, y => match y with
    | .c v' => v = v'
    | .own j => v = .slice none 0 0 ∧ Nat.blt j nx = true ∧ look R j = some .nil
    | .t (.ints _ []) => v = .slice none 0 0
    | .t (.rows []) => v = .slice none 0 0
    | .t (.recs _ []) => v = .slice none 0 0
    | .un => True
    | _ => False
  | .t t, y => match y with | .t t' => t = t' | .un => True | _ => False
  | .adr t i, y => match y with | .adr t' i' => t = t' ∧ i = i' | .un => True | _ => False
  | .ag l, y => match y with | .ag l' => vws l l' | .un => True | _ => False
  | .tu l, y => match y with | .tu l' => vws l l' | .un => True | _ => False
  | .clo f l, y => match y with | .clo g l' => f = g ∧ vws l l' | .un => True | _ => False
  | .rp l o, y => match y with | .rp l' o' => o = o' ∧ vws l l' | .un => True | _ => False
  | .knot f l n, y => match y with | .knot g l' n' => f = g ∧ n = n' ∧ vws l l' | .un => True | _ => False
  | .nul, y => match y with | .nul => True | .t (.ints .i64 []) => True | .un => True | _ => False
  | .own k, y => match y with
    | .own j => Nat.blt j nx = true ∧ look R j = some (.row k)
    | .t t => keyIn k R = false ∧ match look hp k with | some r => closeRow r = some t | none => False
    | .un => True
    | _ => False
  | .sub k i, y => match y with
    | .sub j i' => Nat.blt j nx = true ∧ look R j = some (.row k) ∧ i = i'
    | .own j => Nat.blt j nx = true ∧ look R j = some (.sub k i)
    | .t (.ints .i64 l) => keyIn k R = false ∧ match look hp k with | some (.rows _ _ true m) => m.getD i [] = l | _ => False
    | .un => True
    | _ => False
  | .ptr k o, y => match y with
    | .ptr j o' => Nat.blt j nx = true ∧ look R j = some (.row k) ∧ o = o'
    | .un => True
    | _ => False
  | .subp k i o, y => match y with
    | .subp j i' o' => Nat.blt j nx = true ∧ look R j = some (.row k) ∧ i = i' ∧ o = o'
    | .un => True
    | _ => False
def vws : List AVal → List AVal → Prop
  | [], y => match y with | [] => True | _ :: _ => False
  | a :: l, y => match y with | [] => False | b :: r => vw a b ∧ vws l r
end

def rowVw (s : Org) (r' : ARow) : Prop :=
  match s with
  | .row k => match look hp k with
    | some (.cells e l) => match r' with | .cells e' l' => e = e' ∧ vws hp R nx l l' | _ => False
    | some r => r = r'
    | none => False
  | .sub k i => match look hp k with
    | some (.rows _ e1 true m) => i < m.length ∧ ARow.ints e1 .i64 (m.getD i []) = r'
    | _ => False
  | .nil => match r' with
    | .ints _ _ [] => True
    | .rows _ _ _ [] => True
    | .recs _ _ [] => True
    | _ => False

def rowsVw : List (Nat × ARow) → Prop
  | [] => True
  | (j, r) :: h => Nat.blt j nx = true ∧ (match look R j with | some s => rowVw hp R nx s r | none => False) ∧ rowsVw h

def slotsVw (sl : List (Nat × AVal)) : List (Nat × AVal) → Prop
  | [] => True
  | (i, x) :: r => (match look sl i with | some y => vw hp R nx y x | none => False) ∧ slotsVw sl r
end

def idR : List (Nat × ARow) → List (Nat × Org)
  | [] => []
  | (j, _) :: r => (j, .row j) :: idR r

/-- the second state tells what the first one tells, by other names ('R': where its rows come from), and maybe less -/
structure View (R : List (Nat × Org)) (st st' : St) : Prop where
  sz : st.sz = st'.sz
  di : distinct R = true
  sl : slotsVw st.hp R st'.nx st.sl st'.sl
  hp : rowsVw st.hp R st'.nx st'.hp

/-! ### it stays true -/
def ηV (hp : List (Nat × ARow)) (η : Env) (R : List (Nat × Org)) : Env :=
  ⟨fun j => match look R j with
    | some (.row k) => η.val k
    | some (.sub k i) => (η.cel k).getD i undef
    | some .nil => .slice none 0 0
    | none => undef,
   fun j => match look R j with
    | some (.row k) => η.cel k
    | some (.sub k i) => match look hp k with
      | some (.rows _ _ _ m) => (m.getD i []).map (Value.int .i64)
      | _ => []
    | some .nil => []
    | none => []⟩

section
variable {w : World} {B : Nat} {ob : Nat → Prop} {hp hp' : List (Nat × ARow)} {nx nx' : Nat} {η : Env} {R : List (Nat × Org)}

theorem keyIn_row {k j : Nat} : ∀ {R : List (Nat × Org)} {s : Org}, keyIn k R = false → look R j = some s → s ≠ .row k ∧ ∀ i, s ≠ .sub k i
  | [], s, _, h => by simp [look] at h
  | (i, s0) :: R, s, hk, h => by
    rw [look_cons] at h
    cases s0 with
    | row m =>
      simp only [keyIn] at hk
      split at hk
      case h_1 => cases hk
      case h_2 hb =>
        by_cases hij : i = j
        · rw [if_pos hij] at h
          simp only [Option.some.injEq] at h
          subst h
          refine ⟨fun e => ?_, fun _ e => by cases e⟩
          simp only [Org.row.injEq] at e
          rw [e, Nat.beq_refl] at hb; cases hb
        · rw [if_neg hij] at h; exact keyIn_row hk h
    | sub m q =>
      simp only [keyIn] at hk
      split at hk
      case h_1 => cases hk
      case h_2 hb =>
        by_cases hij : i = j
        · rw [if_pos hij] at h
          simp only [Option.some.injEq] at h
          subst h
          refine ⟨fun e => (by cases e), fun _ e => ?_⟩
          simp only [Org.sub.injEq] at e
          rw [e.1, Nat.beq_refl] at hb; cases hb
        · rw [if_neg hij] at h; exact keyIn_row hk h
    | nil =>
      simp only [keyIn] at hk
      by_cases hij : i = j
      · rw [if_pos hij] at h
        simp only [Option.some.injEq] at h
        subst h
        exact ⟨fun e => (by cases e), fun _ e => (by cases e)⟩
      · rw [if_neg hij] at h; exact keyIn_row hk h

def Org.key : Org → Option Nat
  | .row k => some k
  | .sub k _ => some k
  | .nil => none

theorem keyIn_key {k j : Nat} {R : List (Nat × Org)} {s : Org} (h : keyIn k R = false) (hl : look R j = some s) : s.key ≠ some k := by
  obtain ⟨h1, h2⟩ := keyIn_row h hl
  cases s with
  | row m => intro e; simp only [Org.key, Option.some.injEq] at e; exact h1 (by rw [e])
  | sub m i => intro e; simp only [Org.key, Option.some.injEq] at e; exact h2 i (by rw [e])
  | nil => intro e; cases e

theorem distinct_spec : ∀ {R : List (Nat × Org)}, distinct R = true → ∀ {j j' : Nat} {s s' : Org} {k : Nat}, look R j = some s → look R j' = some s' → j ≠ j' → s.key = some k → s'.key ≠ some k
  | [], _, j, j', s, s', k, h, _, _, _ => by simp [look] at h
  | (i, s0) :: R, hd, j, j', s, s', k, h, h', hne, hk => by
    have hd' : distinct R = true ∧ ∀ m, s0.key = some m → keyIn m R = false := by
      cases s0 with
      | row m =>
        simp only [distinct] at hd
        split at hd
        case h_1 => cases hd
        case h_2 hb => exact ⟨hd, fun q e => by simp only [Org.key, Option.some.injEq] at e; subst e; exact hb⟩
      | sub m q =>
        simp only [distinct] at hd
        split at hd
        case h_1 => cases hd
        case h_2 hb => exact ⟨hd, fun q e => by simp only [Org.key, Option.some.injEq] at e; subst e; exact hb⟩
      | nil => exact ⟨hd, fun _ e => by cases e⟩
    rw [look_cons] at h h'
    by_cases hij : i = j
    · rw [if_pos hij] at h
      simp only [Option.some.injEq] at h
      subst h
      rw [if_neg (by omega)] at h'
      exact keyIn_key (hd'.2 k hk) h'
    · rw [if_neg hij] at h
      by_cases hij' : i = j'
      · rw [if_pos hij'] at h'
        simp only [Option.some.injEq] at h'
        subst h'
        intro e
        exact keyIn_key (hd'.2 k e) h hk
      · rw [if_neg hij'] at h'
        exact distinct_spec hd'.1 h h' hne hk

theorem rowsVw_at : ∀ {h : List (Nat × ARow)}, rowsVw hp R nx' h → ∀ {j r'}, look h j = some r' → j < nx' ∧ ∃ s, look R j = some s ∧ rowVw hp R nx' s r'
  | [], _, j, r', h => by simp [look] at h
  | (i, x) :: h, hv, j, r', hl => by
    rw [look_cons] at hl
    by_cases hij : i = j
    · rw [if_pos hij] at hl
      simp only [Option.some.injEq] at hl
      subst hij hl
      obtain ⟨h1, h2, _⟩ := hv
      refine ⟨Nat.le_of_ble_eq_true h1, ?_⟩
      cases hs : look R i with
      | none => rw [hs] at h2; exact h2.elim
      | some s => rw [hs] at h2; exact ⟨s, rfl, h2⟩
    · rw [if_neg hij] at hl; exact rowsVw_at hv.2.2 hl

theorem slotsVw_at {sl : List (Nat × AVal)} : ∀ {l : List (Nat × AVal)}, slotsVw hp R nx' sl l → ∀ {i x}, look l i = some x → ∃ y, look sl i = some y ∧ vw hp R nx' y x
  | [], _, i, x, h => by simp [look] at h
  | (j, z) :: l, hv, i, x, hl => by
    rw [look_cons] at hl
    by_cases hij : j = i
    · rw [if_pos hij] at hl
      simp only [Option.some.injEq] at hl
      subst hij hl
      obtain ⟨h1, _⟩ := hv
      cases hs : look sl j with
      | none => rw [hs] at h1; exact h1.elim
      | some y => rw [hs] at h1; exact ⟨y, rfl, h1⟩
    · rw [if_neg hij] at hl; exact slotsVw_at hv.2 hl

theorem rowVw_kind {k : Nat} {r' : ARow} (hv : rowVw hp R nx' (.row k) r') : ∃ r, look hp k = some r ∧ r.kind = r'.kind := by
  unfold rowVw at hv
  simp only at hv
  split at hv
  case h_1 e l hl =>
    split at hv
    case h_1 => exact ⟨_, hl, rfl⟩
    case h_2 => exact hv.elim
  case h_2 r _ hl => exact ⟨r, hl, by rw [hv]⟩
  case h_3 => exact hv.elim

/-- the blocks of a row told otherwise are of the row that it comes from -/
theorem vw_blocks (hh : HRep w B ob hp nx η) {j : Nat} {s : Org} {r' : ARow} (hs : look R j = some s) (hv : rowVw hp R nx' s r') :
    (∀ b, b ∈ bsOf (ηV hp η R) j r' → ∃ k r, s.key = some k ∧ look hp k = some r ∧ b ∈ bsOf η k r) ∧ (bsOf (ηV hp η R) j r').Nodup := by
  have hval : (ηV hp η R).val j = match s with | .row k => η.val k | .sub k i => (η.cel k).getD i undef | .nil => .slice none 0 0 := by
    simp only [ηV, hs]; cases s <;> rfl
  have hcel : (ηV hp η R).cel j = match s with | .row k => η.cel k | .sub k i => (match look hp k with | some (.rows _ _ _ m) => (m.getD i []).map (Value.int .i64) | _ => []) | .nil => [] := by
    simp only [ηV, hs]; cases s <;> rfl
  cases s with
  | nil =>
    have hb : bsOf (ηV hp η R) j r' = [] := by
      simp only at hval hcel
      simp [bsOf, hval, hcel, blk]
    rw [hb]
    exact ⟨fun b hm => by simp at hm, List.nodup_nil⟩
  | row k =>
    simp only at hval hcel
    have hk : ∃ r, look hp k = some r ∧ r.kind = r'.kind := by
      unfold rowVw at hv
      simp only at hv
      split at hv
      case h_1 e l hl =>
        split at hv
        case h_1 => exact ⟨_, hl, rfl⟩
        case h_2 => exact hv.elim
      case h_2 r _ hl => exact ⟨r, hl, by rw [hv]⟩
      case h_3 => exact hv.elim
    obtain ⟨r, hr, hkind⟩ := hk
    have hb : bsOf (ηV hp η R) j r' = bsOf η k r := by simp only [bsOf, hval, hcel, hkind]
    rw [hb]
    exact ⟨fun b hm => ⟨k, r, rfl, hr, hm⟩, hh.nodup k r hr⟩
  | sub k i =>
    simp only at hval hcel
    unfold rowVw at hv
    simp only at hv
    split at hv
    case h_2 => exact hv.elim
    case h_1 e e1 m hl =>
      obtain ⟨hi, rfl⟩ := hv
      have hrow := hh.row k _ hl
      have hnd := hh.nodup k _ hl
      obtain ⟨v, hvi, ho⟩ := F2.at hrow.2 (List.getElem?_eq_getElem hi)
      have hval' : (ηV hp η R).val j = v := by rw [hval]; exact getD_of hvi
      have hb : bsOf (ηV hp η R) j (.ints e1 .i64 (m.getD i [])) = blk v := by simp [bsOf, ARow.kind, hval']
      rw [hb]
      refine ⟨fun b hm => ⟨k, _, rfl, hl, ?_⟩, ?_⟩
      · simp only [bsOf, ARow.kind, if_true]
        exact List.mem_append.2 (.inr (List.mem_flatMap.2 ⟨v, List.mem_of_getElem? hvi, hm⟩))
      · have hflat : ((η.cel k).flatMap blk).Nodup := by
          simp only [bsOf, ARow.kind, if_true] at hnd
          exact (List.nodup_append.1 hnd).2.1
        have hsub : (blk v).Sublist ((η.cel k).flatMap blk) := by
          obtain ⟨s, t, hst⟩ := List.append_of_mem (List.mem_of_getElem? hvi)
          rw [hst]
          simp only [List.flatMap_append, List.flatMap_cons]
          exact (List.sublist_append_left _ _).trans (List.sublist_append_right _ _)
        exact hflat.sublist hsub

theorem vw_own (hh : HRep w B ob hp nx η) (hv : rowsVw hp R nx' hp') {b : Nat} (hb : ownB hp' (ηV hp η R) b) : ∃ j s k r, look R j = some s ∧ s.key = some k ∧ look hp k = some r ∧ b ∈ bsOf η k r := by
  obtain ⟨j, r', hj, hm⟩ := hb
  obtain ⟨_, s, hs, hr⟩ := rowsVw_at hv hj
  obtain ⟨k, r, h1, h2, h3⟩ := (vw_blocks hh hs hr).1 b hm
  exact ⟨j, s, k, r, hs, h1, h2, h3⟩

/-- a row that is not taken over is nobody's any more -/
theorem vw_free (hh : HRep w B ob hp nx η) (hfree : ∀ b, ownB hp η b → ¬ ob b) (hv : rowsVw hp R nx' hp') {k : Nat} (hk : keyIn k R = false) {r : ARow} (hr : look hp k = some r) {b : Nat} (hb : b ∈ bsOf η k r) :
    ¬ badOf ob hp' (ηV hp η R) b := by
  rintro (h1 | h1)
  · exact hfree b ⟨k, r, hr, hb⟩ h1
  · obtain ⟨j, s, k', r0, h2, h3, h4, h5⟩ := vw_own hh hv h1
    refine hh.apart k r k' r0 hr h4 (fun e => ?_) b hb h5
    subst e
    exact keyIn_key hk h2 h3

theorem vw_keeps (hh : HRep w B ob hp nx η) (hv : rowsVw hp R nx' hp') : Keeps w (badOf ob hp η) w (badOf ob hp' (ηV hp η R)) := by
  intro b o x hb hc
  refine ⟨?_, hc⟩
  rintro (h1 | h1)
  · exact hb (.inl h1)
  · obtain ⟨_, _, k, r, _, _, h4, h5⟩ := vw_own hh hv h1
    exact hb (.inr ⟨k, r, h4, h5⟩)

theorem own_ints' {e : Nat} {k : IntKind} {l : List Int} {v : Value} {bad : Nat → Prop} (h : OwnInts w B e k l v) (hb : ∀ b, b ∈ blk v → ¬ bad b) : SInts w bad k l v := by
  obtain ⟨a, c, hv, h1, h2, h3⟩ := own_ints h
  refine ⟨a, c, hv, h1, h2, fun i x hi => ?_⟩
  obtain ⟨b, o, ha, _, hc⟩ := h3 i x hi
  exact ⟨b, o, ha, hb b (by rw [hv, ha]; simp [blk]), hc⟩

theorem own_rows' {e : Nat} {m : List (List Int)} {cs : List Value} {v : Value} {bad : Nat → Prop} (h : w.ownsRow B e 1 v m.length cs) (hF : F2 (SInts w bad .i64) m cs) (hb : ∀ b, b ∈ blk v → ¬ bad b) : SRows w bad m v := by
  rcases h.2 with ⟨hv, h0⟩ | ⟨g, cap, cur, hv, hg, hh, hnc, hcm, r⟩
  · have : m = [] := List.eq_nil_of_length_eq_zero h0
    subst this
    exact ⟨none, 0, by simpa using hv, by simp, by unfold maxLen; omega, fun i x hi => by simp at hi⟩
  · refine ⟨some ⟨g, 0, none⟩, cap, hv, hnc, hcm, fun i x hi => ?_⟩
    obtain ⟨u, hu, hs⟩ := F2.at hF hi
    refine ⟨g, 0, u, rfl, hb g (by rw [hv]; simp [blk]), ?_, hs⟩
    rw [Nat.zero_add]
    exact own_ptr h (by rw [hv]; rfl) hu

theorem blk_own {k : Nat} {r : ARow} {b : Nat} (h : b ∈ blk (η.val k)) : b ∈ bsOf η k r := by
  simp only [bsOf]; exact List.mem_append.2 (.inl h)

mutual
theorem vw_sound (hh : HRep w B ob hp nx η) (hfree : ∀ b, ownB hp η b → ¬ ob b) (hv : rowsVw hp R nx' hp') : ∀ (y x : AVal) {v : Value}, vw hp R nx' y x → VRep w (badOf ob hp η) hp nx η y v → VRep w (badOf ob hp' (ηV hp η R)) hp' nx' (ηV hp η R) x v
  | .un, x, v, hx, hr => by cases x <;> simp only [vw] at hx <;> first | exact hx.elim | trivial
  | .c y, x, v, hx, hr => by
    obtain ⟨rfl, h1⟩ := hr
    unfold vw at hx
    split at hx
    case h_1 => subst hx; exact ⟨rfl, h1⟩
    case h_2 j =>
      obtain ⟨rfl, h2, h3⟩ := hx
      refine ⟨Nat.le_of_ble_eq_true h2, fun r' hr' => ?_⟩
      obtain ⟨_, s, hs, hrv⟩ := rowsVw_at hv hr'
      rw [h3] at hs
      obtain rfl := Option.some.inj hs
      refine ⟨?_, by simp only [ηV, h3]⟩
      unfold rowVw at hrv
      simp only at hrv
      split at hrv
      case h_1 => simp [ARow.kind]
      case h_2 _ _ u => cases u <;> simp [ARow.kind]
      case h_3 => simp [ARow.kind]
      case h_4 => exact hrv.elim
    case h_3 => subst hx; exact ⟨none, 0, rfl, Nat.le_refl _, Nat.zero_le _, fun i x hi => by simp at hi⟩
    case h_4 => subst hx; exact ⟨none, 0, rfl, Nat.le_refl _, Nat.zero_le _, fun i x hi => by simp at hi⟩
    case h_5 => subst hx; exact ⟨none, 0, rfl, Nat.le_refl _, Nat.zero_le _, fun i x hi => by simp at hi⟩
    case h_6 => trivial
    case h_7 => exact hx.elim
  | .knot f l n, x, v, hx, hr => by
    unfold vw at hx
    split at hx
    case h_1 =>
      obtain ⟨rfl, rfl, hx⟩ := hx
      obtain ⟨b, cs, rfl, hr, hb, hc⟩ := hr
      obtain ⟨hb', hc'⟩ := vw_keeps hh hv b 0 _ hb hc
      exact ⟨b, cs, rfl, vws_sound hh hfree hv l _ hx hr, hb', hc'⟩
    case h_2 => trivial
    case h_3 => exact hx.elim
  | .nul, x, v, hx, hr => by
    unfold vw at hx
    split at hx
    case h_1 => exact hr
    case h_2 => obtain ⟨ba, rfl⟩ := hr; exact ⟨ba, 0, rfl, Nat.le_refl _, Nat.zero_le _, fun i x hi => by simp at hi⟩
    case h_3 => trivial
    case h_4 => exact hx.elim
  | .t t, x, v, hx, hr => by
    unfold vw at hx
    split at hx
    case h_1 => subst hx; exact TRep.keeps (vw_keeps hh hv) hr
    case h_2 => trivial
    case h_3 => exact hx.elim
  | .adr t i, x, v, hx, hr => by
    unfold vw at hx
    split at hx
    case h_1 => obtain ⟨rfl, rfl⟩ := hx; exact ARep.keeps (vw_keeps hh hv) hr
    case h_2 => trivial
    case h_3 => exact hx.elim
  | .ag l, x, v, hx, hr => by
    unfold vw at hx
    split at hx
    case h_1 => obtain ⟨cs, rfl, hr⟩ := hr; exact ⟨cs, rfl, vws_sound hh hfree hv l _ hx hr⟩
    case h_2 => trivial
    case h_3 => exact hx.elim
  | .tu l, x, v, hx, hr => by
    unfold vw at hx
    split at hx
    case h_1 => obtain ⟨cs, rfl, hr⟩ := hr; exact ⟨cs, rfl, vws_sound hh hfree hv l _ hx hr⟩
    case h_2 => trivial
    case h_3 => exact hx.elim
  | .clo f l, x, v, hx, hr => by
    unfold vw at hx
    split at hx
    case h_1 => obtain ⟨rfl, hx⟩ := hx; obtain ⟨cs, rfl, hr⟩ := hr; exact ⟨cs, rfl, vws_sound hh hfree hv l _ hx hr⟩
    case h_2 => trivial
    case h_3 => exact hx.elim
  | .rp l o, x, v, hx, hr => by
    unfold vw at hx
    split at hx
    case h_1 =>
      obtain ⟨rfl, hx⟩ := hx
      obtain ⟨b, cs, rfl, hr, hc⟩ := hr
      exact ⟨b, cs, rfl, vws_sound hh hfree hv l _ hx hr, fun i u hu => by obtain ⟨h1, h2⟩ := hc i u hu; exact vw_keeps hh hv b i u h1 h2⟩
    case h_2 => trivial
    case h_3 => exact hx.elim
  | .own k, x, v, hx, hr => by
    unfold vw at hx
    split at hx
    case h_1 j =>
      obtain ⟨h2, h3⟩ := hx
      refine ⟨Nat.le_of_ble_eq_true h2, fun r' hr' => ?_⟩
      obtain ⟨_, s, hs, hrv⟩ := rowsVw_at hv hr'
      rw [h3] at hs
      obtain rfl := Option.some.inj hs
      obtain ⟨r, h4, h5⟩ := rowVw_kind hrv
      obtain ⟨h6, h7⟩ := hr.2 r h4
      exact ⟨by rw [← h5]; exact h6, by rw [h7]; simp only [ηV, h3]⟩
    case h_2 t =>
      obtain ⟨h2, h3⟩ := hx
      split at h3
      case h_2 => exact h3.elim
      case h_1 r hlk =>
        obtain ⟨_, h7⟩ := hr.2 r hlk
        have hfr : ∀ b, b ∈ bsOf η k r → ¬ badOf ob hp' (ηV hp η R) b := fun b hb => vw_free hh hfree hv h2 hlk hb
        have hrow := hh.row k r hlk
        rw [h7]
        match r with
        | .ints e kd l => simp only [closeRow, Option.some.injEq] at h3; subst h3; exact own_ints' hrow.1 (fun b hb => hfr b (blk_own hb))
        | .rows e e1 true m =>
          simp only [closeRow, Option.some.injEq] at h3; subst h3
          refine own_rows' hrow.1 (F2.imp (fun l v hm ho => own_ints' ho (fun b hb => hfr b ?_)) hrow.2) (fun b hb => hfr b (blk_own hb))
          simp only [bsOf, ARow.kind, if_true]
          exact List.mem_append.2 (.inr (List.mem_flatMap.2 ⟨v, hm, hb⟩))
        | .rows e e1 false m => simp only [closeRow, Option.some.injEq] at h3; subst h3; exact own_rows' hrow.1 (F2.imp (fun _ _ _ h => h.keeps (vw_keeps hh hv)) hrow.2) (fun b hb => hfr b (blk_own hb))
        | .cells e l => simp [closeRow] at h3
        | .recs e s L =>
          simp only [closeRow, Option.some.injEq] at h3; subst h3
          obtain ⟨g1, css, g2, g3⟩ := hrow
          exact own_recs g2 g1 (F2.imp (fun _ _ _ h => h.keeps (vw_keeps hh hv)) g3) (fun b hb => hfr b (blk_own hb))
    case h_3 => trivial
    case h_4 => exact hx.elim
  | .sub k i, x, v, hx, hr => by
    unfold vw at hx
    split at hx
    case h_1 j i' =>
      obtain ⟨h2, h3, rfl⟩ := hx
      refine ⟨Nat.le_of_ble_eq_true h2, fun r' hr' => ?_⟩
      obtain ⟨_, s, hs, hrv⟩ := rowsVw_at hv hr'
      rw [h3] at hs
      obtain rfl := Option.some.inj hs
      obtain ⟨r, h4, h5⟩ := rowVw_kind hrv
      obtain ⟨h6, h7⟩ := hr.2 r h4
      exact ⟨by rw [← h5]; exact h6, by simp only [ηV, h3]; exact h7⟩
    case h_2 j =>
      obtain ⟨h2, h3⟩ := hx
      refine ⟨Nat.le_of_ble_eq_true h2, fun r' hr' => ?_⟩
      obtain ⟨_, s, hs, hrv⟩ := rowsVw_at hv hr'
      rw [h3] at hs
      obtain rfl := Option.some.inj hs
      unfold rowVw at hrv
      simp only at hrv
      split at hrv
      case h_2 => exact hrv.elim
      case h_1 e e1 m hlk =>
        obtain ⟨_, rfl⟩ := hrv
        obtain ⟨_, h7⟩ := hr.2 _ hlk
        exact ⟨by simp [ARow.kind], by simp only [ηV, h3]; exact (getD_of h7).symm⟩
    case h_3 l =>
      obtain ⟨h2, h3⟩ := hx
      split at h3
      case h_2 => exact h3.elim
      case h_1 e e1 m hlk =>
        subst h3
        obtain ⟨_, h7⟩ := hr.2 _ hlk
        have hrow := hh.row k _ hlk
        obtain ⟨l', hl', ho⟩ := F2.at' hrow.2 h7
        rw [getD_of hl']
        refine own_ints' ho (fun b hb => vw_free hh hfree hv h2 hlk ?_)
        simp only [bsOf, ARow.kind, if_true]
        exact List.mem_append.2 (.inr (List.mem_flatMap.2 ⟨v, List.mem_of_getElem? h7, hb⟩))
    case h_4 => trivial
    case h_5 => exact hx.elim
  | .ptr k o, x, v, hx, hr => by
    unfold vw at hx
    split at hx
    case h_1 j i' =>
      obtain ⟨h2, h3, rfl⟩ := hx
      refine ⟨Nat.le_of_ble_eq_true h2, fun r' hr' => ?_⟩
      obtain ⟨_, s, hs, hrv⟩ := rowsVw_at hv hr'
      rw [h3] at hs
      obtain rfl := Option.some.inj hs
      obtain ⟨r, h4, h5⟩ := rowVw_kind hrv
      have := hr.2 r h4
      simpa only [ηV, h3] using this
    case h_2 => trivial
    case h_3 => exact hx.elim
  | .subp k i o, x, v, hx, hr => by
    unfold vw at hx
    split at hx
    case h_1 j i' o' =>
      obtain ⟨h2, h3, rfl, rfl⟩ := hx
      refine ⟨Nat.le_of_ble_eq_true h2, fun r' hr' => ?_⟩
      obtain ⟨_, s, hs, hrv⟩ := rowsVw_at hv hr'
      rw [h3] at hs
      obtain rfl := Option.some.inj hs
      obtain ⟨r, h4, h5⟩ := rowVw_kind hrv
      have := hr.2 r h4
      simpa only [ηV, h3, ← h5] using this
    case h_2 => trivial
    case h_3 => exact hx.elim
theorem vws_sound (hh : HRep w B ob hp nx η) (hfree : ∀ b, ownB hp η b → ¬ ob b) (hv : rowsVw hp R nx' hp') : ∀ (l l' : List AVal) {vs : List Value}, vws hp R nx' l l' → VReps w (badOf ob hp η) hp nx η l vs → VReps w (badOf ob hp' (ηV hp η R)) hp' nx' (ηV hp η R) l' vs
  | [], l', [], hx, _ => by cases l' with | nil => trivial | cons => exact hx.elim
  | y :: l, l', v :: vs, hx, h => by
    cases l' with
    | nil => exact hx.elim
    | cons x r => exact ⟨vw_sound hh hfree hv y x hx.1 h.1, vws_sound hh hfree hv l r hx.2 h.2⟩
  | [], _, _ :: _, _, h => h.elim
  | _ :: _, _, [], _, h => h.elim
end
end

section
variable {P : Program} {Γ : Tys} {w0 : Base} {w w' : World} {ob : Nat → Prop} {st st' : St} {a : Act} {η : Env} {R : List (Nat × Org)}

theorem owns_nil (w : World) (B e : Nat) : w.ownsRow B e 1 (.slice none 0 0) 0 [] := ⟨rfl, .inl ⟨rfl, rfl⟩⟩

theorem View.heap {B nx nx' : Nat} {hp hp' : List (Nat × ARow)} (hh : HRep w B ob hp nx η) (hfree : ∀ b, ownB hp η b → ¬ ob b) (hd : distinct R = true) (hv : rowsVw hp R nx' hp') : HRep w B ob hp' nx' (ηV hp η R) := by
  refine ⟨fun j r' hj => ?_, fun j r' hj => ?_, fun j r j' r' hj hj' hne b hb hm => ?_, fun j r' hj => (rowsVw_at hv hj).1⟩
  · obtain ⟨_, s, hs, hrv⟩ := rowsVw_at hv hj
    cases s with
    | nil =>
      unfold rowVw at hrv
      simp only at hrv
      split at hrv
      case h_1 => exact ⟨by simp only [ηV, hs, OwnInts]; exact owns_nil _ _ _, by simp only [ηV, hs]; rfl⟩
      case h_2 e e1 u =>
        cases u with
        | true => exact ⟨by simp only [ηV, hs]; exact owns_nil _ _ _, by simp only [ηV, hs]; trivial⟩
        | false => exact ⟨by simp only [ηV, hs]; exact owns_nil _ _ _, by simp only [ηV, hs]; trivial⟩
      case h_3 e s => exact ⟨by simp only [ηV, hs]; exact ⟨by simp, .inl ⟨rfl, rfl⟩⟩, [], by simp only [ηV, hs]; rfl, trivial⟩
      case h_4 => exact hrv.elim
    | row k =>
      unfold rowVw at hrv
      simp only at hrv
      split at hrv
      case h_3 => exact hrv.elim
      case h_1 e l hlk =>
        split at hrv
        case h_2 => exact hrv.elim
        case h_1 e' l' =>
          obtain ⟨rfl, hx⟩ := hrv
          obtain ⟨b, h1, h2, h3, h4⟩ := hh.row k _ hlk
          exact ⟨b, by simp only [ηV, hs]; exact h1, h2, by simp only [ηV, hs]; exact h3, by
            have := vws_sound hh hfree hv l l' hx h4
            simpa only [ηV, hs] using this⟩
      case h_2 r _ hlk =>
        subst hrv
        have hrow := hh.row k r hlk
        match r with
        | .ints e kd l => simpa only [RowRep, OwnInts, ηV, hs] using hrow
        | .rows e e1 true m => simpa only [RowRep, ηV, hs] using hrow
        | .rows e e1 false m =>
          refine ⟨by simpa only [ηV, hs] using hrow.1, ?_⟩
          have := F2.imp (fun _ _ _ h => SInts.keeps (vw_keeps hh hv) h) hrow.2
          simpa only [ηV, hs] using this
        | .cells e l =>
          rename_i hnc
          exact (hnc e l rfl).elim
        | .recs e s L =>
          obtain ⟨g1, css, g2, g3⟩ := hrow
          refine ⟨by simpa only [ηV, hs] using g1, css, by simpa only [ηV, hs] using g2, ?_⟩
          exact F2.imp (fun _ _ _ h => h.keeps (vw_keeps hh hv)) g3
    | sub k i =>
      unfold rowVw at hrv
      simp only at hrv
      split at hrv
      case h_2 => exact hrv.elim
      case h_1 e e1 m hlk =>
        obtain ⟨hi, rfl⟩ := hrv
        have hrow := hh.row k _ hlk
        obtain ⟨v, hvi, ho⟩ := F2.at hrow.2 (List.getElem?_eq_getElem hi)
        have e1 : m.getD i [] = m[i] := getD_of (List.getElem?_eq_getElem hi)
        refine ⟨?_, by simp only [ηV, hs, hlk]⟩
        simp only [ηV, hs, OwnInts]
        rw [getD_of hvi, e1]
        exact ho
  · obtain ⟨_, s, hs, hrv⟩ := rowsVw_at hv hj
    exact (vw_blocks hh hs hrv).2
  · obtain ⟨_, s, hs, hrv⟩ := rowsVw_at hv hj
    obtain ⟨_, s', hs', hrv'⟩ := rowsVw_at hv hj'
    obtain ⟨k, r0, h1, h2, h3⟩ := (vw_blocks hh hs hrv).1 b hb
    obtain ⟨k', r0', h1', h2', h3'⟩ := (vw_blocks hh hs' hrv').1 b hm
    refine hh.apart k r0 k' r0' h2 h2' (fun e => ?_) b h3 h3'
    subst e
    exact distinct_spec hd hs hs' hne h1 h1'

theorem View.rep (hs : View R st st') (h : SRep w0 ob st a w η) : SRep w0 ob st' a w (ηV st.hp η R) := by
  refine ⟨h.defers, h.size.trans hs.sz, h.below, h.base, h.frame, fun b hb => ?_, View.heap h.heap (fun b hb => h.free hb) hs.di hs.hp, fun i x hi => ?_⟩
  · obtain ⟨_, _, k, r, _, _, h4, h5⟩ := vw_own h.heap hs.hp hb
    exact h.src b ⟨k, r, h4, h5⟩
  · obtain ⟨y, h1, h2⟩ := slotsVw_at hs.sl hi
    exact vw_sound h.heap (fun b hb => h.free hb) hs.hp y x h2 (h.slot i y h1)

theorem acode_view {b : Code} {K : Exit → St → Prop} (hs : View R st st') (h : ALoop P b st' K) : ALoop P b st K :=
  ⟨fun w0 ob a w ⟨_, hr⟩ => h.run w0 ob a w ⟨_, hs.rep hr⟩⟩

/-- .. of which all orders come to one state -/
theorem ADraw.mid {ops : Array Oper} {K : St → Prop} (mid : St) (h : ADraw P ops st (fun st1 => ∃ R, View R st1 mid)) (hk : K mid) : ADraw P ops st K :=
  ⟨fun id w0 ob a w hr => wp_mono (h.run id w0 ob a w hr) (fun _ _ _ ⟨he, _, ⟨_, hv⟩, ⟨_, hs⟩⟩ => ⟨he, mid, hk, _, hv.rep hs⟩)⟩

def orId (o : Option (List (Nat × Org))) (h : List (Nat × ARow)) : List (Nat × Org) :=
  match o with
  | some R => R
  | none => idR h

/-- the view by which the second state is to be had ('none': every row by its own name) -/
abbrev Seen (o : Option (List (Nat × Org))) (st st' : St) : Prop := View (orId o st'.hp) st st'

/-- THE LOOP: states told by an index with a fact on it, and a number that every round lowers -/
theorem aloopI {ι : Type} (hΓ : TysOk P Γ) (hm : P.follows .mixedOrders = true) (inv : ι → St) (I : ι → Prop) (μ : ι → Nat) {b : Code} {K : Exit → St → Prop} (i0 : ι) (hI : I i0) (o0 : Option (List (Nat × Org))) (h0 : Seen o0 st (inv i0))
    (round : ∀ i, I i → acode P Γ b (inv i) fun e st' => match e with | .normal => ∃ j o, Seen o st' (inv j) ∧ I j ∧ μ j < μ i | e => K e st') : ALoop P b st K := by
  refine ⟨fun w0 ob a w ⟨η, h⟩ => ?_⟩
  intro fb k cs
  have key : ∀ (n : Nat) (i : ι), I i → μ i = n → ∀ a w, StRep w0 ob (inv i) a w →
      ∃ e a' w', lift w0 ob K e a' w' ∧ Arrives P (lone (fb.at a (.code b :: .inLoop b :: k)) cs w) fb k cs e a' w' := by
    intro n
    induction n using Nat.strongRecOn with
    | _ n ih =>
      intro i hIi hi a w hr
      obtain ⟨e, a', w', ⟨st', hk', η', hs'⟩, harr⟩ := acode_sound (w0 := w0) (ob := ob) hΓ hm b (inv i) _ a w (round i hIi) hr fb (.inLoop b :: k) cs
      cases e with
      | normal =>
        obtain ⟨j, o, hsub, hIj, hlt⟩ := hk'
        obtain ⟨e2, a2, w2, hq2, harr2⟩ := ih (μ j) (hi ▸ hlt) j hIj rfl a' w' ⟨_, View.rep hsub hs'⟩
        exact ⟨e2, a2, w2, hq2, .of_steps (Steps.trans harr (.one step_inLoop)) harr2⟩
      | exit id => exact ⟨_, a', w', ⟨st', hk', η', hs'⟩, .pass (x := .inLoop b) rfl (fun _ _ => .inl (by simp)) harr⟩
      | goto l => exact ⟨_, a', w', ⟨st', hk', η', hs'⟩, .pass (x := .inLoop b) rfl (fun _ _ => .inl (by simp)) harr⟩
      | ret => exact ⟨_, a', w', ⟨st', hk', η', hs'⟩, .pass (x := .inLoop b) rfl (fun _ _ => .inl (by simp)) harr⟩
      | panic ch => exact ⟨_, a', w', ⟨st', hk', η', hs'⟩, .pass (x := .inLoop b) rfl (fun _ _ => .inl (by simp)) harr⟩
      | outgrown => exact ⟨_, a', w', ⟨st', hk', η', hs'⟩, .pass (x := .inLoop b) rfl (fun _ _ => .inl (by simp)) harr⟩
  obtain ⟨e, a', w', hq, harr⟩ := key (μ i0) i0 hI rfl a w ⟨_, View.rep h0 h⟩
  exact ⟨e, a', w', hq, .of_steps (.one step_loop) harr⟩
end
end Go.Aw
