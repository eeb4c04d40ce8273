/- Stores. -/
import Derived.Test.YtpakfehinfcdoaaAw10
namespace Go.Aw
open Go.RowKit

section
variable {P : Program} {Γ : Tys} {w0 : Base} {w w' : World} {ob : Nat → Prop} {st : St} {a : Act} {η : Env}

theorem run_storeAt {t : Nat} {ti : TI} (ht : TyOk P t ti) {v : Value} {us : List Value} (hv : v.cells = us.toArray) (hl : us.length = ti.size) (h1 : ∀ u, u ∈ us → u.oneCell' = true)
    {g o e : Nat} {cur : Array Value} (hg : w.heap[g]? = some (.cells cur e (0, 0))) (ho : o + us.length ≤ cur.size) :
    (Instr.storeAt t (.pointer (some ⟨g, o, none⟩)) v).run P w = .ok () (w.setRow g (cur.toList.take o ++ us ++ cur.toList.drop (o + us.length)).toArray) := by
  have hst := run_storeCells_at P g o e us 0 cur w hg (by simpa using ho) h1
  simp only [Nat.add_zero] at hst
  have hsz : ¬ (v.cells.size ≠ ti.size) := by rw [hv]; simp [hl]
  simp only [Instr.storeAt, Instr.sureAddr, Sem.run_bind, Sem.run_pure, Result.andThen_ok, storeVar, run_size ht]
  rw [if_neg hsz]
  rw [hv]
  exact hst

theorem below_setRow {B g : Nat} (hg : B ≤ g) (cs : Array Value) : Below B w (w.setRow g cs) :=
  ⟨rfl, rfl, rfl, by simp [World.setRow], fun k hk => setRow_other w g k cs (by omega)⟩

/-- a row is written in place -/
theorem SRep.upd (h : SRep w0 ob st a w η) {k : Nat} {r r' : ARow} {cs' : List Value} (hr : look st.hp k = some r) (hkind : r'.kind = r.kind) (hlen : (η.cel k).length ≤ cs'.length)
    (hsub : r.kind = 2 → ∀ (i : Nat) (v : Value), (η.cel k)[i]? = some v → cs'[i]? = some v)
    (hw : ∀ b, b < w.heap.size → b ∉ bsOf η k r → w'.heap[b]? = w.heap[b]?) (hB : Below w0.B w w')
    (hnd : (bsOf (η.upd k (η.val k) cs') k r').Nodup) (hfr : ∀ b, b ∈ bsOf (η.upd k (η.val k) cs') k r' → b ∈ bsOf η k r)
    (hrow : Keeps w (badOf ob st.hp η) w' (badOf ob ((k, r') :: rem k st.hp) (η.upd k (η.val k) cs')) →
      (∀ j, j < st.nx → OwnOk st.hp η ((k, r') :: rem k st.hp) (η.upd k (η.val k) cs') j) → (∀ j, j < st.nx → SubOk st.hp η ((k, r') :: rem k st.hp) (η.upd k (η.val k) cs') j) →
      RowRep w' w0.B (badOf ob ((k, r') :: rem k st.hp) (η.upd k (η.val k) cs')) ((k, r') :: rem k st.hp) st.nx (η.upd k (η.val k) cs') k r') :
    SRep w0 ob (st.upd k r') a w' (η.upd k (η.val k) cs') := by
  have hoth : ∀ j r1, j ≠ k → look ((k, r') :: rem k st.hp) j = some r1 → look st.hp j = some r1 := fun j r1 hj h1 => by
    rw [look_upd, if_neg (Ne.symm hj)] at h1; exact h1
  have hk' : look ((k, r') :: rem k st.hp) k = some r' := by rw [look_upd, if_pos rfl]
  have hok : ∀ j, j < st.nx → OwnOk st.hp η ((k, r') :: rem k st.hp) (η.upd k (η.val k) cs') j := fun j _ => by
    by_cases hjk : j = k
    · subst hjk
      exact ⟨fun r1 h1 => by rw [hk'] at h1; obtain rfl := Option.some.inj h1; exact ⟨r, hr, hkind.symm, upd_val _ _ _ _, by rw [upd_cel]; exact hlen⟩⟩
    · exact OwnOk.of (fun r1 h1 => ⟨r1, hoth j r1 hjk h1, rfl⟩) (upd_ne _ _ _ _ j hjk).1 (upd_ne _ _ _ _ j hjk).2
  have hsk : ∀ j, j < st.nx → SubOk st.hp η ((k, r') :: rem k st.hp) (η.upd k (η.val k) cs') j := fun j _ => by
    by_cases hjk : j = k
    · subst hjk
      exact ⟨fun r1 h1 => by rw [hk'] at h1; obtain rfl := Option.some.inj h1; exact ⟨r, hr, hkind.symm, fun h2 => by rw [upd_cel]; exact hsub h2⟩⟩
    · exact SubOk.of (fun r1 h1 => ⟨r1, hoth j r1 hjk h1, rfl⟩) (upd_ne _ _ _ _ j hjk).2
  obtain ⟨hh, hkp⟩ := HRep.step (k := k) (hp' := (k, r') :: rem k st.hp) (nx' := st.nx) (η' := η.upd k (η.val k) cs') (w' := w') h.heap (fun _ => true) (fun _ => true) r' (h.heap.lt k r hr) (Nat.le_refl _)
    (fun j r1 hj h1 => ⟨r1, hoth j r1 hj h1, (rowflt_true r1).symm⟩) hk' (fun j hj => upd_ne _ _ _ _ j hj)
    (fun b hb hn => hw b hb (hn r hr)) (fun j hj _ => hok j hj) (fun j hj _ => hsk j hj) hnd
    (fun b hb => .inl ⟨k, r, hr, hfr b hb, .inl rfl⟩) (fun hkp => hrow hkp hok hsk)
  have := h.heapStep (fun _ => true) (fun _ => true) hB hh hkp (Nat.le_refl _) (fun j hj _ => hok j hj) (fun j hj _ => hsk j hj)
  rw [fltS_true] at this
  exact this

theorem setRow_same {g : Nat} {cur cs : Array Value} {e : Nat} (hg : w.heap[g]? = some (.cells cur e (0, 0))) : (w.setRow g cs).heap[g]? = some (.cells cs e (0, 0)) := setRow_heap w g cur cs e _ hg

/-- an element of an owned row is written -/
theorem own_set {B e n : Nat} {v : Value} {xs : List Value} (h : w.ownsRow B e 1 v n xs) {g o : Nat} (hb : blk v = [g]) (ho : o < n) (u : Value) :
    ∃ cur : Array Value, w.heap[g]? = some (.cells cur e (0, 0)) ∧ o + 1 ≤ cur.size ∧ B ≤ g ∧
      (w.setRow g (cur.toList.take o ++ [u] ++ cur.toList.drop (o + 1)).toArray).ownsRow B e 1 v n (xs.set o u) := by
  rcases h.2 with ⟨rfl, h0⟩ | ⟨g', cap, cur, rfl, hg, hh, hnc, hcm, hcs, htk⟩
  · omega
  · simp [blk] at hb; subst hb
    refine ⟨cur, hh, by omega, hg, ⟨by simpa using h.1, .inr ⟨g', cap, _, rfl, hg, setRow_same hh, hnc, hcm, ?_, ?_⟩⟩⟩
    · simp; omega
    · have hset : (cur.toList.take o ++ [u] ++ cur.toList.drop (o + 1)) = cur.toList.set o u := by
        rw [List.set_eq_take_append_cons_drop, if_pos (by simp; omega)]
        simp
      rw [hset, ← htk]
      simp only [Nat.mul_one]
      rw [List.take_set]

theorem own_other {B e n : Nat} {v : Value} {xs : List Value} (h : w.ownsRow B e 1 v n xs) {g : Nat} (hb : g ∉ blk v) (cs : Array Value) : (w.setRow g cs).ownsRow B e 1 v n xs :=
  ownsRow_same h (fun b hb' => setRow_other w g b cs (fun e => hb (e ▸ hb')))

theorem ANStore {o : Oper} {t : Nat} {x y : Operand} (ho : o.op = .store t x y) {w' : World} (hrun : (Instr.storeAt t (a.eval x) (a.eval y)).run P w = .ok () w') : (execOp a.eval o).run P w = .ok .skip w' := by
  simp [execOp, ho, hrun]

theorem ones_cell {B : Nat} {hp : List (Nat × ARow)} {nx : Nat} (hh : HRep w B ob hp nx η) : ∀ {l : List AVal} {cs : List Value}, ones hp l = true → VReps w (badOf ob hp η) hp nx η l cs → ∀ u, u ∈ cs → u.oneCell' = true
  | [], [], _, _, u, hu => by simp at hu
  | x :: l, v :: cs, ho, h, u, hu => by
    simp only [ones] at ho
    split at ho
    case h_2 => cases ho
    case h_1 h1 =>
      rcases List.mem_cons.1 hu with rfl | hu
      · exact (one_cell hh h1 h.1).1
      · exact ones_cell hh ho h.2 u hu
  | [], _ :: _, _, h, _, _ => h.elim
  | _ :: _, [], _, h, _, _ => h.elim

theorem flat_apart : ∀ {xs : List Value}, (xs.flatMap blk).Nodup → ∀ {i j : Nat} {u v : Value}, xs[i]? = some u → xs[j]? = some v → i ≠ j → ∀ b, b ∈ blk u → b ∉ blk v
  | [], _, i, j, u, v, hi, _, _, _, _ => by simp at hi
  | x :: xs, hn, i, j, u, v, hi, hj, hij, b, hb => by
    simp only [List.flatMap_cons] at hn
    obtain ⟨h1, h2, h3⟩ := List.nodup_append.1 hn
    have mem : ∀ {k : Nat} {y : Value}, xs[k]? = some y → b ∈ blk y → b ∈ xs.flatMap blk := fun hk hy => List.mem_flatMap.2 ⟨_, List.mem_of_getElem? hk, hy⟩
    match i, j with
    | 0, 0 => exact absurd rfl hij
    | 0, j + 1 =>
      simp at hi hj; subst hi
      exact fun hv => h3 b hb b (mem hj hv) rfl
    | i + 1, 0 =>
      simp at hi hj; subst hj
      exact fun hv => h3 b hv b (mem hi hb) rfl
    | i + 1, j + 1 =>
      simp at hi hj
      exact flat_apart h2 hi hj (by omega) b hb

theorem flat_set : ∀ {xs : List Value} {v : Value} (i : Nat), (xs.flatMap blk).Nodup → (blk v).Nodup → (∀ b, b ∈ blk v → b ∉ xs.flatMap blk) → ((xs.set i v).flatMap blk).Nodup ∧ (∀ b, b ∈ (xs.set i v).flatMap blk → b ∈ blk v ∨ b ∈ xs.flatMap blk)
  | [], _, _, _, _, _ => by simp
  | x :: xs, v, 0, hn, hv, hd => by
    simp only [List.flatMap_cons, List.set_cons_zero] at hn hd ⊢
    obtain ⟨h1, h2, h3⟩ := List.nodup_append.1 hn
    refine ⟨List.nodup_append.2 ⟨hv, h2, fun a ha b hb e => hd a ha (List.mem_append.2 (.inr (e ▸ hb)))⟩, fun b hb => ?_⟩
    rcases List.mem_append.1 hb with hb | hb
    · exact .inl hb
    · exact .inr (List.mem_append.2 (.inr hb))
  | x :: xs, v, i + 1, hn, hv, hd => by
    simp only [List.flatMap_cons, List.set_cons_succ] at hn hd ⊢
    obtain ⟨h1, h2, h3⟩ := List.nodup_append.1 hn
    obtain ⟨i1, i2⟩ := flat_set i h2 hv (fun b hb hm => hd b hb (List.mem_append.2 (.inr hm)))
    refine ⟨List.nodup_append.2 ⟨h1, i1, fun a ha b hb e => ?_⟩, fun b hb => ?_⟩
    · subst e
      rcases i2 a hb with hb | hb
      · exact hd a hb (List.mem_append.2 (.inl ha))
      · exact h3 a ha a hb rfl
    · rcases List.mem_append.1 hb with hb | hb
      · exact .inr (List.mem_append.2 (.inl hb))
      · rcases i2 b hb with hb | hb
        · exact .inl hb
        · exact .inr (List.mem_append.2 (.inr hb))

theorem astore_sound (hΓ : TysOk P Γ) (h : SRep w0 ob st a w η) {t : Nat} {x y : AVal} {u v : Value} (hx : VR w ob st η x u) (hy : VR w ob st η y v) {K : St → Prop} (hk : astore Γ st t x y K) :
    ∃ st' w' η', K st' ∧ st'.sz = st.sz ∧ SRep w0 ob st' a w' η' ∧ (Instr.storeAt t u v).run P w = .ok () w' := by
  unfold astore at hk
  split at hk
  case h_1 => exact hk.elim
  case h_2 ti hti =>
    have ht := hΓ.at hti
    split at hk
    case h_3 => exact hk.elim
    case h_1 k off =>
      simp only [VR, VRep] at hx
      split at hk
      case h_4 => exact hk.elim
      case h_1 e kd l hr =>
        -- an integer into a row of integers
        split at hk
        case h_2 => exact hk.elim
        case h_1 k' n =>
          split at hk
          case h_2 => exact hk.elim
          case h_1 hq =>
            have := keq_spec hq
            subst this
            split at hk
            case h_2 => exact hk.elim
            case h_1 hsz =>
              obtain ⟨hoff, g, hb, rfl⟩ := hx.2 _ hr
              obtain ⟨rfl, _⟩ := hy
              have hrow := h.heap.row k _ hr
              have hlen := row_len hrow
              simp only at hlen
              obtain ⟨cur, hg, ho, hB, hown⟩ := own_set hrow.1 hb (o := off) (by omega) (.int k' n)
              refine ⟨_, _, η.upd k (η.val k) ((l.set off n).map (Value.int k')), hk, rfl, ?_, run_storeAt ht (us := [.int k' n]) rfl (by rw [hsz]; rfl) (by simp [Value.oneCell']) hg ho⟩
              have hbs : bsOf η k (.ints e k' l) = [g] := by simp [bsOf, ARow.kind, hb]
              have hbs' : bsOf (η.upd k (η.val k) ((l.set off n).map (Value.int k'))) k (.ints e k' (l.set off n)) = [g] := by simp [bsOf, ARow.kind, upd_val, hb]
              refine h.upd (cs' := (l.set off n).map (Value.int k')) hr rfl (by simp [hlen]) (by simp [ARow.kind]) (fun b _ hn => ?_) (below_setRow hB _) (by rw [hbs']; simp) (by rw [hbs, hbs']; simp) (fun _ _ _ => ?_)
              · rw [hbs] at hn
                exact setRow_other w g b _ (by simpa using hn)
              · refine ⟨?_, upd_cel _ _ _ _⟩
                rw [upd_val]
                simp only [OwnInts, List.length_set, List.map_set]
                exact hown
      case h_2 e e1 m hr =>
        -- a row of integers of the call's own handed over into a row of rows
        split at hk
        case h_2 => exact hk.elim
        case h_1 k2 =>
          split at hk
          case h_1 => exact hk.elim
          case h_2 hne =>
            have hne' : k2 ≠ k := fun e => by rw [e, Nat.beq_refl] at hne; cases hne
            split at hk
            case h_2 => exact hk.elim
            case h_1 e2 l hr2 =>
              split at hk
              case h_2 => exact hk.elim
              case h_1 he2 =>
                have := Nat.eq_of_beq_eq_true he2
                subst this
                split at hk
                case h_2 => exact hk.elim
                case h_1 hsz =>
                  obtain ⟨hoff, g, hb, rfl⟩ := hx.2 _ hr
                  have hv2 : v = η.val k2 := (hy.2 _ hr2).2
                  subst hv2
                  have hrow := h.heap.row k _ hr
                  have hrow2 := h.heap.row k2 _ hr2
                  have hlen := row_len hrow
                  simp only at hlen
                  obtain ⟨cur, hg, ho, hB, hown⟩ := own_set hrow.1 hb (o := off) (by omega) (η.val k2)
                  obtain ⟨b2, c2, hu2⟩ := len_own hrow2.1
                  have hcell : (η.val k2).cells = [η.val k2].toArray ∧ (η.val k2).oneCell' = true := by rw [hu2]; exact ⟨rfl, rfl⟩
                  refine ⟨_, _, η.upd k (η.val k) ((η.cel k).set off (η.val k2)), hk, rfl, ?_, run_storeAt ht (us := [η.val k2]) hcell.1 (by rw [hsz]; rfl) (by simp [hcell.2]) hg ho⟩
                  have hbs : bsOf η k (.rows e e2 true m) = blk (η.val k) ++ (η.cel k).flatMap blk := by simp [bsOf, ARow.kind]
                  have hbs2 : bsOf η k2 (.ints e2 .i64 l) = blk (η.val k2) := by simp [bsOf, ARow.kind]
                  have hbs' : bsOf (η.upd k (η.val k) ((η.cel k).set off (η.val k2))) k (.rows e e2 true (m.set off l)) = blk (η.val k) ++ ((η.cel k).set off (η.val k2)).flatMap blk := by simp [bsOf, ARow.kind, upd_val, upd_cel]
                  have hnd := h.heap.nodup k _ hr
                  rw [hbs] at hnd
                  obtain ⟨n1, n2, n3⟩ := List.nodup_append.1 hnd
                  have hap : ∀ b, b ∈ blk (η.val k2) → b ∉ blk (η.val k) ++ (η.cel k).flatMap blk := fun b hb2 => by
                    have := h.heap.apart k2 _ k _ hr2 hr hne' b (by rw [hbs2]; exact hb2)
                    rwa [hbs] at this
                  obtain ⟨f1, f2⟩ := flat_set (v := η.val k2) off n2 (hbs2 ▸ h.heap.nodup k2 _ hr2) (fun b hb2 hm => hap b hb2 (List.mem_append.2 (.inr hm)))
                  have hoth : ∀ j r1, j ≠ k → look (((st.del k2).killSub k).upd k (.rows e e2 true (m.set off l))).hp j = some r1 → j ≠ k2 ∧ ∃ r, look st.hp j = some r ∧ r1 = r.flt (fun _ => true) (ne k) := fun j r1 hj h1 => by
                    simp only [St.upd, St.killSub, St.del, look_upd, if_neg (Ne.symm hj), look_fltH] at h1
                    obtain ⟨r, h2, rfl⟩ := Option.map_eq_some_iff.1 h1
                    by_cases hj2 : j = k2
                    · subst hj2; rw [look_rem] at h2; cases h2
                    · rw [look_rem_ne _ _ _ hj2] at h2; exact ⟨hj2, r, h2, rfl⟩
                  have hk' : look (((st.del k2).killSub k).upd k (.rows e e2 true (m.set off l))).hp k = some (.rows e e2 true (m.set off l)) := by simp only [St.upd, look_upd, if_true]
                  have hk2' : look (((st.del k2).killSub k).upd k (.rows e e2 true (m.set off l))).hp k2 = none := by
                    cases hx2 : look (((st.del k2).killSub k).upd k (.rows e e2 true (m.set off l))).hp k2 with
                    | none => rfl
                    | some r => exact absurd rfl (hoth k2 r hne' hx2).1
                  have hok : ∀ j, j < st.nx → OwnOk st.hp η (((st.del k2).killSub k).upd k (.rows e e2 true (m.set off l))).hp (η.upd k (η.val k) ((η.cel k).set off (η.val k2))) j := fun j _ => by
                    by_cases hjk : j = k
                    · subst hjk
                      exact ⟨fun r1 h1 => by rw [hk'] at h1; obtain rfl := Option.some.inj h1; exact ⟨_, hr, rfl, upd_val _ _ _ _, by rw [upd_cel]; simp⟩⟩
                    · exact OwnOk.of (fun r1 h1 => by obtain ⟨_, r, h2, rfl⟩ := hoth j r1 hjk h1; exact ⟨r, h2, (kind_flt _ _ r).symm⟩) (upd_ne _ _ _ _ j hjk).1 (upd_ne _ _ _ _ j hjk).2
                  have hsk : ∀ j, j < st.nx → ne k j = true → SubOk st.hp η (((st.del k2).killSub k).upd k (.rows e e2 true (m.set off l))).hp (η.upd k (η.val k) ((η.cel k).set off (η.val k2))) j := fun j _ hj => by
                    have hjk := (ne_spec k j).1 hj
                    exact SubOk.of (fun r1 h1 => by obtain ⟨_, r, h2, rfl⟩ := hoth j r1 hjk h1; exact ⟨r, h2, (kind_flt _ _ r).symm⟩) (upd_ne _ _ _ _ j hjk).2
                  have hgk : g ∈ blk (η.val k) := by rw [hb]; simp
                  obtain ⟨hh, hkp⟩ := HRep.step (k := k) (hp' := (((st.del k2).killSub k).upd k (.rows e e2 true (m.set off l))).hp) (nx' := st.nx) (η' := η.upd k (η.val k) ((η.cel k).set off (η.val k2)))
                    (w' := w.setRow g (cur.toList.take off ++ [η.val k2] ++ cur.toList.drop (off + 1)).toArray) h.heap (fun _ => true) (ne k) (.rows e e2 true (m.set off l)) (h.heap.lt k _ hr) (Nat.le_refl _)
                    (fun j r1 hj h1 => (hoth j r1 hj h1).2) hk' (fun j hj => upd_ne _ _ _ _ j hj)
                    (fun b _ hn => setRow_other w g b _ (fun e => hn _ hr (by rw [hbs, e]; exact List.mem_append.2 (.inl hgk)))) (fun j hj _ => hok j hj) hsk
                    (by rw [hbs']; exact List.nodup_append.2 ⟨n1, f1, fun b hb1 b' hb' e => by
                      subst e
                      rcases f2 b hb' with h2 | h2
                      · exact hap b h2 (List.mem_append.2 (.inl hb1))
                      · exact n3 b hb1 b h2 rfl⟩)
                    (fun b hb1 => by
                      rw [hbs'] at hb1
                      rcases List.mem_append.1 hb1 with h2 | h2
                      · exact .inl ⟨k, _, hr, by rw [hbs]; exact List.mem_append.2 (.inl h2), .inl rfl⟩
                      · rcases f2 b h2 with h3 | h3
                        · exact .inl ⟨k2, _, hr2, by rw [hbs2]; exact h3, .inr hk2'⟩
                        · exact .inl ⟨k, _, hr, by rw [hbs]; exact List.mem_append.2 (.inr h3), .inl rfl⟩)
                    (fun _ => by
                      refine ⟨?_, ?_⟩
                      · rw [upd_val, upd_cel, List.length_set]; exact hown
                      · rw [upd_cel]
                        refine F2.set (F2.imp (fun l1 u hu ho1 => ?_) hrow.2) ?_
                        · exact own_other ho1 (fun hb1 => n3 g hgk g (List.mem_flatMap.2 ⟨u, hu, hb1⟩) rfl) _
                        · exact own_other hrow2.1 (fun hb1 => hap g hb1 (List.mem_append.2 (.inl hgk))) _)
                  exact h.heapStep (fun _ => true) (ne k) (below_setRow hB _) hh hkp (Nat.le_refl _) (fun j hj _ => hok j hj) hsk
      case h_3 e l hr =>
        -- a variable
        obtain ⟨hoff, g, hb, rfl⟩ := hx.2 _ hr
        have hrow := h.heap.row k _ hr
        obtain ⟨g', hv1, hB, hg, hcells⟩ := hrow
        rw [hv1] at hb
        simp [blk] at hb
        subst hb
        have hlen := VReps.length hcells
        have gen : ∀ {l2 : List AVal} {us : List Value}, VRs w ob st η l2 us → v.cells = us.toArray → us.length = ti.size → (∀ u, u ∈ us → u.oneCell' = true) → off + us.length ≤ l.length →
            SRep w0 ob (st.upd k (.cells e (l.take off ++ l2 ++ l.drop (off + us.length)))) a (w.setRow g' ((η.cel k).take off ++ us ++ (η.cel k).drop (off + us.length)).toArray) (η.upd k (η.val k) ((η.cel k).take off ++ us ++ (η.cel k).drop (off + us.length))) ∧
              (Instr.storeAt t (.pointer (some ⟨g', off, none⟩)) v).run P w = .ok () (w.setRow g' ((η.cel k).take off ++ us ++ (η.cel k).drop (off + us.length)).toArray) := by
          intro l2 us h2 hvc hul h1 hle
          have hnew := ((hcells.take off).append h2).append (hcells.drop (off + us.length))
          refine ⟨?_, ?_⟩
          · have hbs : bsOf η k (.cells e l) = [g'] := by simp [bsOf, ARow.kind, hv1, blk]
            have hbs' : ∀ cs l', bsOf (η.upd k (η.val k) cs) k (.cells e l') = [g'] := fun cs l' => by simp [bsOf, ARow.kind, upd_val, hv1, blk]
            refine h.upd (cs' := (η.cel k).take off ++ us ++ (η.cel k).drop (off + us.length)) hr rfl (by simp; omega) (by simp [ARow.kind]) (fun b _ hn => ?_) (below_setRow hB _) (by rw [hbs']; simp) (by rw [hbs, hbs']; simp) (fun hkp hok hsk => ?_)
            · rw [hbs] at hn
              exact setRow_other w g' b _ (by simpa using hn)
            · refine ⟨g', by rw [upd_val]; exact hv1, hB, by rw [upd_cel]; exact setRow_same hg, ?_⟩
              rw [upd_cel]
              exact VReps.frame hkp (Nat.le_refl _) hok hsk hnew
          · have := run_storeAt (P := P) (w := w) ht hvc hul h1 (g := g') (o := off) hg (by simp; omega)
            simpa using this
        split at hk
        case h_1 l' =>
          split at hk
          case h_2 => exact hk.elim
          case h_1 hll =>
            split at hk
            case h_2 => exact hk.elim
            case h_1 hle =>
             split at hk
             case h_2 => exact hk.elim
             case h_1 hones =>
              have hle' := Nat.le_of_ble_eq_true hle
              have hll' := Nat.eq_of_beq_eq_true hll
              obtain ⟨cs, rfl, hr2⟩ := hy
              have hcl := VReps.length hr2
              have h1 : ∀ u, u ∈ cs → u.oneCell' = true := ones_cell h.heap hones hr2
              obtain ⟨hs, hrun⟩ := gen hr2 rfl (by omega) h1 (by omega)
              rw [show off + cs.length = off + ti.size by omega] at hs hrun
              exact ⟨_, _, _, hk, rfl, hs, hrun⟩
        case h_2 =>
          split at hk
          case h_2 => exact hk.elim
          case h_1 hone =>
            split at hk
            case h_2 => exact hk.elim
            case h_1 hsz =>
              obtain ⟨h1, h2⟩ := one_cell h.heap hone hy
              have hoff' : off < l.length := by omega
              obtain ⟨hs, hrun⟩ := gen (l2 := [y]) (us := [v]) ⟨hy, trivial⟩ h2 (by rw [hsz]; rfl) (by simp [h1]) (by simp; omega)
              have hset : l.take off ++ [y] ++ l.drop (off + [v].length) = l.set off y := by
                rw [List.set_eq_take_append_cons_drop, if_pos hoff']
                simp
              rw [hset] at hs
              exact ⟨_, _, _, hk, rfl, hs, hrun⟩
    case h_2 k i j =>
      simp only [VR, VRep] at hx
      split at hk
      case h_2 => exact hk.elim
      case h_1 e e1 m hr =>
        split at hk
        case h_2 => exact hk.elim
        case h_1 n =>
          split at hk
          case h_2 => exact hk.elim
          case h_1 hsz =>
            obtain ⟨_, g, n', c, hcel, hj, rfl⟩ := hx.2 _ hr
            obtain ⟨rfl, _⟩ := hy
            have hrow := h.heap.row k _ hr
            obtain ⟨l, hl, ho⟩ := F2.at' hrow.2 hcel
            rw [getD_of hl] at hk
            have hn' : n' = l.length := by
              rcases ho.2 with ⟨h1, _⟩ | ⟨_, _, _, h1, _⟩ <;> simp at h1
              omega
            obtain ⟨cur, hg, ho2, hB, hown⟩ := own_set ho (g := g) rfl (o := j) (by omega) (.int .i64 n)
            refine ⟨_, _, η.upd k (η.val k) (η.cel k), hk, rfl, ?_, run_storeAt ht (us := [.int .i64 n]) rfl (by rw [hsz]; rfl) (by simp [Value.oneCell']) hg ho2⟩
            have hbs : bsOf η k (.rows e e1 true m) = blk (η.val k) ++ (η.cel k).flatMap blk := by simp [bsOf, ARow.kind]
            have hbs' : bsOf (η.upd k (η.val k) (η.cel k)) k (.rows e e1 true (m.set i (l.set j n))) = blk (η.val k) ++ (η.cel k).flatMap blk := by simp [bsOf, ARow.kind, upd_val, upd_cel]
            have hnd := h.heap.nodup k _ hr
            rw [hbs] at hnd
            obtain ⟨n1, n2, n3⟩ := List.nodup_append.1 hnd
            have hgm : g ∈ (η.cel k).flatMap blk := List.mem_flatMap.2 ⟨_, List.mem_of_getElem? hcel, by simp [blk]⟩
            refine h.upd (cs' := η.cel k) hr rfl (Nat.le_refl _) (fun _ _ _ h => h) (fun b _ hn => ?_) (below_setRow hB _) (by rw [hbs']; exact hnd) (by rw [hbs, hbs']; exact fun b h => h) (fun _ _ _ => ?_)
            · rw [hbs] at hn
              exact setRow_other w g b _ (fun e => hn (e ▸ List.mem_append.2 (.inr hgm)))
            · refine ⟨?_, ?_⟩
              · rw [upd_val, upd_cel, List.length_set]
                exact own_other hrow.1 (fun hb => n3 g hb g hgm rfl) _
              · rw [upd_cel]
                refine F2.intro (by simpa using F2.length hrow.2) (fun p l1 u h1 h2 => ?_)
                by_cases hp : i = p
                · subst hp
                  rw [hcel] at h2
                  obtain rfl := Option.some.inj h2
                  rw [List.getElem?_set_self (by have := (List.getElem?_eq_some_iff.1 hl).1; omega)] at h1
                  obtain rfl := Option.some.inj h1
                  simp only [OwnInts, List.length_set, List.map_set]
                  exact hown
                · rw [List.getElem?_set_ne hp] at h1
                  obtain ⟨u', hu', ho'⟩ := F2.at hrow.2 h1
                  rw [h2] at hu'
                  obtain rfl := Option.some.inj hu'
                  exact own_other ho' (fun hb => flat_apart n2 h2 hcel (Ne.symm hp) g hb (by simp [blk])) _
end
end Go.Aw
