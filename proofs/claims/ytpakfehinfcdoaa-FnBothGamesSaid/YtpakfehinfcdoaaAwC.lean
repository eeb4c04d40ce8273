/- Rows of the call's own, cut. -/
import Derived.Test.YtpakfehinfcdoaaAwG
namespace Go.Aw
open Go.RowKit

section
variable {P : Program} {Γ : Tys} {w0 : Base} {w w' : World} {ob : Nat → Prop} {st : St} {a : Act} {η : Env} {B : Nat}

theorem ownsRow_take {e n h cap : Nat} {ba : Option Addr} {xs : List Value} (ho : w.ownsRow B e 1 (.slice ba n cap) n xs) (hh : h ≤ n) :
    w.ownsRow B e 1 (.slice (if cap = 0 then ba else ba.map (·.add 0)) (h - 0) (cap - 0)) h (xs.take h) := by
  have hl := ho.1
  refine ⟨by rw [List.length_take]; omega, ?_⟩
  rcases ho.2 with ⟨hv, h0⟩ | ⟨g, cap', cur, hv, hg, hhp, hnc, hcm, hcs, htk⟩
  · cases hv
    exact .inl ⟨by simp; omega, by omega⟩
  · cases hv
    refine .inr ⟨g, cap, cur, ?_, hg, hhp, by omega, hcm, hcs, ?_⟩
    · by_cases hc : cap = 0
      · simp [hc]
      · simp [hc, Addr.add_lit]
    · rw [← htk]
      simp only [Nat.mul_one]
      rw [List.take_take, Nat.min_eq_left hh]

theorem SRows.drop {bad : Nat → Prop} {m : List (List Int)} {ba : Option Addr} {n c i : Nat} (h : SRows w bad m (.slice ba n c)) (hi : i ≤ m.length) :
    SRows w bad (m.drop i) (.slice (if c = i then ba else ba.map (·.add i)) (n - i) (c - i)) := by
  obtain ⟨a', c', hv, h1, h2, h3⟩ := h
  simp only [Value.slice.injEq] at hv
  obtain ⟨rfl, rfl, rfl⟩ := hv
  have hl : (m.drop i).length = m.length - i := by simp
  refine ⟨_, c - i, by rw [hl], by rw [hl]; omega, by omega, fun j l hj => ?_⟩
  rw [List.getElem?_drop] at hj
  have hlt := (List.getElem?_eq_some_iff.1 hj).1
  obtain ⟨b, o, u, rfl, hb, hc, hs⟩ := h3 (i + j) l hj
  refine ⟨b, o + i, u, ?_, hb, by rw [Nat.add_assoc]; exact hc, hs⟩
  rw [if_neg (by omega)]
  simp [Addr.add_lit]

theorem own_intsB {e : Nat} {k : IntKind} {l : List Int} {v : Value} {bad : Nat → Prop} (h : OwnInts w B e k l v) (hb : ∀ b, b ∈ blk v → ¬ bad b) : SInts w bad k l v := by
  obtain ⟨a, c, hv, h1, h2, h3⟩ := own_ints h
  refine ⟨a, c, hv, h1, h2, fun i x hi => ?_⟩
  obtain ⟨b, o, ha, _, hc⟩ := h3 i x hi
  exact ⟨b, o, ha, hb b (by rw [hv, ha]; simp [blk]), hc⟩

theorem own_rowsB {e : Nat} {m : List (List Int)} {cs : List Value} {v : Value} {bad : Nat → Prop} (h : w.ownsRow B e 1 v m.length cs) (hF : F2 (SInts w bad .i64) m cs) (hb : ∀ b, b ∈ blk v → ¬ bad b) : SRows w bad m v := by
  rcases h.2 with ⟨hv, h0⟩ | ⟨g, cap, cur, hv, hg, hh, hnc, hcm, r⟩
  · have : m = [] := List.eq_nil_of_length_eq_zero h0
    subst this
    exact ⟨none, 0, by simpa using hv, by simp, by unfold maxLen; omega, fun i x hi => by simp at hi⟩
  · refine ⟨some ⟨g, 0, none⟩, cap, hv, hnc, hcm, fun i x hi => ?_⟩
    obtain ⟨u, hu, hs⟩ := F2.at hF hi
    refine ⟨g, 0, u, rfl, hb g (by rw [hv]; simp [blk]), ?_, hs⟩
    rw [Nat.zero_add]
    exact own_ptr h (by rw [hv]; rfl) hu

/-- a row is given up -/
theorem SRep.giveUp (h : SRep w0 ob st a w η) (k : Nat) : SRep w0 ob (st.del k) a w η := by
  have hs : ∀ j r, look (rem k st.hp) j = some r → look st.hp j = some r := fun j r hj => by
    by_cases e : j = k
    · subst e; rw [look_rem] at hj; cases hj
    · rwa [look_rem_ne _ _ _ e] at hj
  obtain ⟨hh, hk⟩ := h.heap.forget (hp' := rem k st.hp) (nx' := st.nx) hs (fun j r hj => h.heap.lt j r (hs j r hj)) (Nat.le_refl _)
  refine ⟨h.defers, h.size, h.below, h.base, h.frame, fun b ⟨j, r, hj, hm⟩ => h.src b ⟨j, r, hs j r hj, hm⟩, hh, fun i x hi => ?_⟩
  exact VRep.frame hk (Nat.le_refl _) (fun j _ => OwnOk.of (fun r' hr' => ⟨r', hs j r' hr', rfl⟩) rfl rfl) (fun j _ => SubOk.of (fun r' hr' => ⟨r', hs j r' hr', rfl⟩) rfl) (h.slot i x hi)

theorem acut_sound (hΓ : TysOk P Γ) (h : SRep w0 ob st a w η) {o : Oper} {t k : Nat} {lo hi : Option Operand} (hc : cutOf st o = some (t, k, lo, hi)) {K : AVal → St → Prop} (hk : acut Γ st t k lo hi K) :
    ∃ v x st' η', K x st' ∧ st'.sz = st.sz ∧ SRep w0 ob st' a w η' ∧ VR w ob st' η' x v ∧ (execOp a.eval o).run P w = .ok (.value v) w := by
  obtain ⟨dst, op, type, pos, after, guard⟩ := o
  unfold cutOf at hc
  simp only at hc
  split at hc
  case h_2 => cases hc
  case h_1 t0 x lo0 hi0 =>
    split at hc
    case h_2 => cases hc
    case h_1 k0 hx =>
      simp only [Option.some.injEq, Prod.mk.injEq] at hc
      obtain ⟨rfl, rfl, rfl, rfl⟩ := hc
      have hv := ev_sound h hx
      unfold acut at hk
      split at hk
      case h_2 => exact hk.elim
      case h_1 e q1 q2 q3 hti =>
      have ht := (hΓ.at hti).desc
      simp only [TD.is] at ht
      split at hk
      case h_2 => exact hk.elim
      case h_1 d1 d2 d3 hei =>
      have hte := hΓ.at hei
      split at hk
      case h_1 =>
        split at hk
        case h_2 => exact hk.elim
        case h_1 y =>
        split at hk
        case h_2 => exact hk.elim
        case h_1 kk n hy =>
        split at hk
        case h_2 => exact hk.elim
        case h_1 e0 kd l hr =>
        obtain ⟨j, rfl, hj, hK⟩ := hk
        obtain ⟨hlt, hown⟩ := hv
        obtain ⟨_, hval⟩ := hown _ hr
        have hrow := h.heap.row k0 _ hr
        obtain ⟨ba, cp, hsl⟩ := len_own hrow.1
        have hnc : l.length ≤ cp := by
          rcases hrow.1.2 with ⟨h1, h2⟩ | ⟨g, cap, cur, h1, _, _, h2, _⟩
          · rw [hsl] at h1; simp only [Value.slice.injEq] at h1; omega
          · rw [hsl] at h1; simp only [Value.slice.injEq] at h1; omega
        have hown2 : w.ownsRow w0.B e0 1 (.slice (if cp = 0 then ba else ba.map (·.add 0)) (j - 0) (cp - 0)) j ((l.map (Value.int kd)).take j) := by
          have := hrow.1
          simp only [OwnInts] at this
          rw [hsl] at this
          exact ownsRow_take this hj
        generalize hv' : Value.slice (if cp = 0 then ba else ba.map (·.add 0)) (j - 0) (cp - 0) = v' at hown2
        have hblk : ∀ b, b ∈ blk v' → b ∈ blk (η.val k0) := fun b hb => by
          rw [← hv', hsl] at *
          cases ba with
          | none => by_cases h0 : cp = 0 <;> simp [h0, blk] at hb
          | some ad =>
            by_cases h0 : cp = 0
            · simpa [h0, blk] using hb
            · have : (ad.add 0) = ad := by cases ad; simp [Addr.add]
              simpa [h0, blk, this] using hb
        have hnd : (blk v').Nodup := by
          rw [← hv']; unfold blk; split <;> simp
        have hbs : bsOf η k0 (.ints e0 kd l) = blk (η.val k0) := by simp [bsOf, ARow.kind]
        have hbs' : bsOf (η.upd k0 v' ((l.take j).map (Value.int kd))) k0 (.ints e0 kd (l.take j)) = blk v' := by simp [bsOf, ARow.kind, upd_val]
        have hs := h.app (w' := w) (r' := .ints e0 kd (l.take j)) (v' := v') (cs' := (l.take j).map (Value.int kd)) (hp1 := st.hp) hr (fun _ _ _ h => h) (fun _ _ _ => rfl) (Below.refl _ _) (by rw [hbs']; exact hnd)
          (fun b hb => by
            rw [hbs'] at hb
            exact .inl ⟨k0, _, hr, by rw [hbs]; exact hblk b hb, .inl rfl⟩)
          (fun _ => ⟨by
            rw [upd_val]
            simp only [OwnInts, List.length_take, Nat.min_eq_left hj, List.map_take]
            exact hown2, upd_cel _ _ _ _⟩)
        refine ⟨v', .own k0, _, _, hK, rfl, hs, ⟨hlt, fun r hr' => ?_⟩, ?_⟩
        · simp only [St.upd, St.kill] at hr'
          rw [look_upd, if_pos rfl] at hr'
          obtain rfl := Option.some.inj hr'
          exact ⟨by simp [ARow.kind], (upd_val _ _ _ _).symm⟩
        · obtain ⟨hyv, _⟩ := ev_sound h hy
          simp only [execOp, hval, hsl, hyv, Option.map_none, Option.map_some]
          rw [Sem.run_bind, run_slice ht hte rfl (.inr (.inl ⟨rfl, rfl⟩)) (.inr ⟨_, rfl⟩) (Nat.zero_le _) hj hnc w, hv']
          simp
      case h_2 xl =>
        split at hk
        case h_2 => exact hk.elim
        case h_1 =>
        split at hk
        case h_2 => exact hk.elim
        case h_1 kk n hy =>
        split at hk
        case h_2 => exact hk.elim
        case h_1 e0 e1 m hr =>
        obtain ⟨j, rfl, hj, hK⟩ := hk
        obtain ⟨hlt, hown⟩ := hv
        obtain ⟨_, hval⟩ := hown _ hr
        have hrow := h.heap.row k0 _ hr
        obtain ⟨ba, cp, hsl⟩ := len_own hrow.1
        have hnc : m.length ≤ cp := by
          rcases hrow.1.2 with ⟨h1, h2⟩ | ⟨g, cap, cur, h1, _, _, h2, _⟩
          · rw [hsl] at h1; simp only [Value.slice.injEq] at h1; omega
          · rw [hsl] at h1; simp only [Value.slice.injEq] at h1; omega
        have hs := h.giveUp k0
        have hgone : ∀ b, b ∈ bsOf η k0 (.rows e0 e1 true m) → ¬ badOf ob (st.del k0).hp η b := fun b hb => by
          rintro (h1 | ⟨j', r', hj', hm⟩)
          · exact h.free ⟨k0, _, hr, hb⟩ h1
          · simp only [St.del] at hj'
            by_cases e : j' = k0
            · subst e; rw [look_rem] at hj'; cases hj'
            · rw [look_rem_ne _ _ _ e] at hj'
              exact h.heap.apart j' r' k0 _ hj' hr e b hm hb
        have hbs : bsOf η k0 (.rows e0 e1 true m) = blk (η.val k0) ++ (η.cel k0).flatMap blk := by simp [bsOf, ARow.kind]
        have hS : SRows w (badOf ob (st.del k0).hp η) m (η.val k0) := own_rowsB hrow.1
          (F2.imp (fun l u hu ho => own_intsB ho (fun b hb => hgone b (by rw [hbs]; exact List.mem_append.2 (.inr (List.mem_flatMap.2 ⟨u, hu, hb⟩))))) hrow.2)
          (fun b hb => hgone b (by rw [hbs]; exact List.mem_append.2 (.inl hb)))
        rw [hsl] at hS
        refine ⟨_, .t (.rows (m.drop j)), _, η, hK, rfl, hs, hS.drop hj, ?_⟩
        obtain ⟨hyv, _⟩ := ev_sound h hy
        simp only [execOp, hval, hsl, hyv, Option.map_none, Option.map_some]
        rw [Sem.run_bind, run_slice ht hte rfl (.inr (.inr ⟨_, rfl⟩)) (.inl ⟨rfl, rfl⟩) hj (Nat.le_refl _) hnc w]
        simp
end
end Go.Aw
