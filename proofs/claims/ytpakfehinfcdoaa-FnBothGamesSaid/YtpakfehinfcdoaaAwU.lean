/- 'x[i] = append(x[i], ..)' on rows of the call's own. -/
import Derived.Test.YtpakfehinfcdoaaAwT
namespace Go.Aw
open Go.RowKit

theorem F2.set' {α β : Type} {R R' : α → β → Prop} : ∀ {l : List α} {r : List β}, F2 R l r → ∀ {i : Nat} {a : α} {b : β}, (∀ (j : Nat) (x : α) (y : β), j ≠ i → l[j]? = some x → r[j]? = some y → R x y → R' x y) → R' a b → F2 R' (l.set i a) (r.set i b)
  | [], [], _, _, _, _, _, _ => by simp [F2]
  | x :: l, y :: r, h, 0, _, _, hj, hab => ⟨hab, F2.intro (F2.length h.2) (fun j u v hu hv => by
      obtain ⟨v', hv', h'⟩ := F2.at h.2 hu
      rw [hv] at hv'; obtain rfl := Option.some.inj hv'
      exact hj (j + 1) u v (by omega) (by simpa using hu) (by simpa using hv) h')⟩
  | x :: l, y :: r, h, i + 1, _, _, hj, hab => ⟨hj 0 x y (by omega) rfl rfl h.1, F2.set' h.2 (fun j u v hne hu hv => hj (j + 1) u v (by omega) (by simpa using hu) (by simpa using hv)) hab⟩
  | [], _ :: _, h, _, _, _, _, _ => h.elim
  | _ :: _, [], h, _, _, _, _, _ => h.elim

theorem flat_set2 : ∀ {xs : List Value} {v old : Value} (i : Nat), xs[i]? = some old → (xs.flatMap blk).Nodup → (blk v).Nodup → (∀ b, b ∈ blk v → b ∈ blk old ∨ b ∉ xs.flatMap blk) →
    ((xs.set i v).flatMap blk).Nodup ∧ (∀ b, b ∈ (xs.set i v).flatMap blk → b ∈ blk v ∨ b ∈ xs.flatMap blk)
  | [], _, _, i, h, _, _, _ => by simp at h
  | x :: xs, v, old, 0, h, hn, hv, hd => by
      simp at h; subst h
      rw [List.flatMap_cons] at hn hd
      obtain ⟨n1, n2, n3⟩ := List.nodup_append.1 hn
      rw [List.set_cons_zero, List.flatMap_cons, List.flatMap_cons]
      refine ⟨List.nodup_append.2 ⟨hv, n2, fun a ha b hb e => ?_⟩, fun b hb => ?_⟩
      · subst e
        rcases hd a ha with h1 | h1
        · exact n3 a h1 a hb rfl
        · exact h1 (List.mem_append.2 (.inr hb))
      · rcases List.mem_append.1 hb with h1 | h1
        · exact .inl h1
        · exact .inr (List.mem_append.2 (.inr h1))
  | x :: xs, v, old, i + 1, h, hn, hv, hd => by
      simp at h
      rw [List.flatMap_cons] at hn hd
      obtain ⟨n1, n2, n3⟩ := List.nodup_append.1 hn
      have hold : ∀ b, b ∈ blk old → b ∈ xs.flatMap blk := fun b hb => List.mem_flatMap.2 ⟨old, List.mem_of_getElem? h, hb⟩
      obtain ⟨f1, f2⟩ := flat_set2 i h n2 hv (fun b hb => (hd b hb).imp id (fun h1 h2 => h1 (List.mem_append.2 (.inr h2))))
      rw [List.set_cons_succ, List.flatMap_cons, List.flatMap_cons]
      refine ⟨List.nodup_append.2 ⟨n1, f1, fun a ha b hb e => ?_⟩, fun b hb => ?_⟩
      · subst e
        rcases f2 a hb with h1 | h1
        · rcases hd a h1 with h2 | h2
          · exact n3 a ha a (hold a h2) rfl
          · exact h2 (List.mem_append.2 (.inl ha))
        · exact n3 a ha a h1 rfl
      · rcases List.mem_append.1 hb with h1 | h1
        · exact .inr (List.mem_append.2 (.inl h1))
        · exact (f2 b h1).imp id (fun h2 => List.mem_append.2 (.inr h2))

def aset (Γ : Tys) (st : St) (e t : Nat) (u v x c : Operand) (d1 d2 : Nat) (K : St → Prop) : Prop :=
  match look Γ t with
  | some ⟨.slice e', _, _, _⟩ => match look Γ e' with
    | some ⟨.slice _, 1, _, _⟩ => match look Γ e with
      | some ⟨.slice ei, _, _, _⟩ => match look Γ ei with
        | some ⟨_, 1, by_, [_]⟩ => match Nat.ble by_ 64 with
          | true => match ev st u with
            | some (.sub k i) => match ev st v with
              | some (.own k2) => match ev (st.put d1 .un) x with
                | some (.own k') => match ev (st.put d1 .un) c with
                  | some (.c (.int _ n)) => match look st.hp k with
                    | some (.rows e0 e1 true m) => match look st.hp k2 with
                      | some (.ints _ .i64 l2) => match Nat.beq k k' && Nat.beq e1 ei && Nat.blt d1 st.sz && Nat.blt d2 st.sz with
                        | true => n = (i : Int) ∧ i < m.length ∧ (m.getD i []).length + l2.length ≤ room ∧
                            K ((((st.put d1 .un).put d2 .un).killSub k).upd k (.rows e0 e1 true (m.set i (m.getD i [] ++ l2))))
                        | false => False
                      | _ => False
                    | _ => False
                  | _ => False
                | _ => False
              | _ => False
            | _ => False
          | false => False
        | _ => False
      | _ => False
    | _ => False
  | _ => False

section
variable {P : Program} {Γ : Tys} {w0 : Base} {w w' : World} {ob : Nat → Prop} {st : St} {a : Act} {η : Env}

theorem eval_put {d i : Nat} {v : Value} (hd : d < a.tmps.size) : (a.put (some d) v).eval (.tmp i) = if d = i then v else a.eval (.tmp i) := getD_put hd

theorem aset_sound (hΓ : TysOk P Γ) (h : SRep w0 ob st a w η) {e t e' d1 d2 : Nat} {u v x c : Operand} {K : St → Prop} (hd : d1 ≠ d2) {s1 s2 : Nat} {s3 : List Value} (ht' : look Γ t = some ⟨.slice e', s1, s2, s3⟩)
    {o1 o2 o3 : Oper} (h1 : o1.op = .call ⟨.builtin .append, #[u, v], #[e, e]⟩) (h1d : o1.dst = some d1) (h1g : o1.guard = none)
    (h2 : o2.op = .indexAddr t x c) (h2d : o2.dst = some d2) (h2g : o2.guard = none) (h3 : o3.op = .store e' (.tmp d2) (.tmp d1)) (h3d : o3.dst = none) (h3g : o3.guard = none)
    (hk : aset Γ st e t u v x c d1 d2 K) {opsA : Array Oper} {Q : Exit → Act → World → Prop} (hQ : ∀ st' a' w' η', K st' → SRep w0 ob st' a' w' η' → Q .normal a' w') : wpList P opsA Q [o1, o2, o3] a w := by
  unfold aset at hk
  rw [ht'] at hk
  simp only at hk
  split at hk
  case h_2 => exact hk.elim
  case h_1 q1 q2 q3 hte' =>
  split at hk
  case h_2 => exact hk.elim
  case h_1 ei q4 q5 q6 he =>
  split at hk
  case h_2 => exact hk.elim
  case h_1 q7 by_ zv hei =>
  split at hk
  case h_2 => exact hk.elim
  case h_1 hby =>
  split at hk
  case h_2 => exact hk.elim
  case h_1 k i hu =>
  split at hk
  case h_2 => exact hk.elim
  case h_1 k2 hv =>
  split at hk
  case h_2 => exact hk.elim
  case h_1 k' hx =>
  split at hk
  case h_2 => exact hk.elim
  case h_1 kk n hc =>
  split at hk
  case h_2 => exact hk.elim
  case h_1 e0 e1 m hr =>
  split at hk
  case h_2 => exact hk.elim
  case h_1 e2 l2 hr2 =>
  split at hk
  case h_2 => exact hk.elim
  case h_1 hcond =>
  simp only [Bool.and_eq_true] at hcond
  obtain ⟨⟨⟨c1, c2⟩, c3⟩, c4⟩ := hcond
  have c1 := Nat.eq_of_beq_eq_true c1
  have c2 := Nat.eq_of_beq_eq_true c2
  subst c1 c2
  have c3 : d1 < st.sz := Nat.le_of_ble_eq_true c3
  have c4 : d2 < st.sz := Nat.le_of_ble_eq_true c4
  obtain ⟨rfl, hi, hroom, hK⟩ := hk
  have hby' := Nat.le_of_ble_eq_true hby
  have tyt := (hΓ.at ht').desc
  have tye := (hΓ.at he).desc
  simp only [TD.is] at tyt tye
  have tyei := hΓ.at hei
  have tye' := hΓ.at hte'
  have hrow := h.heap.row k _ hr
  obtain ⟨hlt, hsub⟩ := (ev_sound h hu : VR w ob st η (.sub k i) (a.eval u))
  obtain ⟨_, hcel⟩ := hsub _ hr
  obtain ⟨li, hli, howni⟩ := F2.at' hrow.2 hcel
  have hli' : li = m.getD i [] := by simp [List.getD, hli]
  subst hli'
  obtain ⟨_, hown2⟩ := (ev_sound h hv : VR w ob st η (.own k2) (a.eval v))
  obtain ⟨_, hv2⟩ := hown2 _ hr2
  have hsrc : Src w (a.eval v) l2.length (l2.map (Value.int .i64)) := by rw [hv2]; exact Src.own (h.heap.row k2 _ hr2).1
  obtain ⟨v', w', hrun, hown', hfr, hsz, hsame, hB, hnd'⟩ := run_append_fresh (ty := o1.type) tye tyei rfl hby' rfl howni hsrc (fun y hy => by obtain ⟨_, _, rfl⟩ := List.mem_map.1 hy; rfl) hroom (wB h)
  have hs1 : SRep w0 ob (st.put d1 .un) (a.put (some d1) v') w η := h.put c3 (x := .un) trivial
  have hsz1 : d1 < a.tmps.size := by rw [h.size]; exact c3
  obtain ⟨_, hownx⟩ := (ev_sound hs1 hx : VR w ob (st.put d1 .un) η (.own k) _)
  obtain ⟨_, hxv⟩ := hownx _ hr
  obtain ⟨hcv, _⟩ := (ev_sound hs1 hc : VR w ob (st.put d1 .un) η (.c (.int kk i)) _)
  obtain ⟨ba, cp, hval⟩ := len_own hrow.1
  have hlen := F2.length hrow.2
  obtain ⟨g, rfl, hg0⟩ : ∃ g, ba = some ⟨g, 0, none⟩ ∧ True := by
    rcases hrow.1.2 with ⟨h0, h0'⟩ | ⟨g, cap, cur, h0, _⟩
    · omega
    · rw [hval] at h0; cases h0; exact ⟨g, rfl, trivial⟩
  have hbk : blk (η.val k) = [g] := by rw [hval]; rfl
  have hbs : bsOf η k (.rows e0 e1 true m) = blk (η.val k) ++ (η.cel k).flatMap blk := by simp [bsOf, ARow.kind]
  have hnod := h.heap.nodup k _ hr
  rw [hbs, hbk] at hnod
  obtain ⟨n1, n2, n3⟩ := List.nodup_append.1 hnod
  have hsubm : ∀ b, b ∈ blk (a.eval u) → b ∈ (η.cel k).flatMap blk := fun b hb => List.mem_flatMap.2 ⟨_, List.mem_of_getElem? hcel, hb⟩
  have hgu : g ∉ blk (a.eval u) := fun hb => n3 g (by simp) g (hsubm g hb) rfl
  have hblt : ∀ b, b ∈ bsOf η k (.rows e0 e1 true m) → b < w.heap.size := fun b hb => (RowRep.lt hrow b hb).2
  have hg : g < w.heap.size := hblt g (by rw [hbs, hbk]; simp)
  have hown1 : w'.ownsRow w0.B e0 1 (η.val k) m.length (η.cel k) := ownsRow_same hrow.1 (fun b hb => by
    rw [hbk] at hb; obtain rfl := List.mem_singleton.1 hb
    exact hsame b hg hgu)
  obtain ⟨cur, hg1, ho, hBg, hown3⟩ := own_set hown1 hbk hi v'
  obtain ⟨vb, vc, hvv⟩ := len_own hown'
  have hcellv : v'.cells = [v'].toArray ∧ v'.oneCell' = true := by rw [hvv]; exact ⟨rfl, rfl⟩
  have hst := run_storeAt (P := P) tye' (us := [v']) hcellv.1 rfl (by simp [hcellv.2]) hg1 ho
  let p : Value := .pointer (some ⟨g, 0 + i, none⟩)
  have hs2 : SRep w0 ob ((st.put d1 .un).put d2 .un) ((a.put (some d1) v').put (some d2) p) w η := hs1.put c4 (x := .un) trivial
  have hsz2 : d2 < (a.put (some d1) v').tmps.size := by rw [hs1.size]; exact c4
  let w2 := w'.setRow g (cur.toList.take i ++ [v'] ++ cur.toList.drop (i + 1)).toArray
  have hB2 : Below w0.B w w2 := hB.trans (below_setRow hBg _)
  have hfresh : ∀ b, b ∈ blk v' → b ∈ blk (a.eval u) ∨ b ∉ (η.cel k).flatMap blk := fun b hb => (hfr b hb).imp id (fun e hm => by
    have := hblt b (by rw [hbs]; exact List.mem_append.2 (.inr hm)); omega)
  obtain ⟨f1, f2⟩ := flat_set2 i hcel n2 hnd' hfresh
  have hgv : g ∉ blk v' := fun hb => by
    rcases hfr g hb with h1 | h1
    · exact hgu h1
    · omega
  have hbs' : bsOf (η.upd k (η.val k) ((η.cel k).set i v')) k (.rows e0 e1 true (m.set i (m.getD i [] ++ l2))) = blk (η.val k) ++ ((η.cel k).set i v').flatMap blk := by simp [bsOf, ARow.kind, upd_val, upd_cel]
  have hfin := SRep.mutT (w' := w2) (r' := .rows e0 e1 true (m.set i (m.getD i [] ++ l2))) (cs' := (η.cel k).set i v') hs2 hr rfl (by simp)
    (fun b hb hn => by
      rw [hbs, hbk] at hn
      have e1 : b ≠ g := fun e => hn (by rw [e]; simp)
      show (w'.setRow g _).heap[b]? = _
      rw [setRow_other w' g b _ e1]
      exact hsame b hb (fun hm => hn (List.mem_append.2 (.inr (hsubm b hm))))) hB2
    (by
      rw [hbs', hbk]
      refine List.nodup_append.2 ⟨n1, f1, fun b hb1 b' hb' e => ?_⟩
      subst e
      obtain rfl := List.mem_singleton.1 hb1
      rcases f2 b hb' with h2 | h2
      · exact hgv h2
      · exact n3 b (by simp) b h2 rfl)
    (fun b hb => by
      rw [hbs'] at hb
      rcases List.mem_append.1 hb with h2 | h2
      · exact .inl (by rw [hbs]; exact List.mem_append.2 (.inl h2))
      · rcases f2 b h2 with h3 | h3
        · rcases hfr b h3 with h4 | h4
          · exact .inl (by rw [hbs]; exact List.mem_append.2 (.inr (hsubm b h4)))
          · exact .inr (by omega)
        · exact .inl (by rw [hbs]; exact List.mem_append.2 (.inr h3)))
    (by
      refine ⟨?_, ?_⟩
      · rw [upd_val, upd_cel, List.length_set]; exact hown3
      · rw [upd_cel]
        refine F2.set' hrow.2 (fun j l1 y hne hl1 hy ho1 => ?_) ?_
        · have hap := flat_apart n2 hy hcel hne
          refine own_other (ownsRow_same ho1 (fun b hb => ?_)) (fun hb => n3 g (by simp) g (List.mem_flatMap.2 ⟨y, List.mem_of_getElem? hy, hb⟩) rfl) _
          exact hsame b (hblt b (by rw [hbs]; exact List.mem_append.2 (.inr (List.mem_flatMap.2 ⟨y, List.mem_of_getElem? hy, hb⟩)))) (hap b hb)
        · refine own_other ?_ hgv _
          simp only [OwnInts, List.length_append, List.map_append]
          exact hown')
  have r1 : (execOp a.eval o1).run P w = .ok (.value v') w' := by simp [execOp, h1, resolve, invoke, builtin, hrun]
  have r2 : (execOp (a.put (some d1) v').eval o2).run P w' = .ok (.value p) w' := by
    simp only [execOp, h2, hxv, hcv, hval]
    simp [run_idx_sl tyt tye' rfl hi w', p]
  have r3 : (execOp ((a.put (some d1) v').put (some d2) p).eval o3).run P w' = .ok .skip w2 := by
    refine ANStore h3 ?_
    rw [eval_put hsz2, if_pos rfl, eval_put hsz2, if_neg (Ne.symm hd), eval_put hsz1, if_pos rfl]
    simp only [p, Nat.zero_add]
    exact hst
  unfold wpList
  rw [if_pos (by simp [Region.wanted, h1g])]
  refine .inl ?_
  unfold Oper.wp
  rw [r1, Oper.upon_value, h1d]
  unfold wpList
  rw [if_pos (by simp [Region.wanted, h2g])]
  refine .inl ?_
  unfold Oper.wp
  rw [r2, Oper.upon_value, h2d]
  unfold wpList
  rw [if_pos (by simp [Region.wanted, h3g])]
  refine .inl ?_
  unfold Oper.wp
  rw [r3, Oper.upon_skip, h3d]
  unfold wpList
  exact hQ _ _ _ _ hK hfin

theorem ASet.app (hΓ : TysOk P Γ) {ops : Array Oper} {p1 p2 p3 p4 p5 o1 o2 o3 : Oper} {e t e' d1 d2 s1 s2 : Nat} {s3 : List Value} {u v x c : Operand} {K : St → Prop}
    (hops : ops.toList = [p1, p2, p3, p4, p5, o1, o2, o3])
    (h1 : o1.op = .call ⟨.builtin .append, #[u, v], #[e, e]⟩) (h1d : o1.dst = some d1) (h1g : o1.guard = none)
    (h2 : o2.op = .indexAddr t x c) (h2d : o2.dst = some d2) (h2g : o2.guard = none) (h3 : o3.op = .store e' (.tmp d2) (.tmp d1)) (h3d : o3.dst = none) (h3g : o3.guard = none)
    (ht' : look Γ t = some ⟨.slice e', s1, s2, s3⟩) (hd : Nat.beq d1 d2 = false)
    (hk : alist P Γ ops.toList [p1, p2, p3, p4, p5] st [] (fun st1 => aset Γ st1 e t u v x c d1 d2 K)) : ASet P ops st K := by
  refine ⟨fun id w0 ob a w ⟨η, h⟩ => wp_region_list ?_⟩
  have nodec : DecOk [] a := fun d b hd => by simp [look] at hd
  have hne : d1 ≠ d2 := fun e => by rw [e, Nat.beq_refl] at hd; cases hd
  have := alist_soundR (P := P) hΓ (opsA := ops) (Q := fun e a' w' => e = .normal ∧ ∃ st', K st' ∧ StRep w0 ob st' a' w') [o1, o2, o3] (fun st1 a1 w1 η1 hk1 hs1 =>
    aset_sound hΓ hs1 hne ht' h1 h1d h1g h2 h2d h2g h3 h3d h3g hk1 (fun st' a' w' η' hK hs' => ⟨rfl, st', hK, η', hs'⟩)) [p1, p2, p3, p4, p5] st [] a w η h nodec hk
  rw [hops]
  exact this

/-- .. of which all orders come to states that an index tells -/
theorem ADraw.midI {ι : Type} {ops : Array Oper} {K : St → Prop} (mid : ι → St) (I : ι → Prop) (h : ADraw P ops st (fun st1 => ∃ i o, Seen o st1 (mid i) ∧ I i)) (hk : ∀ i, I i → K (mid i)) : ADraw P ops st K :=
  ⟨fun id w0 ob a w hr => wp_mono (h.run id w0 ob a w hr) (fun _ _ _ ⟨he, _, ⟨i, _, hv, hi⟩, ⟨_, hs⟩⟩ => ⟨he, mid i, hk i hi, _, hv.rep hs⟩)⟩
end
end Go.Aw
