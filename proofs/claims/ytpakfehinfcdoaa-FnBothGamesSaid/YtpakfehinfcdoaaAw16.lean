/- Lists of operations. -/
import Derived.Test.YtpakfehinfcdoaaAwG
import Derived.Test.YtpakfehinfcdoaaAwC
namespace Go.Aw
open Go.RowKit

section
variable {P : Program} {Γ : Tys} {w0 : Base} {w w' : World} {ob : Nat → Prop} {st : St} {a : Act} {η : Env}

theorem VReps.app {w : World} {bad : Nat → Prop} {hp : List (Nat × ARow)} {nx : Nat} : ∀ {l : List AVal} {vs : List Value} {l' : List AVal} {vs' : List Value}, VReps w bad hp nx η l vs → VReps w bad hp nx η l' vs' → VReps w bad hp nx η (l ++ l') (vs ++ vs') := VReps.append

theorem callee_run (h : SRep w0 ob st a w η) {c : Call} {g : FuncId} {args : List AVal} (hc : callee st c = some (g, args)) (hf : FOk P g) {o : Oper} (ho : o.op = .call c) :
    ∃ vs : List Value, VRs w ob st η args vs ∧ ∀ w' : World, (execOp a.eval o).run P w' = .ok (.enter g vs.toArray) w' := by
  obtain ⟨ce, ar, tys⟩ := c
  obtain ⟨al⟩ := ar
  unfold callee at hc
  simp only at hc
  split at hc
  case h_2 => cases hc
  case h_1 f =>
    split at hc
    case h_2 => cases hc
    case h_1 g' caps hev =>
      split at hc
      case h_2 => cases hc
      case h_1 l hl =>
        simp only [Option.some.injEq, Prod.mk.injEq] at hc
        obtain ⟨rfl, rfl⟩ := hc
        obtain ⟨cs, he, hr⟩ := ev_sound h hev
        have hl' := evs_sound h hl
        obtain ⟨fn, h1, h2, h3⟩ := hf.ok
        refine ⟨_, hl'.append hr, fun w' => ?_⟩
        have h3' : fn.body ≠ none := by intro e; rw [e] at h3; cases h3
        have h2' : fn.name ≠ "runtime.NumGoroutine" := by simpa using h2
        simp [execOp, ho, resolve, Deferred.ofValue, he, invoke, callFunc, h1, h2', h3']

/-- what comes back is taken in -/
theorem acallR_core (h : SRep w0 ob st a w η) {f : FuncId} {args cargs : List AVal} (hcl : closeArgs st.hp args = some cargs) {K : AVal → St → Prop}
    (hk : match hasOwns args with
      | true => ACall P f cargs fun x h => match noSh x && rowsOwn h with
        | true => K (x.shift st.nx) (st.add h)
        | false => False
      | false => ACall P f cargs fun x h => K (x.shift st.nx) (st.add h)) {vs : List Value} (hvs : VRs w ob st η args vs) :
    Calls P f vs.toArray w fun e w' => ∃ v x st' η', e = .returned v ∧ K x st' ∧ st'.sz = st.sz ∧ Below w.heap.size w w' ∧ SRep w0 ob st' a w' η' ∧ VR w' ob st' η' x v := by
  have enter : ∀ {bad : Nat → Prop} {K' : AVal → List (Nat × ARow) → Prop} {Q : Ending → World → Prop}, ACall P f cargs K' → (∀ b, bad b → b < w.heap.size) → (∀ vs, VRs w ob st η args vs → VReps w bad [] 0 η0 cargs vs) →
      (∀ x hr, K' x hr → ∀ v w' ηh, Below w.heap.size w w' → HRep w' w.heap.size bad hr hr.length ηh → VRep w' (fun b => bad b ∨ ownB hr ηh b) hr hr.length ηh x v → Q (.returned v) w') → Calls P f vs.toArray w Q := by
    intro bad K' Q hc hbl hargs hcont
    obtain ⟨post, ⟨hf, hs⟩, hpost⟩ := hc.run
    refine (hs w bad vs hbl (hargs vs hvs)).mono ?_
    rintro e w' ⟨v, x, hr, ηh, rfl, hp, hb, hh, hv⟩
    exact hcont x hr (hpost x hr hp) v w' ηh hb hh hv
  split at hk
  case h_1 hown =>
    refine enter (bad := fun _ => False) hk (fun _ h => h.elim) (fun vs hvs => closeArgs_sound h.heap hcl hvs) (fun x hr hK v w' ηh hb hh hv => ?_)
    cases hns : noSh x && rowsOwn hr with
    | false => rw [hns] at hK; exact hK.elim
    | true =>
      rw [hns] at hK
      simp only [Bool.and_eq_true] at hns
      obtain ⟨hs', hvr⟩ := h.join hb (hh.bad (ob' := badOf ob st.hp η) hns.2)
      exact ⟨v, _, _, _, rfl, hK, rfl, hb, hs', hvr x v (noSh_bad x hns.1 hv)⟩
  case h_2 hown =>
    refine enter (bad := badOf ob st.hp η) hk (fun _ hb => h.badlt hb) (fun vs hvs => ?_) (fun x hr hK v w' ηh hb hh hv => ?_)
    · exact clos_plain args hown hcl hvs
    · obtain ⟨hs', hvr⟩ := h.join hb hh
      exact ⟨v, _, _, _, rfl, hK, rfl, hb, hs', hvr x v hv⟩

theorem acallR_sound (h : SRep w0 ob st a w η) {c : Call} {K : AVal → St → Prop} (hk : acallR P st c K) {o : Oper} (ho : o.op = .call c) {next : Act → World → Prop} {Q : Exit → Act → World → Prop}
    (hn : ∀ v x st' w' η', K x st' → st'.sz = st.sz → Below w.heap.size w w' → SRep w0 ob st' a w' η' → VR w' ob st' η' x v → next (a.put o.dst v) w') : o.wp P a w next Q := by
  unfold acallR at hk
  split at hk
  case h_1 => exact hk.elim
  case h_2 f args hcal =>
    split at hk
    case h_1 => exact hk.elim
    case h_2 cargs hcl =>
      have hfok : FOk P f := by
        split at hk
        · obtain ⟨post, ⟨hf, _⟩, _⟩ := hk.run; exact hf
        · obtain ⟨post, ⟨hf, _⟩, _⟩ := hk.run; exact hf
      obtain ⟨vs, hvs, hrun⟩ := callee_run h hcal hfok ho
      unfold Oper.wp
      rw [hrun w, Oper.upon_enter]
      refine (acallR_core h hcl hk hvs).mono ?_
      rintro e w' ⟨v, x, st', η', rfl, hK, hsz, hb, hs', hv⟩
      exact hn v x st' w' η' hK hsz hb hs' hv

theorem ACallS.useK {f : FuncId} {args cargs : List AVal} {K : AVal → St → Prop} {post : AVal → List (Nat × ARow) → Prop} (hs : FSpec P f cargs post)
    (hk : ∀ x h, post x h → match hasOwns args with
      | true => match noSh x && rowsOwn h with
        | true => K (x.shift st.nx) (st.add h)
        | false => False
      | false => K (x.shift st.nx) (st.add h)) (hc : closeArgs st.hp args = some cargs) : ACallS P st f args K := by
  refine ⟨hs.1, fun w0 ob a w η h vs hvs => ?_⟩
  refine (acallR_core (K := K) h hc ?_ hvs).mono ?_
  · split
    case h_1 hown => rw [hown] at hk; exact ⟨_, hs, fun x h hp => hk x h hp⟩
    case h_2 hown => rw [hown] at hk; exact ⟨_, hs, fun x h hp => hk x h hp⟩
  · rintro e w' ⟨v, x, st', η', he, hK, hsz, _, hs', hv⟩
    exact ⟨v, x, st', η', he, hK, hsz, hs', hv⟩

/-- what comes back is taken in -/
theorem acall_sound (h : SRep w0 ob st a w η) {c : Call} {K : AVal → St → Prop} (hk : acall P st c K) {o : Oper} (ho : o.op = .call c) {next : Act → World → Prop} {Q : Exit → Act → World → Prop}
    (hn : ∀ v x st' w' η', K x st' → st'.sz = st.sz → SRep w0 ob st' a w' η' → VR w' ob st' η' x v → next (a.put o.dst v) w') : o.wp P a w next Q := by
  unfold acall at hk
  split at hk
  case h_1 => exact hk.elim
  case h_2 f args hcal =>
    obtain ⟨st1, hk, e1, e2, e3, e4⟩ := frSt_spec hk
    rw [frL_eq] at hk
    obtain ⟨vs, hvs, hrun⟩ := callee_run h hcal hk.fok ho
    unfold Oper.wp
    rw [hrun w, Oper.upon_enter]
    refine (hk.run w0 ob a w η (h.same e1 e2 e3 e4) vs (by rw [e2, e3]; exact hvs)).mono ?_
    rintro e w' ⟨v, x, st', η', rfl, hK, hsz, hs', hv⟩
    exact hn v x st' w' η' hK (hsz.trans e1) hs' hv

theorem putD_sound {st' : St} (h : SRep w0 ob st' a w' η) {o : Oper} {x : AVal} {v : Value} {K : St → Prop} (hk : putD st' o x K) (hv : VR w' ob st' η x v) : ∃ st'', K st'' ∧ SRep w0 ob st'' (a.put o.dst v) w' η ∧ st''.sz = st'.sz := by
  unfold putD at hk
  split at hk
  case h_1 hd => rw [hd]; exact ⟨_, hk, h, rfl⟩
  case h_2 d hd =>
    split at hk
    case h_2 => exact hk.elim
    case h_1 hlt =>
      rw [hd]
      exact ⟨_, hk, h.put (Nat.le_of_ble_eq_true hlt) hv, rfl⟩

/-- what is remembered of guards -/
def DecOk (dec : List (Nat × Bool)) (a : Act) : Prop := ∀ d b, look dec d = some b → a.tmps[d]? = some (.bool b)

theorem DecOk.put {dec : List (Nat × Bool)} (h : DecOk dec a) (o : Oper) (v : Value) : DecOk (decOff o dec) (a.put o.dst v) := by
  intro d b hd
  unfold decOff at hd
  cases ho : o.dst with
  | none => rw [ho] at hd; simp only [Act.put]; exact h d b hd
  | some d' =>
    rw [ho] at hd
    simp only at hd
    by_cases hdd : d = d'
    · subst hdd; rw [look_rem] at hd; cases hd
    · rw [look_rem_ne _ _ _ hdd] at hd
      have := h d b hd
      simp only [Act.put, Array.getElem?_setIfInBounds]
      rw [if_neg (Ne.symm hdd)]; exact this

theorem aguard_sound (h : SRep w0 ob st a w η) {opsA : Array Oper} {dec : List (Nat × Bool)} (hdec : DecOk dec a) {o : Oper} {yes no : List (Nat × Bool) → Prop} (hk : aguard opsA.toList st dec o yes no) :
    ∃ dec', DecOk dec' a ∧ ((Region.wanted o (yielded opsA a.tmps) = true ∧ yes dec') ∨ (Region.wanted o (yielded opsA a.tmps) = false ∧ no dec')) := by
  unfold aguard at hk
  unfold Region.wanted
  split at hk
  case h_1 hg => rw [hg]; exact ⟨dec, hdec, .inl ⟨rfl, hk⟩⟩
  case h_2 j want hg =>
    rw [hg]
    split at hk
    case h_2 => exact hk.elim
    case h_1 oj hoj =>
      rw [nth_eq] at hoj
      have hoj' : opsA[j]? = some oj := by simpa using hoj
      split at hk
      case h_2 => exact hk.elim
      case h_1 d hd =>
        have yv : ∀ b, a.tmps[d]? = some (.bool b) → yielded opsA a.tmps j = some b := fun b hb => by
          simp [yielded, hoj', hd, hb]
        split at hk
        case h_1 b hb =>
          have hy := yv b (hdec d b hb)
          simp only [hy]
          split at hk
          case h_1 => exact ⟨dec, hdec, .inl ⟨rfl, hk⟩⟩
          case h_2 => exact ⟨dec, hdec, .inl ⟨rfl, hk⟩⟩
          case h_3 h1 h2 =>
            refine ⟨dec, hdec, .inr ⟨?_, hk⟩⟩
            cases b <;> cases want <;> first | rfl | (exact (h1 rfl rfl).elim) | (exact (h2 rfl rfl).elim)
        case h_2 hnone =>
          split at hk
          case h_3 => exact hk.elim
          case h_2 hb =>
            have hv := h.tmp hb
            obtain ⟨cs, hv, hcs⟩ := hv
            have hcs : cs = [] := by cases cs with | nil => rfl | cons => exact hcs.elim
            subst hcs
            refine ⟨dec, hdec, .inr ⟨?_, hk⟩⟩
            have : yielded opsA a.tmps j = none := by
              simp only [yielded, hoj', hd, Option.bind_some]
              cases hq : a.tmps[d]? with
              | none => rfl
              | some u =>
                rw [Array.getD_eq_getD_getElem?, hq] at hv
                simp only [Option.getD_some] at hv
                subst hv; rfl
            simp only [this]
            rfl
          case h_1 b hb =>
            obtain ⟨hv, _⟩ := h.tmp hb
            have hdlt : d < a.tmps.size := by
              refine Nat.lt_of_not_le fun hge => ?_
              have : a.tmps.getD d undef = undef := by simp [Array.getD_eq_getD_getElem?, Array.getElem?_eq_none hge]
              rw [this] at hv
              simp [undef] at hv
            have hv' : a.tmps[d]? = some (.bool b) := by
              rw [Array.getD_eq_getD_getElem?, Array.getElem?_eq_getElem hdlt] at hv
              rw [Array.getElem?_eq_getElem hdlt]
              simpa using hv
            have hy := yv b hv'
            simp only [hy]
            have hdec' : DecOk ((d, b) :: dec) a := fun d' b' h' => by
              rw [look_cons] at h'
              split at h'
              · simp only [Option.some.injEq] at h'; subst_vars; exact hv'
              · exact hdec d' b' h'
            refine ⟨(d, b) :: dec, hdec', ?_⟩
            cases want <;> cases b <;> simp only at hk
            · exact .inl ⟨rfl, hk.1 trivial⟩
            · exact .inr ⟨rfl, hk.2 trivial⟩
            · exact .inr ⟨rfl, hk.2 trivial⟩
            · exact .inl ⟨rfl, hk.1 trivial⟩

theorem decOf_eval {dec : List (Nat × Bool)} (hdec : DecOk dec a) {c : Operand} {b : Bool} (h : decOf dec c = some b) : a.eval c = .bool b := by
  unfold decOf at h
  split at h
  case h_1 t =>
    have := hdec t b h
    simp [Act.eval, Array.getD_eq_getD_getElem?, this]
  case h_2 => cases h

theorem apick_sound (h : SRep w0 ob st a w η) {dec : List (Nat × Bool)} (hdec : DecOk dec a) {o : Oper} {c x y : Operand} (ho : o.op = .pick c x y) {K : AVal → Prop} (hk : apick st dec c x y K) :
    ∃ v q, K q ∧ VR w ob st η q v ∧ Yields1 P w a o v := by
  have fin : ∀ t : Bool, a.eval c = .bool t → (match ev st (if t then x else y) with | some v => K v | none => False) → ∃ v q, K q ∧ VR w ob st η q v ∧ Yields1 P w a o v := by
    intro t hc hk
    cases he : ev st (if t then x else y) with
    | none => rw [he] at hk; exact hk.elim
    | some q =>
      rw [he] at hk
      refine ⟨_, q, hk, ev_sound h he, fun w' _ => ?_⟩
      simp only [execOp, ho, hc, asBool]
      cases t <;> rfl
  unfold apick at hk
  split at hk
  case h_1 hr => exact fin true (decOf_eval hdec hr) hk
  case h_2 hr => exact fin false (decOf_eval hdec hr) hk
  case h_3 =>
    split at hk
    case h_2 => exact hk.elim
    case h_1 t ht =>
      obtain ⟨hc, _⟩ := ev_sound h ht
      cases t with
      | true => exact fin true hc (hk.1 rfl)
      | false => exact fin false hc (hk.2 rfl)

theorem isPick_op {o : Oper} {c x y : Operand} (h : isPick o = some (c, x, y)) : o.op = .pick c x y := by
  unfold isPick at h
  split at h
  case h_1 heq => simp only [Option.some.injEq, Prod.mk.injEq] at h; obtain ⟨rfl, rfl, rfl⟩ := h; exact heq
  case h_2 => cases h

theorem isCall_op {o : Oper} {c : Call} (h : isCall o = some c) : o.op = .call c := by
  unfold isCall at h
  split at h
  case h_1 heq => simp only [Option.some.injEq] at h; subst h; exact heq
  case h_2 => cases h

theorem wp_of_yields {o : Oper} {v : Value} (hy : Yields1 P w a o v) {next : Act → World → Prop} {Q : Exit → Act → World → Prop} (hn : next (a.put o.dst v) w) : o.wp P a w next Q := by
  unfold Oper.wp
  rw [hy w (Below.refl _ _), Oper.upon_value]
  exact hn

theorem undef_rep (st : St) : VR w ob st η (.tu []) undef := ⟨[], rfl, trivial⟩

theorem alist_soundR (hΓ : TysOk P Γ) {opsA : Array Oper} {Q : Exit → Act → World → Prop} {K : St → Prop} (rest : List Oper) (hQ : ∀ st a w η, K st → SRep w0 ob st a w η → wpList P opsA Q rest a w) :
    ∀ (l : List Oper) (st : St) (dec : List (Nat × Bool)) (a : Act) (w : World) (η : Env), SRep w0 ob st a w η → DecOk dec a → alist P Γ opsA.toList l st dec K → wpList P opsA Q (l ++ rest) a w
  | [], st, dec, a, w, η, h, _, hk => by rw [List.nil_append]; exact hQ st a w η hk h
  | o :: l, st, dec, a, w, η, h, hdec, hk => by
    rw [alist_cons] at hk
    obtain ⟨dec', hdec', hg⟩ := aguard_sound h hdec hk
    rw [List.cons_append]
    unfold wpList
    rcases hg with ⟨hw, hk⟩ | ⟨hw, hk⟩
    · rw [if_pos hw]
      refine .inl ?_
      split at hk
      case h_1 c x y hp =>
        obtain ⟨v, q, hq, hv, hy⟩ := apick_sound (P := P) h hdec' (isPick_op hp) hk
        obtain ⟨st2, hk2, hs2, _⟩ := putD_sound h hq hv
        exact wp_of_yields hy (alist_soundR hΓ rest hQ l st2 _ _ _ η hs2 (hdec'.put o v) hk2)
      case h_2 =>
        split at hk
        case h_1 c hc =>
          refine acall_sound h hk (isCall_op hc) (fun v x st' w' η' hK _ hs' hv => ?_)
          obtain ⟨st2, hk2, hs2, _⟩ := putD_sound hs' hK hv
          exact alist_soundR hΓ rest hQ l st2 _ _ _ η' hs2 (hdec'.put o v) hk2
        case h_2 =>
          split at hk
          case h_1 =>
            obtain ⟨v, x, st', w', η', hK, _, hs', hv, hrun, _⟩ := an_sound hΓ h hk
            obtain ⟨st2, hk2, hs2, _⟩ := putD_sound hs' hK hv
            have := alist_soundR hΓ rest hQ l st2 _ _ _ η' hs2 (hdec'.put o v) hk2
            unfold Oper.wp
            rcases hrun with hrun | ⟨hrun, rfl⟩
            · rw [hrun, Oper.upon_value]; exact this
            · rw [hrun, Oper.upon_skip]; exact this
          case h_2 =>
            split at hk
            case h_1 t k lo hi hcut =>
              obtain ⟨v, x, st', η', hK, _, hs', hv, hrun⟩ := acut_sound hΓ h hcut hk
              obtain ⟨st2, hk2, hs2, _⟩ := putD_sound hs' hK hv
              have := alist_soundR hΓ rest hQ l st2 _ _ _ η' hs2 (hdec'.put o v) hk2
              unfold Oper.wp
              rw [hrun, Oper.upon_value]; exact this
            case h_2 =>
            obtain ⟨v, q, hq, hv, hy⟩ := aq_sound hΓ h hk
            obtain ⟨st2, hk2, hs2, _⟩ := putD_sound h hq hv
            exact wp_of_yields hy (alist_soundR hΓ rest hQ l st2 _ _ _ η hs2 (hdec'.put o v) hk2)
    · rw [if_neg (by rw [hw]; simp)]
      obtain ⟨st2, hk2, hs2, _⟩ := putD_sound h hk (undef_rep st)
      exact alist_soundR hΓ rest hQ l _ _ _ _ η hs2 (hdec'.put o undef) hk2

theorem alist_sound (hΓ : TysOk P Γ) {opsA : Array Oper} {Q : Exit → Act → World → Prop} {K : St → Prop} (hQ : ∀ st a w η, K st → SRep w0 ob st a w η → Q .normal a w) :
    ∀ (l : List Oper) (st : St) (dec : List (Nat × Bool)) (a : Act) (w : World) (η : Env), SRep w0 ob st a w η → DecOk dec a → alist P Γ opsA.toList l st dec K → wpList P opsA Q l a w := fun l st dec a w η h hd hk => by
  have := alist_soundR hΓ (Q := Q) [] (fun st a w η hk h => hQ st a w η hk h) l st dec a w η h hd hk
  rwa [List.append_nil] at this

theorem qcall_sound (h : SRep w0 ob st a w η) {c : Call} {K : AVal → Prop} (hk : qcall P st c K) {o : Oper} (ho : o.op = .call c) :
    ∃ v q, K q ∧ VR w ob st η q v ∧ ∀ w', Below w.heap.size w w' → o.quietAt P a (fun w' => Below w.heap.size w w') w' v := by
  unfold qcall at hk
  split at hk
  case h_1 => exact hk.elim
  case h_2 f args hcal =>
    split at hk
    case h_1 => exact hk.elim
    case h_2 cargs hcl =>
      obtain ⟨v, hone, ⟨hf, hs⟩, hK⟩ := hk.run
      obtain ⟨vs, hvs, hrun⟩ := callee_run h hcal hf ho
      refine ⟨v, .c v, hK, ⟨rfl, hone⟩, fun w1 hb => ?_⟩
      have h1 := h.mono hb
      unfold Oper.quietAt
      rw [hrun w1]
      refine ⟨rfl, ?_⟩
      have hcl1 : VReps w1 (fun _ => False) [] 0 η0 cargs vs := by
        refine closeArgs_sound h1.heap hcl ?_
        exact VReps.frame (Keeps.below hb) (Nat.le_refl _) (fun k _ => OwnOk.refl _ _ k) (fun k _ => SubOk.refl _ _ k) hvs
      refine (hs w1 (fun _ => False) vs (fun _ h => h.elim) hcl1).mono ?_
      rintro e w2 ⟨u, x, hr, ηh, rfl, ⟨rfl, rfl⟩, hb2, _, hv⟩
      refine ⟨by rw [hv.1], ?_⟩
      exact hb.trans (hb2.mono hb.size)

theorem wpQuiet_of_yields {o : Oper} {v : Value} {C : World → Prop} (hC : C = fun w' => Below w.heap.size w w') (hy : Yields1 P w a o v) {K : Act → Prop} (hn : K (a.put o.dst v)) : o.quiet P a C K := by
  subst hC
  refine ⟨v, fun w' hb => ?_, hn⟩
  unfold Oper.quietAt
  rw [hy w' hb]
  exact ⟨rfl, rfl⟩

theorem aqlist_sound (hΓ : TysOk P Γ) {opsA : Array Oper} {Q' : Act → Prop} {w : World} {η : Env} {K : St → List (Nat × Bool) → Prop} (hQ : ∀ st a dec, K st dec → SRep w0 ob st a w η → DecOk dec a → Q' a) :
    ∀ (l : List Oper) (st : St) (dec : List (Nat × Bool)) (a : Act), SRep w0 ob st a w η → DecOk dec a → aqlist P Γ opsA.toList l st dec K → wpQuiet P opsA (fun w' => Below w.heap.size w w') Q' l a
  | [], st, dec, a, h, hdec, hk => hQ st a dec hk h hdec
  | o :: l, st, dec, a, h, hdec, hk => by
    rw [aqlist_cons] at hk
    obtain ⟨dec', hdec', hg⟩ := aguard_sound h hdec hk
    unfold wpQuiet
    rcases hg with ⟨hw, hk⟩ | ⟨hw, hk⟩
    · rw [if_pos hw]
      split at hk
      case h_1 c x y hp =>
        obtain ⟨v, q, hq, hv, hy⟩ := apick_sound (P := P) h hdec' (isPick_op hp) hk
        obtain ⟨st2, hk2, hs2, _⟩ := putD_sound h hq hv
        exact wpQuiet_of_yields rfl hy (aqlist_sound hΓ hQ l st2 _ _ hs2 (hdec'.put o v) hk2)
      case h_2 =>
        split at hk
        case h_1 c hc =>
          obtain ⟨v, q, hq, hv, hy⟩ := qcall_sound h hk (isCall_op hc)
          obtain ⟨st2, hk2, hs2, _⟩ := putD_sound h hq hv
          exact ⟨v, hy, aqlist_sound hΓ hQ l st2 _ _ hs2 (hdec'.put o v) hk2⟩
        case h_2 =>
          obtain ⟨v, q, hq, hv, hy⟩ := aq_sound hΓ h hk
          obtain ⟨st2, hk2, hs2, _⟩ := putD_sound h hq hv
          exact wpQuiet_of_yields rfl hy (aqlist_sound hΓ hQ l st2 _ _ hs2 (hdec'.put o v) hk2)
    · rw [if_neg (by rw [hw]; simp)]
      obtain ⟨st2, hk2, hs2, _⟩ := putD_sound h hk (undef_rep st)
      exact aqlist_sound hΓ hQ l _ _ _ hs2 (hdec'.put o undef) hk2

theorem below_drawn (w : World) : Below w.heap.size w { w with drawn := w.drawn + 1 } := ⟨rfl, rfl, rfl, Nat.le_refl _, fun _ _ => rfl⟩

theorem ADraw.std (hΓ : TysOk P Γ) (hm : P.follows .mixedOrders = true) {ops : Array Oper} {K : St → Prop} (hk : astd P Γ ops st K) : ADraw P ops st K := by
  refine ⟨fun id w0 ob a w ⟨η, h⟩ => ?_⟩
  have fin : ∀ st a w η, K st → SRep w0 ob st a w η → (fun e a' w' => e = Exit.normal ∧ ∃ st', K st' ∧ StRep w0 ob st' a' w') Exit.normal a w := fun st a w η hk hs => ⟨rfl, st, hk, η, hs⟩
  have nodec : DecOk [] a := fun d b hd => by simp [look] at hd
  unfold astd at hk
  split at hk
  case h_1 =>
    obtain ⟨hB, hk⟩ := hk
    refine wp_region_quiet (C := fun w' => Below w.heap.size w w') hm hB (below_drawn w) ?_
    exact aqlist_sound hΓ (fun st a dec hK hs _ w' hw' => fin st a w' η hK (hs.mono hw')) _ st [] a h nodec hk
  case h_2 =>
    obtain ⟨hB, hk⟩ := hk
    refine wp_quiet_tail (C := fun w' => Below w.heap.size w w') _ hm hB (below_drawn w) ?_
    exact aqlist_sound hΓ (fun st a dec hK hs hdec w' hw' => alist_sound hΓ fin _ st dec a w' η (hs.mono hw') hdec hK) _ st [] a h nodec hk

theorem aregion_sound (hΓ : TysOk P Γ) (h : SRep w0 ob st a w η) {id : Nat} {ops : Array Oper} {draw : Bool} {K : Exit → St → Prop} (hk : aregion P Γ ops draw st (K .normal)) :
    (Code.region id ops draw).wp P (lift w0 ob K) a w := by
  have fin : ∀ st a w η, K .normal st → SRep w0 ob st a w η → lift w0 ob K .normal a w := fun st a w η hk hs => ⟨st, hk, η, hs⟩
  have nodec : DecOk [] a := fun d b hd => by simp [look] at hd
  unfold aregion at hk
  split at hk
  case h_1 =>
    split at hk
    case h_1 => exact wp_region_list (alist_sound hΓ fin _ st [] a w η h nodec hk)
    case h_2 => exact wp_mono (hk.run id w0 ob a w ⟨η, h⟩) (fun e a' w' ⟨he, st', h1, h2⟩ => by subst he; exact ⟨st', h1, h2⟩)
  case h_2 => exact wp_mono (hk.run id w0 ob a w ⟨η, h⟩) (fun e a' w' ⟨he, st', h1, h2⟩ => by subst he; exact ⟨st', h1, h2⟩)
end
end Go.Aw
namespace Go.Aw
theorem ACall.use {P : Program} {st : St} {f : FuncId} {args cargs : List AVal} {K : AVal → St → Prop} {x : AVal} {h : List (Nat × ARow)} (hs : FSpec P f cargs (ex x h))
    (hk : match hasOwns args with
      | true => match noSh x && rowsOwn h with
        | true => K (x.shift st.nx) (st.add h)
        | false => False
      | false => K (x.shift st.nx) (st.add h)) (hc : closeArgs st.hp args = some cargs := by rfl) : ACallS P st f args K :=
  ACallS.useK hs (fun _ _ e => by obtain ⟨rfl, rfl⟩ := e; exact hk) hc
theorem ACall.usek {P : Program} {st : St} {f : FuncId} {args cargs : List AVal} {K : AVal → St → Prop} {x : AVal} {h : List (Nat × ARow)} (hs : FSpec P f cargs (ex x h))
    (hk : match hasOwns args with
      | true => match noSh x && rowsOwn h with
        | true => K (x.shift st.nx) (st.add h)
        | false => False
      | false => K (x.shift st.nx) (st.add h)) (hc : closeArgs st.hp args = some cargs := by kernel_rfl) : ACallS P st f args K :=
  ACallS.useK hs (fun _ _ e => by obtain ⟨rfl, rfl⟩ := e; exact hk) hc
theorem ACall.use' {P : Program} {st : St} {f : FuncId} {args cargs : List AVal} {K : AVal → St → Prop} {post : AVal → List (Nat × ARow) → Prop} (hs : FSpec P f cargs post)
    (hk : ∀ x h, post x h → match hasOwns args with
      | true => match noSh x && rowsOwn h with
        | true => K (x.shift st.nx) (st.add h)
        | false => False
      | false => K (x.shift st.nx) (st.add h)) (hc : closeArgs st.hp args = some cargs := by rfl) : ACallS P st f args K := ACallS.useK hs hk hc
end Go.Aw
