/- Calls that write one row of their caller, at the caller; calls that are walked into. -/
import Derived.Test.YtpakfehinfcdoaaAwM
namespace Go.Aw
open Go.RowKit

section
variable {P : Program} {Γ : Tys} {w0 : Base} {w w' : World} {ob : Nat → Prop} {st : St} {a : Act} {η : Env}

/-- a row has become another of its kind -/
theorem SRep.mut (h : SRep w0 ob st a w η) {k : Nat} {r r' : ARow} {cs' : List Value} (hr : look st.hp k = some r) (hkind : r'.kind = r.kind) (hlen : (η.cel k).length ≤ cs'.length)
    (hw : ∀ b, b < w.heap.size → b ∉ bsOf η k r → w'.heap[b]? = w.heap[b]?) (hB : Below w0.B w w')
    (hnd : (bsOf (η.upd k (η.val k) cs') k r').Nodup) (hfr : ∀ b, b ∈ bsOf (η.upd k (η.val k) cs') k r' → b ∈ bsOf η k r ∨ w.heap.size ≤ b)
    (hrow : ∀ bad hp nx, RowRep w' w0.B bad hp nx (η.upd k (η.val k) cs') k r') :
    SRep w0 ob ((st.killSub k).upd k r') a w' (η.upd k (η.val k) cs') := by
  have hoth : ∀ j r1, j ≠ k → look ((st.killSub k).upd k r').hp j = some r1 → ∃ r, look st.hp j = some r ∧ r1 = r.flt (fun _ => true) (ne k) := fun j r1 hj h1 => by
    simp only [St.upd, St.killSub, look_upd, if_neg (Ne.symm hj), look_fltH] at h1
    obtain ⟨r, h2, rfl⟩ := Option.map_eq_some_iff.1 h1
    exact ⟨r, h2, rfl⟩
  have hk' : look ((st.killSub k).upd k r').hp k = some r' := by simp only [St.upd, look_upd, if_true]
  have hok : ∀ j, j < st.nx → OwnOk st.hp η ((st.killSub k).upd k r').hp (η.upd k (η.val k) cs') j := fun j _ => by
    by_cases hjk : j = k
    · subst hjk
      exact ⟨fun r1 h1 => by rw [hk'] at h1; obtain rfl := Option.some.inj h1; exact ⟨r, hr, hkind.symm, upd_val _ _ _ _, by rw [upd_cel]; exact hlen⟩⟩
    · exact OwnOk.of (fun r1 h1 => by obtain ⟨r, h2, rfl⟩ := hoth j r1 hjk h1; exact ⟨r, h2, (kind_flt _ _ r).symm⟩) (upd_ne _ _ _ _ j hjk).1 (upd_ne _ _ _ _ j hjk).2
  have hsk : ∀ j, j < st.nx → ne k j = true → SubOk st.hp η ((st.killSub k).upd k r').hp (η.upd k (η.val k) cs') j := fun j _ hj => by
    have hjk := (ne_spec k j).1 hj
    exact SubOk.of (fun r1 h1 => by obtain ⟨r, h2, rfl⟩ := hoth j r1 hjk h1; exact ⟨r, h2, (kind_flt _ _ r).symm⟩) (upd_ne _ _ _ _ j hjk).2
  obtain ⟨hh, hkp⟩ := HRep.step (k := k) (hp' := ((st.killSub k).upd k r').hp) (nx' := st.nx) (η' := η.upd k (η.val k) cs') (w' := w') h.heap (fun _ => true) (ne k) r' (h.heap.lt k r hr) (Nat.le_refl _)
    (fun j r1 hj h1 => hoth j r1 hj h1) hk' (fun j hj => upd_ne _ _ _ _ j hj)
    (fun b hb hn => hw b hb (hn r hr)) (fun j hj _ => hok j hj) hsk hnd
    (fun b hb => (hfr b hb).imp (fun h1 => ⟨k, r, hr, h1, .inl rfl⟩) id) (fun _ => hrow _ _ _)
  exact h.heapStep (fun _ => true) (ne k) hB hh hkp (Nat.le_refl _) (fun j hj _ => hok j hj) hsk

/-- what becomes of the caller's row -/
def backRow (st : St) (s : Org) (r' : ARow) : Option (Nat × ARow) :=
  match s with
  | .row k => some (k, r')
  | .sub k i => match look st.hp k with
    | some (.rows e e1 true m) => match r' with
      | .ints e2 .i64 l => match Nat.beq e2 e1 with
        | true => some (k, .rows e e1 true (m.set i l))
        | false => none
      | _ => none
    | _ => none
  | .nil => none

theorem distinct_one (s : Org) : distinct [(0, s)] = true := by cases s <;> rfl

theorem ACallS.mutK {f : FuncId} {args args0 : List AVal} {r0 : ARow} {K : AVal → St → Prop} {post : Value → ARow → Prop} (s : Org) (hs : MSpec P f r0 args0 post)
    (hv : vws st.hp [(0, s)] 1 args args0) (hr : rowVw st.hp [(0, s)] 1 s r0)
    (hk : ∀ v r', post v r' → match backRow st s r' with | some (k, r1) => K (.c v) ((st.killSub k).upd k r1) | none => False) : ACallS P st f args K := by
  refine ⟨hs.1, fun w0 ob a w η h vs hvs => ?_⟩
  have hrv : rowsVw st.hp [(0, s)] 1 [(0, r0)] := ⟨rfl, hr, trivial⟩
  have hfree : ∀ b, ownB st.hp η b → ¬ ob b := fun b hb => h.free hb
  have hh0 := View.heap (R := [(0, s)]) (nx' := 1) h.heap hfree (distinct_one s) hrv
  have ha0 := vws_sound (R := [(0, s)]) (nx' := 1) h.heap hfree hrv args args0 hv hvs
  have hs0 : look [((0 : Nat), s)] 0 = some s := rfl
  obtain ⟨hb0, _⟩ := vw_blocks (R := [(0, s)]) (j := 0) h.heap hs0 hr
  refine (hs.2 w w0.B ob (ηV st.hp η [(0, s)]) vs (wB h) (fun b hb => h.badlt (.inl hb)) (fun b hb => ?_) hh0 ha0).mono ?_
  · obtain ⟨k, r, _, h2, h3⟩ := hb0 b hb
    exact hfree b ⟨k, r, h2, h3⟩
  · rintro e w' ⟨v, r', η', rfl, hone, hp, hbel, hfrm, hplain, hrow, hnd, hsrc, hkind, hval, hlen⟩
    have hk' := hk v r' hp
    cases s with
    | nil => exact hk'.elim
    | row k =>
      obtain ⟨r, h1, h2⟩ := rowVw_kind (hp := st.hp) (R := [(0, .row k)]) (nx' := 1) hr
      have hv0 : (ηV st.hp η [(0, Org.row k)]).val 0 = η.val k := rfl
      have hc0 : (ηV st.hp η [(0, Org.row k)]).cel 0 = η.cel k := rfl
      have hbs : bsOf (ηV st.hp η [(0, Org.row k)]) 0 r0 = bsOf η k r := by simp only [bsOf, hv0, hc0, h2]
      have hu : (η.upd k (η.val k) (η'.cel 0)).val k = η'.val 0 := by rw [upd_val, hval, hv0]
      have hbs' : bsOf (η.upd k (η.val k) (η'.cel 0)) k r' = bsOf η' 0 r' := by simp only [bsOf, hu, upd_cel]
      have hs' := SRep.mut (w' := w') h (cs' := η'.cel 0) h1 (by rw [hkind, h2]) (by rw [hlen, hc0]; exact Nat.le_refl _) (fun b hb hn => hfrm b hb (by rw [hbs]; exact hn)) hbel
        (by rw [hbs']; exact hnd) (fun b hb => by rw [hbs'] at hb; rw [← hbs]; exact hsrc b hb) (fun bad hp nx => plain_rep hplain hrow hu (upd_cel _ _ _ _))
      exact ⟨v, .c v, _, _, rfl, hk', rfl, hs', rfl, hone⟩
    | sub k i =>
      simp only [backRow] at hk'
      unfold rowVw at hr
      simp only at hr
      split at hr
      case h_2 => exact hr.elim
      case h_1 e e1 m hl =>
        obtain ⟨hi, rfl⟩ := hr
        rw [hl] at hk'
        simp only at hk'
        split at hk'
        case h_2 => exact hk'.elim
        case h_1 heq =>
          split at heq
          case h_2 => cases heq
          case h_1 e2 l =>
            split at heq
            case h_2 => cases heq
            case h_1 hbe =>
              obtain rfl := Nat.eq_of_beq_eq_true hbe
              simp only [Option.some.injEq, Prod.mk.injEq] at heq
              obtain ⟨rfl, rfl⟩ := heq
              have hrow0 := h.heap.row k _ hl
              have hnd0 := h.heap.nodup k _ hl
              obtain ⟨u, hui, ho⟩ := F2.at hrow0.2 (List.getElem?_eq_getElem hi)
              have hv0 : (ηV st.hp η [(0, Org.sub k i)]).val 0 = u := getD_of hui
              have hbs0 : bsOf (ηV st.hp η [(0, Org.sub k i)]) 0 (.ints e2 .i64 (m.getD i [])) = blk u := by simp only [bsOf, ARow.kind, hv0]; simp
              have hb1 : ∀ m', bsOf η k (.rows e e2 true m') = blk (η.val k) ++ (η.cel k).flatMap blk := fun m' => by simp [bsOf, ARow.kind]
              have hin : ∀ b, b ∈ blk u → b ∈ bsOf η k (.rows e e2 true m) := fun b hb => by
                rw [hb1]; exact List.mem_append.2 (.inr (List.mem_flatMap.2 ⟨u, List.mem_of_getElem? hui, hb⟩))
              have hu : ∀ j, (η.upd k (η.val k) (η.cel k)).val j = η.val j := fun j => by by_cases hj : j = k <;> simp [Env.upd, hj]
              have hc : ∀ j, (η.upd k (η.val k) (η.cel k)).cel j = η.cel j := fun j => by by_cases hj : j = k <;> simp [Env.upd, hj]
              have hb2 : ∀ r, bsOf (η.upd k (η.val k) (η.cel k)) k r = bsOf η k r := fun r => by simp only [bsOf, hu, hc]
              rw [hb1] at hnd0
              obtain ⟨n1, n2, n3⟩ := List.nodup_append.1 hnd0
              have hrl : OwnInts w' w0.B e2 .i64 l (η'.val 0) := hrow.1
              rw [hval, hv0] at hrl
              have hs' := SRep.mut (w' := w') h (k := k) (r := .rows e e2 true m) (r' := .rows e e2 true (m.set i l)) (cs' := η.cel k) hl rfl (Nat.le_refl _)
                (fun b hb hn => hfrm b hb (by rw [hbs0]; exact fun hm => hn (hin b hm))) hbel
                (by rw [hb2, hb1]; exact hnd0) (fun b hb => by rw [hb2, hb1] at hb; exact .inl (by rw [hb1]; exact hb)) (fun bad hp nx => ?_)
              · exact ⟨v, .c v, _, _, rfl, hk', rfl, hs', rfl, hone⟩
              · refine ⟨?_, ?_⟩
                · rw [hu, hc, List.length_set]
                  refine ownsRow_same hrow0.1 (fun b hb => ?_)
                  have hlt : b < w.heap.size := (hrow0.lt b (by rw [hb1]; exact List.mem_append.2 (.inl hb))).2
                  refine hfrm b hlt ?_
                  rw [hbs0]; intro hm
                  exact n3 b hb b (List.mem_flatMap.2 ⟨u, List.mem_of_getElem? hui, hm⟩) rfl
                · rw [hc]
                  refine F2.intro (by rw [List.length_set]; exact F2.length hrow0.2) (fun j l1 u1 hj1 hj2 => ?_)
                  by_cases hji : j = i
                  · subst hji
                    rw [List.getElem?_set_self hi] at hj1
                    rw [hui] at hj2
                    obtain rfl := Option.some.inj hj1
                    obtain rfl := Option.some.inj hj2
                    exact hrl
                  · rw [List.getElem?_set_ne (Ne.symm hji)] at hj1
                    obtain ⟨u2, hu2, ho2⟩ := F2.at hrow0.2 hj1
                    rw [hj2] at hu2
                    obtain rfl := Option.some.inj hu2
                    refine ownsRow_same ho2 (fun b hb => ?_)
                    have hlt : b < w.heap.size := (hrow0.lt b (by rw [hb1]; exact List.mem_append.2 (.inr (List.mem_flatMap.2 ⟨u1, List.mem_of_getElem? hj2, hb⟩)))).2
                    refine hfrm b hlt ?_
                    rw [hbs0]; intro hm
                    exact flat_apart n2 hj2 hui hji b hb hm

theorem ACallS.mut {f : FuncId} {args args0 : List AVal} {r0 r1 : ARow} {v : Value} {K : AVal → St → Prop} (s : Org) (hs : MSpec P f r0 args0 (exM v r1))
    (hk : match backRow st s r1 with | some (k, r2) => K (.c v) ((st.killSub k).upd k r2) | none => False)
    (hv : vws st.hp [(0, s)] 1 args args0) (hr : rowVw st.hp [(0, s)] 1 s r0) : ACallS P st f args K :=
  ACallS.mutK s hs hv hr (fun _ _ e => by obtain ⟨rfl, rfl⟩ := e; exact hk)

/-! ### a call that is walked into -/
def ghosts (d : Nat) : List (Nat × AVal) → List (Nat × AVal)
  | [] => []
  | (i, x) :: r => (d + i, x) :: ghosts d r

def unghost (d : Nat) : List (Nat × AVal) → List (Nat × AVal)
  | [] => []
  | (i, x) :: r => match Nat.ble d i with
    | true => (i - d, x) :: unghost d r
    | false => unghost d r

theorem look_ghosts (d : Nat) : ∀ (l : List (Nat × AVal)) (i : Nat), look (ghosts d l) i = if d ≤ i then look l (i - d) else none
  | [], i => by simp [ghosts, look]
  | (j, x) :: r, i => by
    simp only [ghosts, look_cons, look_ghosts d r i]
    by_cases h1 : d ≤ i
    · simp only [h1, if_true]
      by_cases h2 : d + j = i
      · rw [if_pos h2, if_pos (by omega)]
      · rw [if_neg h2, if_neg (by omega)]
    · simp only [h1, if_false]
      rw [if_neg (by omega)]

theorem look_unghost (d : Nat) : ∀ (l : List (Nat × AVal)) (i : Nat), look (unghost d l) i = look l (d + i)
  | [], i => by simp [unghost, look]
  | (j, x) :: r, i => by
    simp only [unghost, look_cons]
    cases hb : Nat.ble d j with
    | true =>
      have := Nat.le_of_ble_eq_true hb
      simp only [look_cons, look_unghost d r i]
      by_cases h2 : j = d + i
      · rw [if_pos (by omega), if_pos h2]
      · rw [if_neg (by omega), if_neg h2]
    | false =>
      have : ¬ d ≤ j := fun h => by rw [Nat.ble_eq_true_of_le h] at hb; cases hb
      simp only [look_unghost d r i]
      rw [if_neg (by omega)]

def iend (Γ : Tys) (rs : List ResultVar) (sz sz0 : Nat) (K : AVal → St → Prop) : Exit → St → Prop
  | .ret, st => Nat.beq st.sz sz = true ∧ ares Γ st rs fun l => frG (unghost sz st.sl) fun sl => K (match l with | [x] => x | l => .tu l) ⟨sz0, sl, st.hp, st.nx⟩
  | .normal, st => Nat.beq st.sz sz = true ∧ ares Γ st rs fun l => frG (unghost sz st.sl) fun sl => K (match l with | [x] => x | l => .tu l) ⟨sz0, sl, st.hp, st.nx⟩
  | _, _ => False

def iend' (Γ : Tys) (rs : List ResultVar) (sz sz0 : Nat) (K : AVal → St → Prop) : Exit → St → Prop
  | .ret, st => Nat.beq st.sz sz = true ∧ ares Γ st rs fun l => K (match l with | [x] => x | l => .tu l) ⟨sz0, unghost sz st.sl, st.hp, st.nx⟩
  | .normal, st => Nat.beq st.sz sz = true ∧ ares Γ st rs fun l => K (match l with | [x] => x | l => .tu l) ⟨sz0, unghost sz st.sl, st.hp, st.nx⟩
  | _, _ => False

theorem look_app (l r : List (Nat × AVal)) (i : Nat) : look (l ++ r) i = match look l i with | some x => some x | none => look r i := by rw [look_append]; cases look l i <;> rfl

theorem ACallS.inline (hΓ : TysOk P Γ) (hm : P.follows .mixedOrders = true) {f : FuncId} {fn : Func} {c : Code} {args : List AVal} {K : AVal → St → Prop} (hf : P.funcs[f]? = some fn) (hb : fn.body = some c)
    (hname : (fn.name == "runtime.NumGoroutine") = false) (hn : Nat.ble args.length fn.ntmps = true)
    (h : frG (initSl 0 args ++ ghosts fn.ntmps st.sl) fun sl => acode P Γ c ⟨fn.ntmps, sl, st.hp, st.nx⟩ (iend Γ fn.results.toList fn.ntmps st.sz K)) : ACallS P st f args K := by
  rw [frG_eq] at h
  refine ⟨⟨fn, hf, hname, by rw [hb]; rfl⟩, fun w0 ob a w η hsr vs hvs => ?_⟩
  refine calls_of_wp hf hb ?_
  have hle := Nat.le_of_ble_eq_true hn
  have hlen := VReps.length hvs
  let γ : Nat → Value := fun i => a.tmps.getD (i - fn.ntmps) (w0.γ (i - fn.ntmps))
  let W0 : Base := ⟨w0.w, w0.B, w0.may, γ⟩
  have hsz : (vs.toArray ++ Array.replicate (fn.ntmps - vs.toArray.size) undef).size = fn.ntmps := by simp; omega
  have hs : SRep W0 ob ⟨fn.ntmps, initSl 0 args ++ ghosts fn.ntmps st.sl, st.hp, st.nx⟩ { tmps := vs.toArray ++ Array.replicate (fn.ntmps - vs.toArray.size) undef, defers := [] } w η := by
    refine ⟨rfl, hsz, hsr.below, ⟨hsr.base.le, hsr.base.obl, hsr.base.may⟩, hsr.frame, hsr.src, hsr.heap, fun i x hi => ?_⟩
    simp only at hi
    rw [look_app] at hi
    cases hl : look (initSl 0 args) i with
    | some y =>
      rw [hl] at hi
      simp only [Option.some.injEq] at hi
      subst hi
      obtain ⟨v, _, h2, h3⟩ := init_look' hvs i y hl
      simp only [Nat.sub_zero] at h2
      have hlt : i < vs.length := (List.getElem?_eq_some_iff.1 h2).1
      have : (vs.toArray ++ Array.replicate (fn.ntmps - vs.toArray.size) undef).getD i (W0.γ i) = v := by
        rw [Array.getD_eq_getD_getElem?, Array.getElem?_append_left (by simpa using hlt)]
        simp [h2]
      rw [this]
      exact h3
    | none =>
      rw [hl] at hi
      simp only [look_ghosts] at hi
      split at hi
      case isFalse => cases hi
      case isTrue hge =>
        have : (vs.toArray ++ Array.replicate (fn.ntmps - vs.toArray.size) undef).getD i (W0.γ i) = a.tmps.getD (i - fn.ntmps) (w0.γ (i - fn.ntmps)) := by
          rw [Array.getD_eq_getD_getElem?, Array.getElem?_eq_none (by rw [hsz]; exact hge)]; rfl
        rw [this]
        exact hsr.slot _ _ hi
  refine wp_mono (acode_sound (w0 := W0) hΓ hm c _ _ _ w h ⟨η, hs⟩) (fun e a' w' hl => ?_)
  obtain ⟨st', hk, η', hs'⟩ := hl
  have hk : iend' Γ fn.results.toList fn.ntmps st.sz K e st' := by
    cases e <;> simp only [iend, frG_eq] at hk <;> exact hk
  have fin : Nat.beq st'.sz fn.ntmps = true ∧ ares Γ st' fn.results.toList (fun l => K (match l with | [x] => x | l => .tu l) ⟨st.sz, unghost fn.ntmps st'.sl, st'.hp, st'.nx⟩) → ∃ v, (results fn a'.tmps).run P w' = .ok v w' ∧
      ∃ v' x st' η', Ending.returned v = .returned v' ∧ K x st' ∧ st'.sz = st.sz ∧ SRep w0 ob st' a w' η' ∧ VRep w' (fun b => ob b ∨ ownB st'.hp η' b) st'.hp st'.nx η' x v' := fun ⟨he, hk⟩ => by
    have hsz' := Nat.eq_of_beq_eq_true he
    obtain ⟨xs, us, h1, h2, h3⟩ := ares_sound hΓ hs' hk
    have hres := results_run h3
    have back : SRep w0 ob ⟨st.sz, unghost fn.ntmps st'.sl, st'.hp, st'.nx⟩ a w' η' := by
      refine ⟨hsr.defers, hsr.size, hs'.below, hsr.base, hs'.frame, hs'.src, hs'.heap, fun i x hi => ?_⟩
      simp only [look_unghost] at hi
      have := hs'.slot _ x hi
      have hg : a'.tmps.getD (fn.ntmps + i) (W0.γ (fn.ntmps + i)) = a.tmps.getD i (w0.γ i) := by
        rw [Array.getD_eq_getD_getElem?, Array.getElem?_eq_none (by rw [hs'.size, hsz']; omega)]
        show γ (fn.ntmps + i) = _
        simp only [γ, Nat.add_sub_cancel_left]
      rw [hg] at this
      exact this
    have two : ∀ {xs : List AVal} {us : List Value}, VRs w' ob st' η' xs us → us.length ≠ 1 → K (.tu xs) ⟨st.sz, unghost fn.ntmps st'.sl, st'.hp, st'.nx⟩ → (results fn a'.tmps).run P w' = .ok (if hh : us.toArray.size = 1 then us.toArray[0] else .tuple us.toArray) w' →
        ∃ v, (results fn a'.tmps).run P w' = .ok v w' ∧
      ∃ v' x st' η', Ending.returned v = .returned v' ∧ K x st' ∧ st'.sz = st.sz ∧ SRep w0 ob st' a w' η' ∧ VRep w' (fun b => ob b ∨ ownB st'.hp η' b) st'.hp st'.nx η' x v' := by
      intro xs us h2 hne hK hres
      exact ⟨_, by rw [hres, dif_neg (by simpa using hne)], _, .tu xs, _, η', rfl, hK, rfl, back, us, rfl, h2⟩
    clear h3
    match xs, us, h2, h1, hres with
    | [x], [u], h2, h1, hres => exact ⟨u, by rw [hres]; rfl, u, x, _, η', rfl, h1, rfl, back, h2.1⟩
    | [], [], h2, h1, hres => exact two h2 (by simp) h1 hres
    | x :: y :: xs, u :: v :: us, h2, h1, hres => exact two h2 (by simp) h1 hres
  cases e with
  | ret => exact ⟨hs'.defers, fin hk⟩
  | normal => exact ⟨hs'.defers, fin hk⟩
  | _ => exact hk.elim

/-- what is there, told otherwise ahead of a call -/
theorem ACallS.view {f : FuncId} {args args' : List AVal} {K : AVal → St → Prop} {R : List (Nat × Org)} {st' : St} (hs : View R st st') (hv : vws st.hp R st'.nx args args') (h : ACallS P st' f args' K) : ACallS P st f args K := by
  refine ⟨h.fok, fun w0 ob a w η hr vs hvs => (h.run w0 ob a w _ (hs.rep hr) vs (vws_sound hr.heap (fun b hb => hr.free hb) hs.hp args args' hv hvs)).mono ?_⟩
  rintro e w' ⟨v, x, st2, η', rfl, hk, hsz, hs', hx⟩
  exact ⟨v, x, st2, η', rfl, hk, by rw [hsz, hs.sz], hs', hx⟩

/-- what is handed back, told otherwise -/
theorem FSpec.view {f : FuncId} {args : List AVal} {post post' : AVal → List (Nat × ARow) → Prop} (h : FSpec P f args post)
    (hv : ∀ x hr, post x hr → ∃ R x' hr', distinct R = true ∧ rowsVw hr R hr'.length hr' ∧ vw hr R hr'.length x x' ∧ post' x' hr') : FSpec P f args post' := by
  refine ⟨h.1, fun w bad vs hbl hvs => (h.2 w bad vs hbl hvs).mono ?_⟩
  rintro e w' ⟨v, x, hr, η, rfl, hp, hb, hh, hx⟩
  obtain ⟨R, x', hr', h1, h2, h3, h4⟩ := hv x hr hp
  have hfree : ∀ b, ownB hr η b → ¬ bad b := fun b ⟨k, r, hk, hm⟩ hbad => by
    have := ((hh.row k r hk).lt b hm).1
    have := hbl b hbad
    omega
  exact ⟨v, x', hr', ηV hr η R, rfl, h4, hb, View.heap hh hfree h1 h2, vw_sound hh hfree h2 x x' h3 hx⟩
end
end Go.Aw
