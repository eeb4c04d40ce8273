/- Calls that write a variable of their caller which also holds what is read-only. -/
import Derived.Test.YtpakfehinfcdoaaAwN
namespace Go.Aw
open Go.RowKit

def tcells : List AVal → Bool
  | [] => true
  | .c _ :: r => tcells r
  | .t _ :: r => tcells r
  | _ => false

def tRow : ARow → Bool
  | .cells _ (x :: l) => tcells (x :: l)
  | _ => false

/-- plain values, what is read-only, and the place of the variable -/
def pargs : List AVal → List AVal → Bool
  | [], [] => true
  | .c _ :: l, .c _ :: r => pargs l r
  | .ptr _ _ :: l, .ptr 0 0 :: r => pargs l r
  | .t _ :: l, .t _ :: r => pargs l r
  | _, _ => false

mutual
/-- a result told of what is read-only: rows of the call's own (but the variable, key 0) are given away as read-only -/
def clv (hp : List (Nat × ARow)) : AVal → Option AVal
  | .c v => some (.c v)
  | .t t => some (.t t)
  | .own k => match k with
    | 0 => none
    | k + 1 => match look hp (k + 1) with
      | some r => match closeRow r with
        | some t => some (.t t)
        | none => none
      | none => none
  | .ag l => match clvs hp l with
    | some l' => some (.ag l')
    | none => none
  | .tu l => match clvs hp l with
    | some l' => some (.tu l')
    | none => none
  | _ => none
def clvs (hp : List (Nat × ARow)) : List AVal → Option (List AVal)
  | [] => some []
  | a :: r => match clv hp a with
    | none => none
    | some b => match clvs hp r with
      | none => none
      | some r' => some (b :: r')
end

mutual
def shut : AVal → Bool
  | .c _ => true
  | .t _ => true
  | .ag l => shuts l
  | .tu l => shuts l
  | _ => false
def shuts : List AVal → Bool
  | [] => true
  | a :: r => shut a && shuts r
end

def resx (l : List AVal) : AVal :=
  match l with
  | [x] => x
  | l => .tu l

section
variable {P : Program} {Γ : Tys} {w0 : Base} {w w' : World} {ob : Nat → Prop} {st : St} {a : Act} {η : Env}

mutual
theorem shut_rep {bad bad' : Nat → Prop} {hp hp' : List (Nat × ARow)} {nx nx' : Nat} {η η' : Env} (hk : Keeps w bad w' bad') : ∀ (x : AVal) {v : Value}, shut x = true → VRep w bad hp nx η x v → VRep w' bad' hp' nx' η' x v
  | .c _, _, _, hv => hv
  | .t _, _, _, hv => TRep.keeps hk hv
  | .ag l, _, h, ⟨cs, e, hv⟩ => ⟨cs, e, shuts_rep hk l (by simpa [shut] using h) hv⟩
  | .tu l, _, h, ⟨cs, e, hv⟩ => ⟨cs, e, shuts_rep hk l (by simpa [shut] using h) hv⟩
  | .un, _, h, _ => by simp [shut] at h
  | .own _, _, h, _ => by simp [shut] at h
  | .sub _ _, _, h, _ => by simp [shut] at h
  | .ptr _ _, _, h, _ => by simp [shut] at h
  | .subp _ _ _, _, h, _ => by simp [shut] at h
  | .adr _ _, _, h, _ => by simp [shut] at h
  | .rp _ _, _, h, _ => by simp [shut] at h
  | .clo _ _, _, h, _ => by simp [shut] at h
  | .knot _ _ _, _, h, _ => by simp [shut] at h
  | .nul, _, h, _ => by simp [shut] at h
theorem shuts_rep {bad bad' : Nat → Prop} {hp hp' : List (Nat × ARow)} {nx nx' : Nat} {η η' : Env} (hk : Keeps w bad w' bad') : ∀ (l : List AVal) {vs : List Value}, shuts l = true → VReps w bad hp nx η l vs → VReps w' bad' hp' nx' η' l vs
  | [], [], _, _ => trivial
  | x :: l, v :: vs, h, hv => by
    simp only [shuts, Bool.and_eq_true] at h
    exact ⟨shut_rep hk x h.1 hv.1, shuts_rep hk l h.2 hv.2⟩
  | [], _ :: _, _, h => h.elim
  | _ :: _, [], _, h => h.elim
end

mutual
theorem clv_shut {hp : List (Nat × ARow)} : ∀ (x : AVal) {y : AVal}, clv hp x = some y → shut y = true ∧ vw hp [(0, .row 0)] 1 x y
  | .c v, y, h => by simp only [clv, Option.some.injEq] at h; subst h; exact ⟨rfl, rfl⟩
  | .t t, y, h => by simp only [clv, Option.some.injEq] at h; subst h; exact ⟨rfl, rfl⟩
  | .own 0, y, h => by simp [clv] at h
  | .own (k + 1), y, h => by
    simp only [clv] at h
    split at h
    · rename_i r hr
      split at h
      · rename_i t ht
        simp only [Option.some.injEq] at h
        subst h
        refine ⟨rfl, ?_⟩
        show keyIn (k + 1) [(0, Org.row 0)] = false ∧ (match look hp (k + 1) with | some r => closeRow r = some t | none => False)
        rw [hr]
        exact ⟨rfl, ht⟩
      · cases h
    · cases h
  | .ag l, y, h => by
    simp only [clv] at h
    split at h
    · rename_i l' hl
      simp only [Option.some.injEq] at h
      subst h
      obtain ⟨h1, h2⟩ := clvs_shut l hl
      exact ⟨by simpa [shut] using h1, h2⟩
    · cases h
  | .tu l, y, h => by
    simp only [clv] at h
    split at h
    · rename_i l' hl
      simp only [Option.some.injEq] at h
      subst h
      obtain ⟨h1, h2⟩ := clvs_shut l hl
      exact ⟨by simpa [shut] using h1, h2⟩
    · cases h
  | .un, _, h => by simp [clv] at h
  | .sub _ _, _, h => by simp [clv] at h
  | .ptr _ _, _, h => by simp [clv] at h
  | .subp _ _ _, _, h => by simp [clv] at h
  | .adr _ _, _, h => by simp [clv] at h
  | .rp _ _, _, h => by simp [clv] at h
  | .clo _ _, _, h => by simp [clv] at h
  | .knot _ _ _, _, h => by simp [clv] at h
  | .nul, _, h => by simp [clv] at h
theorem clvs_shut {hp : List (Nat × ARow)} : ∀ (l : List AVal) {l' : List AVal}, clvs hp l = some l' → shuts l' = true ∧ vws hp [(0, .row 0)] 1 l l'
  | [], l', h => by simp only [clvs, Option.some.injEq] at h; subst h; exact ⟨rfl, trivial⟩
  | x :: l, l', h => by
    simp only [clvs] at h
    split at h
    · cases h
    · rename_i y hy
      split at h
      · cases h
      · rename_i r' hr
        simp only [Option.some.injEq] at h
        subst h
        obtain ⟨a1, a2⟩ := clv_shut x hy
        obtain ⟨b1, b2⟩ := clvs_shut l hr
        exact ⟨by simp [shuts, a1, b1], a2, b2⟩
end

theorem tcells_vws {hp : List (Nat × ARow)} {R : List (Nat × Org)} {nx : Nat} : ∀ {l : List AVal}, tcells l = true → vws hp R nx l l
  | [], _ => trivial
  | .c _ :: l, h => ⟨rfl, tcells_vws (l := l) (by simpa [tcells] using h)⟩
  | .t _ :: l, h => ⟨rfl, tcells_vws (l := l) (by simpa [tcells] using h)⟩
  | .un :: _, h => by simp [tcells] at h
  | .ag _ :: _, h => by simp [tcells] at h
  | .tu _ :: _, h => by simp [tcells] at h
  | .own _ :: _, h => by simp [tcells] at h
  | .sub _ _ :: _, h => by simp [tcells] at h
  | .ptr _ _ :: _, h => by simp [tcells] at h
  | .subp _ _ _ :: _, h => by simp [tcells] at h
  | .adr _ _ :: _, h => by simp [tcells] at h
  | .rp _ _ :: _, h => by simp [tcells] at h
  | .clo _ _ :: _, h => by simp [tcells] at h
  | .knot _ _ _ :: _, h => by simp [tcells] at h
  | .nul :: _, h => by simp [tcells] at h

theorem resx_rep {bad : Nat → Prop} {hp : List (Nat × ARow)} {nx : Nat} {η : Env} : ∀ {l : List AVal} {us : List Value}, VReps w bad hp nx η l us → VRep w bad hp nx η (resx l) (if hh : us.toArray.size = 1 then us.toArray[0] else .tuple us.toArray)
  | [x], [u], h => by rw [dif_pos (by rfl)]; exact h.1
  | [], [], h => by rw [dif_neg (by simp)]; exact ⟨_, rfl, h⟩
  | x :: y :: l, u :: v :: us, h => by rw [dif_neg (by simp)]; exact ⟨_, rfl, h⟩
  | [_], [], h => h.elim
  | [_], _ :: _ :: _, h => h.2.elim
  | [], _ :: _, h => h.elim
  | _ :: _ :: _, [], h => h.elim
  | _ :: _ :: _, [_], h => h.2.elim

theorem tcells_rep {bad bad' : Nat → Prop} {hp hp' : List (Nat × ARow)} {nx nx' : Nat} {η η' : Env} (hk : Keeps w bad w bad') : ∀ {l : List AVal} {vs : List Value}, tcells l = true → VReps w bad hp nx η l vs → VReps w bad' hp' nx' η' l vs
  | [], [], _, _ => trivial
  | .c _ :: l, _ :: vs, h, hv => ⟨hv.1, tcells_rep hk (l := l) (by simpa [tcells] using h) hv.2⟩
  | .t _ :: l, _ :: vs, h, hv => ⟨TRep.keeps hk hv.1, tcells_rep hk (l := l) (by simpa [tcells] using h) hv.2⟩
  | [], _ :: _, _, h => h.elim
  | .c _ :: _, [], _, h => h.elim
  | .t _ :: _, [], _, h => h.elim
  | .un :: _, _, h, _ => by simp [tcells] at h
  | .ag _ :: _, _, h, _ => by simp [tcells] at h
  | .tu _ :: _, _, h, _ => by simp [tcells] at h
  | .own _ :: _, _, h, _ => by simp [tcells] at h
  | .sub _ _ :: _, _, h, _ => by simp [tcells] at h
  | .ptr _ _ :: _, _, h, _ => by simp [tcells] at h
  | .subp _ _ _ :: _, _, h, _ => by simp [tcells] at h
  | .adr _ _ :: _, _, h, _ => by simp [tcells] at h
  | .rp _ _ :: _, _, h, _ => by simp [tcells] at h
  | .clo _ _ :: _, _, h, _ => by simp [tcells] at h
  | .knot _ _ _ :: _, _, h, _ => by simp [tcells] at h
  | .nul :: _, _, h, _ => by simp [tcells] at h

theorem pargs_rep {badS bad bad' : Nat → Prop} {hpS hp : List (Nat × ARow)} {nxS nx nx' : Nat} {ηS η1 : Env} {R : List (Nat × Org)} (hk : Keeps w badS w bad') : ∀ (l l0 : List AVal) (vs : List Value), pargs l l0 = true → vws hpS R nx' l l0 →
    VReps w badS hpS nxS ηS l vs → VReps w bad hp nx η1 l0 vs → VReps w bad' hp nx η1 l0 vs
  | l, l0, vs, h, hv, hs, h0 => by
    unfold pargs at h
    split at h
    · cases vs with
      | nil => trivial
      | cons => exact h0.elim
    · cases vs with
      | nil => exact h0.elim
      | cons v vs => exact ⟨h0.1, pargs_rep hk _ _ vs h hv.2 hs.2 h0.2⟩
    · cases vs with
      | nil => exact h0.elim
      | cons v vs => exact ⟨h0.1, pargs_rep hk _ _ vs h hv.2 hs.2 h0.2⟩
    · rename_i t l t' r
      cases vs with
      | nil => exact h0.elim
      | cons v vs =>
        have e : t = t' := hv.1
        subst e
        exact ⟨TRep.keeps hk hs.1, pargs_rep hk _ _ vs h hv.2 hs.2 h0.2⟩
    · cases h
termination_by l => l.length

/-- A FUNCTION THAT WRITES A VARIABLE OF ITS CALLER (key 0), in which read-only slices may stand: it hands back a plain value -/
def TSpec (P : Program) (f : FuncId) (r0 : ARow) (args : List AVal) (post : AVal → ARow → Prop) : Prop := FOk P f ∧
  ∀ (w : World) (B : Nat) (ob : Nat → Prop) (η : Env) (vs : List Value), B ≤ w.heap.size → (∀ b, ob b → b < w.heap.size) → (∀ b, b ∈ bsOf η 0 r0 → ¬ ob b) →
    HRep w B ob [(0, r0)] 1 η → VReps w (badOf ob [(0, r0)] η) [(0, r0)] 1 η args vs →
    Calls P f vs.toArray w fun e w' => ∃ v x r' η', e = .returned v ∧ VRep w' (badOf ob [(0, r')] η') [] 0 η0 x v ∧ shut x = true ∧ post x r' ∧ Below B w w' ∧
      (∀ b, b < w.heap.size → b ∉ bsOf η 0 r0 → w'.heap[b]? = w.heap[b]?) ∧ tRow r' = true ∧ RowRep w' B (badOf ob [(0, r')] η') [(0, r')] 1 η' 0 r' ∧ (bsOf η' 0 r').Nodup ∧
      (∀ b, b ∈ bsOf η' 0 r' → b ∈ bsOf η 0 r0 ∨ w.heap.size ≤ b) ∧ r'.kind = r0.kind ∧ η'.val 0 = η.val 0 ∧ (η'.cel 0).length = (η.cel 0).length

def tfin (sz : Nat) (r0 : ARow) (post : AVal → ARow → Prop) (st : St) (l : List AVal) : Prop :=
  match clv st.hp (resx l) with
  | some x => match look st.sl sz with
    | some g => match look st.hp 0 with
      | some r' => match Nat.beq r'.kind r0.kind && isGhost r' g && tRow r' && sameLen r0 r' && Nat.beq st.sz sz with
        | true => post x r'
        | false => False
      | none => False
    | none => False
  | none => False

def tend (Γ : Tys) (rs : List ResultVar) (sz : Nat) (r0 : ARow) (post : AVal → ARow → Prop) : Exit → St → Prop
  | .ret, st => ares Γ st rs (tfin sz r0 post st)
  | .normal, st => ares Γ st rs (tfin sz r0 post st)
  | _, _ => False

theorem tspec (hΓ : TysOk P Γ) (hm : P.follows .mixedOrders = true) {f : FuncId} {fn : Func} {c : Code} {r0 : ARow} {args : List AVal} {post : AVal → ARow → Prop} (hf : P.funcs[f]? = some fn) (hb : fn.body = some c)
    (hname : (fn.name == "runtime.NumGoroutine") = false) (hn : Nat.ble args.length fn.ntmps = true) (hg : tRow r0 = true)
    (h : acode P Γ c ⟨fn.ntmps, (fn.ntmps, ghostOf r0) :: initSl 0 args, [(0, r0)], 1⟩ (tend Γ fn.results.toList fn.ntmps r0 post)) : TSpec P f r0 args post := by
  refine ⟨⟨fn, hf, hname, by rw [hb]; rfl⟩, fun w B ob η vs hB hobl hfree hh hvs => ?_⟩
  refine calls_of_wp hf hb ?_
  have hle := Nat.le_of_ble_eq_true hn
  have hlen := VReps.length hvs
  have hr0 : look [(0, r0)] 0 = some r0 := rfl
  have hrow0 := hh.row 0 r0 hr0
  have hone : ∀ k r, look [(0, r0)] k = some r → k = 0 ∧ r = r0 := fun k r hk => by
    rw [look_cons] at hk
    split at hk
    · rename_i h0; exact ⟨h0.symm, (Option.some.inj hk).symm⟩
    · cases hk
  let γ : Nat → Value := fun i => if i = fn.ntmps then η.val 0 else undef
  let W0 : Base := ⟨w, B, fun b => b ∈ bsOf η 0 r0, γ⟩
  have hs : SRep W0 ob ⟨fn.ntmps, (fn.ntmps, ghostOf r0) :: initSl 0 args, [(0, r0)], 1⟩ { tmps := vs.toArray ++ Array.replicate (fn.ntmps - vs.toArray.size) undef, defers := [] } w η := by
    have hsz : (vs.toArray ++ Array.replicate (fn.ntmps - vs.toArray.size) undef).size = fn.ntmps := by simp; omega
    refine ⟨rfl, hsz, Below.refl _ _, ⟨hB, hobl, hfree⟩, fun _ _ _ => rfl, fun b ⟨k, r, hk, hb⟩ => ?_, hh, fun i x hi => ?_⟩
    · obtain ⟨rfl, rfl⟩ := hone k r hk; exact .inl hb
    · simp only at hi
      rw [look_cons] at hi
      split at hi
      · rename_i hni
        subst hni
        have hx := Option.some.inj hi
        subst hx
        have hget : (vs.toArray ++ Array.replicate (fn.ntmps - vs.toArray.size) undef).getD fn.ntmps (W0.γ fn.ntmps) = η.val 0 := by
          have : W0.γ fn.ntmps = η.val 0 := if_pos rfl
          rw [Array.getD_eq_getD_getElem?, Array.getElem?_eq_none (by rw [hsz]; exact Nat.le_refl _), this]; rfl
        rw [hget]
        match r0, hg, hrow0, hone with
        | .ints .., hg, _, _ => simp [tRow] at hg
        | .rows .., hg, _, _ => simp [tRow] at hg
        | .recs .., hg, _, _ => simp [tRow] at hg
        | .cells _ [], hg, _, _ => simp [tRow] at hg
        | .cells _ (y :: l), _, hrow0, _ =>
          obtain ⟨b, h1, _, _, h4⟩ := hrow0
          have := VReps.length h4
          exact ⟨Nat.one_pos, fun r _ => ⟨by rw [← this]; simp, b, by rw [h1]; rfl, h1⟩⟩
      · rename_i hni
        obtain ⟨v, _, h2, h3⟩ := init_look' hvs i x hi
        simp only [Nat.sub_zero] at h2
        have hlt : i < vs.length := (List.getElem?_eq_some_iff.1 h2).1
        have : (vs.toArray ++ Array.replicate (fn.ntmps - vs.toArray.size) undef).getD i (W0.γ i) = v := by
          rw [Array.getD_eq_getD_getElem?, Array.getElem?_append_left (by simpa using hlt)]
          simp [h2]
        rw [this]
        exact h3
  refine wp_mono (acode_sound (w0 := W0) hΓ hm c _ _ _ w h ⟨η, hs⟩) (fun e a' w' hl => ?_)
  obtain ⟨st', hk, η', hs'⟩ := hl
  have fin : ares Γ st' fn.results.toList (tfin fn.ntmps r0 post st') → ∃ v, (results fn a'.tmps).run P w' = .ok v w' ∧ ∃ v' x r' η', Ending.returned v = .returned v' ∧ VRep w' (badOf ob [(0, r')] η') [] 0 η0 x v' ∧ shut x = true ∧ post x r' ∧ Below B w w' ∧
      (∀ b, b < w.heap.size → b ∉ bsOf η 0 r0 → w'.heap[b]? = w.heap[b]?) ∧ tRow r' = true ∧ RowRep w' B (badOf ob [(0, r')] η') [(0, r')] 1 η' 0 r' ∧ (bsOf η' 0 r').Nodup ∧
      (∀ b, b ∈ bsOf η' 0 r' → b ∈ bsOf η 0 r0 ∨ w.heap.size ≤ b) ∧ r'.kind = r0.kind ∧ η'.val 0 = η.val 0 ∧ (η'.cel 0).length = (η.cel 0).length := fun hk => by
    obtain ⟨xs, us, h1, h2, h3⟩ := ares_sound hΓ hs' hk
    have hres := results_run h3
    unfold tfin at h1
    split at h1
    case h_2 => exact h1.elim
    case h_1 x hx =>
      obtain ⟨hsh, hvw⟩ := clv_shut (resx xs) hx
      have hres0 := resx_rep h2
      split at h1
      case h_2 => exact h1.elim
      case h_1 g hgl =>
        split at h1
        case h_2 => exact h1.elim
        case h_1 r' hr' =>
          split at h1
          case h_2 => exact h1.elim
          case h_1 hc =>
            simp only [Bool.and_eq_true] at hc
            obtain ⟨⟨⟨⟨c1, c2⟩, c3⟩, c4⟩, c5⟩ := hc
            have hsz' := Nat.eq_of_beq_eq_true c5
            have hkind := Nat.eq_of_beq_eq_true c1
            · have hrow' := hs'.heap.row 0 r' hr'
              have hkeep : Keeps w' (badOf ob st'.hp η') w' (badOf ob [(0, r')] η') := fun b o x hb hc => by
                refine ⟨?_, hc⟩
                rintro (h1 | ⟨j, r1, hj, hm⟩)
                · exact hb (.inl h1)
                · rw [look_cons] at hj
                  split at hj
                  · rename_i h0
                    subst h0
                    obtain rfl := Option.some.inj hj
                    exact hb (.inr ⟨0, _, hr', hm⟩)
                  · cases hj
              have hfrm : ∀ b, b < w.heap.size → b ∉ bsOf η 0 r0 → w'.heap[b]? = w.heap[b]? := fun b hb hnb => hs'.frame b hb hnb
              have hsrc : ∀ b, b ∈ bsOf η' 0 r' → b ∈ bsOf η 0 r0 ∨ w.heap.size ≤ b := fun b hb => hs'.src b ⟨0, r', hr', hb⟩
              have hnod := hs'.heap.nodup 0 r' hr'
              match r0, r', g, hg, c2, c3, c4, hrow0, hrow', hr', hgl, hkeep, hkind, h1, hfrm, hsrc, hnod with
              | .cells _ (y0 :: l0), .cells e (y :: l), .ptr 0 0, _, _, c3, c4, hrow0, hrow', hr', hgl, hkeep, hkind, h1, hfrm, hsrc, hnod =>
                obtain ⟨b0, p1, p2, p3, p4⟩ := hrow0
                obtain ⟨b1, q1, q2, q3, q4⟩ := hrow'
                have hslot := hs'.slot _ _ hgl
                have hget : a'.tmps.getD fn.ntmps (W0.γ fn.ntmps) = η.val 0 := by
                  have e1 : W0.γ fn.ntmps = η.val 0 := if_pos rfl
                  rw [Array.getD_eq_getD_getElem?, Array.getElem?_eq_none (by rw [hs'.size, hsz']; exact Nat.le_refl _), e1]; rfl
                rw [hget] at hslot
                have hval : η'.val 0 = η.val 0 := by
                  obtain ⟨_, b', e2, e3⟩ := hslot.2 _ hr'
                  rw [q1, ptr_blk] at e2
                  simp only [List.cons.injEq, and_true] at e2
                  rw [q1, e3, e2]
                have hlen' : (η'.cel 0).length = (η.cel 0).length := by
                  have l0' := VReps.length p4
                  have l1' := VReps.length q4
                  have := Nat.eq_of_beq_eq_true c4
                  omega
                have hrv : rowsVw st'.hp [(0, Org.row 0)] 1 [(0, .cells e (y :: l))] := ⟨rfl, by
                  show rowVw st'.hp [(0, Org.row 0)] 1 (.row 0) _
                  simp only [rowVw, hr']
                  exact ⟨trivial, tcells_vws c3⟩, trivial⟩
                have hvr := vw_sound hs'.heap (fun b hb => hs'.free hb) hrv (resx xs) x hvw hres0
                have hkk : Keeps w' (badOf ob [(0, .cells e (y :: l))] (ηV st'.hp η' [(0, Org.row 0)])) w' (badOf ob [(0, .cells e (y :: l))] η') := fun b o z hb hc => by
                  refine ⟨?_, hc⟩
                  rintro (k1 | ⟨j, r1, hj, hm⟩)
                  · exact hb (.inl k1)
                  · rw [look_cons] at hj
                    split at hj
                    · rename_i h0
                      subst h0
                      obtain rfl := Option.some.inj hj
                      exact hb (.inr ⟨0, _, rfl, hm⟩)
                    · cases hj
                have hvr' := shut_rep (hp' := []) (nx' := 0) (η' := η0) hkk x hsh hvr
                refine ⟨_, hres, _, x, .cells e (y :: l), η', rfl, hvr', hsh, h1, hs'.below, hfrm, c3, ⟨b1, q1, q2, q3, tcells_rep hkeep c3 q4⟩, hnod, hsrc, hkind, hval, hlen'⟩
  cases e with
  | ret => exact ⟨hs'.defers, fin hk⟩
  | normal => exact ⟨hs'.defers, fin hk⟩
  | _ => exact hk.elim

/-- a variable's cells have become others -/
theorem SRep.mutT (h : SRep w0 ob st a w η) {k : Nat} {r r' : ARow} {cs' : List Value} (hr : look st.hp k = some r) (hkind : r'.kind = r.kind) (hlen : (η.cel k).length ≤ cs'.length)
    (hw : ∀ b, b < w.heap.size → b ∉ bsOf η k r → w'.heap[b]? = w.heap[b]?) (hB : Below w0.B w w')
    (hnd : (bsOf (η.upd k (η.val k) cs') k r').Nodup) (hfr : ∀ b, b ∈ bsOf (η.upd k (η.val k) cs') k r' → b ∈ bsOf η k r ∨ w.heap.size ≤ b)
    (hrow : RowRep w' w0.B (badOf ob ((st.killSub k).upd k r').hp (η.upd k (η.val k) cs')) ((st.killSub k).upd k r').hp st.nx (η.upd k (η.val k) cs') k r') :
    SRep w0 ob ((st.killSub k).upd k r') a w' (η.upd k (η.val k) cs') := by
  have hoth : ∀ j r1, j ≠ k → look ((st.killSub k).upd k r').hp j = some r1 → ∃ r, look st.hp j = some r ∧ r1 = r.flt (fun _ => true) (ne k) := fun j r1 hj h1 => by
    simp only [St.upd, St.killSub, look_upd, if_neg (Ne.symm hj), look_fltH] at h1
    obtain ⟨r, h2, rfl⟩ := Option.map_eq_some_iff.1 h1
    exact ⟨r, h2, rfl⟩
  have hk' : look ((st.killSub k).upd k r').hp k = some r' := by simp only [St.upd, look_upd, if_true]
  have hok : ∀ j, j < st.nx → OwnOk st.hp η ((st.killSub k).upd k r').hp (η.upd k (η.val k) cs') j := fun j _ => by
    by_cases hjk : j = k
    · subst hjk
      exact ⟨fun r1 h1 => by rw [hk'] at h1; obtain rfl := Option.some.inj h1; exact ⟨r, hr, hkind.symm, upd_val _ _ _ _, by rw [upd_cel]; exact hlen⟩⟩
    · exact OwnOk.of (fun r1 h1 => by obtain ⟨r, h2, rfl⟩ := hoth j r1 hjk h1; exact ⟨r, h2, (kind_flt _ _ r).symm⟩) (upd_ne _ _ _ _ j hjk).1 (upd_ne _ _ _ _ j hjk).2
  have hsk : ∀ j, j < st.nx → ne k j = true → SubOk st.hp η ((st.killSub k).upd k r').hp (η.upd k (η.val k) cs') j := fun j _ hj => by
    have hjk := (ne_spec k j).1 hj
    exact SubOk.of (fun r1 h1 => by obtain ⟨r, h2, rfl⟩ := hoth j r1 hjk h1; exact ⟨r, h2, (kind_flt _ _ r).symm⟩) (upd_ne _ _ _ _ j hjk).2
  obtain ⟨hh, hkp⟩ := HRep.step (k := k) (hp' := ((st.killSub k).upd k r').hp) (nx' := st.nx) (η' := η.upd k (η.val k) cs') (w' := w') h.heap (fun _ => true) (ne k) r' (h.heap.lt k r hr) (Nat.le_refl _)
    (fun j r1 hj h1 => hoth j r1 hj h1) hk' (fun j hj => upd_ne _ _ _ _ j hj)
    (fun b hb hn => hw b hb (hn r hr)) (fun j hj _ => hok j hj) hsk hnd
    (fun b hb => (hfr b hb).imp (fun h1 => ⟨k, r, hr, h1, .inl rfl⟩) id) (fun _ => hrow)
  exact h.heapStep (fun _ => true) (ne k) hB hh hkp (Nat.le_refl _) (fun j hj _ => hok j hj) hsk

theorem tmut_core {f : FuncId} {args args0 : List AVal} {r0 : ARow} {K : AVal → St → Prop} {post : AVal → ARow → Prop} (k : Nat) (hs : TSpec P f r0 args0 post)
    (hk : ∀ x r', post x r' → K x ((st.killSub k).upd k r')) (hlk : look st.hp k = some r0) (hv : vws st.hp [(0, .row k)] 1 args args0) (hr : rowVw st.hp [(0, .row k)] 1 (.row k) r0)
    (hp : pargs args args0 = true) (ht : tRow r0 = true) (h : SRep w0 ob st a w η) (vs : List Value) (hvs : VReps w (fun b => ob b ∨ ownB st.hp η b) st.hp st.nx η args vs) :
    Calls P f vs.toArray w fun e w' => (∃ v x st' η', e = .returned v ∧ K x st' ∧ st'.sz = st.sz ∧ SRep w0 ob st' a w' η' ∧ VRep w' (fun b => ob b ∨ ownB st'.hp η' b) st'.hp st'.nx η' x v) ∧
      w.heap.size ≤ w'.heap.size ∧ ∀ b, b < w.heap.size → b ∉ bsOf η k r0 → w'.heap[b]? = w.heap[b]? := by
  have hrv : rowsVw st.hp [(0, .row k)] 1 [(0, r0)] := ⟨rfl, hr, trivial⟩
  have hfree : ∀ b, ownB st.hp η b → ¬ ob b := fun b hb => h.free hb
  have ha0 := vws_sound (R := [(0, .row k)]) (nx' := 1) h.heap hfree hrv args args0 hv hvs
  let η1 : Env := ηV st.hp η [(0, Org.row k)]
  let ob1 : Nat → Prop := fun b => ob b ∨ ∃ j r, j ≠ k ∧ look st.hp j = some r ∧ b ∈ bsOf η j r
  have hv0 : η1.val 0 = η.val k := rfl
  have hc0 : η1.cel 0 = η.cel k := rfl
  have hbs : ∀ r, bsOf η1 0 r = bsOf η k r := fun r => by simp only [bsOf, hv0, hc0]
  have hone : ∀ j r, look [(0, r0)] j = some r → j = 0 ∧ r = r0 := fun j r hk => by
    rw [look_cons] at hk
    split at hk
    · rename_i h0; exact ⟨h0.symm, (Option.some.inj hk).symm⟩
    · cases hk
  have hdis : ∀ b, b ∈ bsOf η1 0 r0 → ¬ ob1 b := fun b hb => by
    rw [hbs] at hb
    rintro (h1 | ⟨j, r, hj, hl, hm⟩)
    · exact hfree b ⟨k, r0, hlk, hb⟩ h1
    · exact h.heap.apart j r k r0 hl hlk hj b hm hb
  have hkeep : Keeps w (badOf ob st.hp η) w (badOf ob1 [(0, r0)] η1) := fun b o x hb hc => by
    refine ⟨?_, hc⟩
    rintro ((h1 | ⟨j, r, _, hl, hm⟩) | ⟨j, r, hj, hm⟩)
    · exact hb (.inl h1)
    · exact hb (.inr ⟨j, r, hl, hm⟩)
    · obtain ⟨rfl, rfl⟩ := hone j r hj
      rw [hbs] at hm
      exact hb (.inr ⟨k, _, hlk, hm⟩)
  have hh1 : HRep w w0.B ob1 [(0, r0)] 1 η1 := by
    refine ⟨fun j r hj => ?_, fun j r hj => ?_, fun j r j' r' hj hj' hne => ?_, fun j r hj => ?_⟩
    · obtain ⟨rfl, rfl⟩ := hone j r hj
      have hrow := h.heap.row k _ hlk
      match r, ht, hrow with
      | .cells e (y :: l), ht, ⟨b, p1, p2, p3, p4⟩ => exact ⟨b, by rw [hv0]; exact p1, p2, by rw [hc0]; exact p3, by rw [hc0]; exact tcells_rep hkeep ht p4⟩
      | .cells _ [], ht, _ => simp [tRow] at ht
      | .ints .., ht, _ => simp [tRow] at ht
      | .rows .., ht, _ => simp [tRow] at ht
      | .recs .., ht, _ => simp [tRow] at ht
    · obtain ⟨rfl, rfl⟩ := hone j r hj
      rw [hbs]; exact h.heap.nodup k _ hlk
    · obtain ⟨rfl, rfl⟩ := hone j r hj
      obtain ⟨rfl, rfl⟩ := hone j' r' hj'
      exact absurd rfl hne
    · obtain ⟨rfl, rfl⟩ := hone j r hj
      exact Nat.one_pos
  refine (hs.2 w w0.B ob1 η1 vs (wB h) (fun b hb => ?_) hdis hh1 (pargs_rep hkeep args args0 vs hp hv hvs ha0)).mono ?_
  · rcases hb with h1 | ⟨j, r, _, hl, hm⟩
    · exact h.badlt (.inl h1)
    · exact h.badlt (.inr ⟨j, r, hl, hm⟩)
  · rintro e w' ⟨v, x, r', η', rfl, hvx, hsh, hpo, hbel, hfrm, ht', hrow, hnd, hsrc, hkind, hval, hlen⟩
    have hu : (η.upd k (η.val k) (η'.cel 0)).val k = η'.val 0 := by rw [upd_val, hval, hv0]
    have hbs' : bsOf (η.upd k (η.val k) (η'.cel 0)) k r' = bsOf η' 0 r' := by simp only [bsOf, hu, upd_cel]
    have hkeep' : Keeps w' (badOf ob1 [(0, r')] η') w' (badOf ob ((st.killSub k).upd k r').hp (η.upd k (η.val k) (η'.cel 0))) := fun b o x hb hc => by
      refine ⟨?_, hc⟩
      rintro (h1 | ⟨j, r1, hj, hm⟩)
      · exact hb (.inl (.inl h1))
      · by_cases hjk : j = k
        · subst hjk
          simp only [St.upd, look_upd, if_true] at hj
          obtain rfl := Option.some.inj hj
          rw [hbs'] at hm
          exact hb (.inr ⟨0, _, rfl, hm⟩)
        · simp only [St.upd, St.killSub, look_upd, if_neg (Ne.symm hjk), look_fltH] at hj
          obtain ⟨r2, h2, rfl⟩ := Option.map_eq_some_iff.1 hj
          rw [bsOf_flt, bsOf_congr (upd_ne _ _ _ _ j hjk).1 (upd_ne _ _ _ _ j hjk).2 rfl] at hm
          exact hb (.inl (.inr ⟨j, r2, hjk, h2, hm⟩))
    have hs' := SRep.mutT (w' := w') h (cs' := η'.cel 0) hlk hkind (by rw [hlen, hc0]; exact Nat.le_refl _) (fun b hb hn => hfrm b hb (by rw [hbs]; exact hn)) hbel
      (by rw [hbs']; exact hnd) (fun b hb => by rw [hbs'] at hb; rw [← hbs]; exact hsrc b hb) (by
        match r', ht', hrow with
        | .cells e (y :: l), ht', ⟨b, p1, p2, p3, p4⟩ => exact ⟨b, by rw [hu]; exact p1, p2, by rw [upd_cel]; exact p3, by rw [upd_cel]; exact tcells_rep hkeep' ht' p4⟩
        | .cells _ [], ht', _ => simp [tRow] at ht'
        | .ints .., ht', _ => simp [tRow] at ht'
        | .rows .., ht', _ => simp [tRow] at ht'
        | .recs .., ht', _ => simp [tRow] at ht')
    exact ⟨⟨v, x, _, _, rfl, hk x r' hpo, rfl, hs', shut_rep hkeep' x hsh hvx⟩, hbel.size, fun b hb hn => hfrm b hb (by rw [hbs]; exact hn)⟩

theorem ACallS.tmut {f : FuncId} {args args0 : List AVal} {r0 : ARow} {K : AVal → St → Prop} {post : AVal → ARow → Prop} (k : Nat) (hs : TSpec P f r0 args0 post)
    (hk : ∀ x r', post x r' → K x ((st.killSub k).upd k r')) (hlk : look st.hp k = some r0) (hv : vws st.hp [(0, .row k)] 1 args args0) (hr : rowVw st.hp [(0, .row k)] 1 (.row k) r0)
    (hp : pargs args args0 = true := by rfl) (ht : tRow r0 = true := by rfl) : ACallS P st f args K :=
  ⟨hs.1, fun _ _ _ _ _ h vs hvs => (tmut_core k hs hk hlk hv hr hp ht h vs hvs).mono fun _ _ h => h.1⟩

theorem ACallT.tmut {f : FuncId} {args args0 : List AVal} {r0 : ARow} {K : AVal → St → Prop} {post : AVal → ARow → Prop} (hs : TSpec P f r0 args0 post)
    (hk : ∀ x r', post x r' → K x ((st.killSub 0).upd 0 r')) (hlk : look st.hp 0 = some r0) (hv : vws st.hp [(0, .row 0)] 1 args args0) (hr : rowVw st.hp [(0, .row 0)] 1 (.row 0) r0)
    (hp : pargs args args0 = true := by rfl) (ht : tRow r0 = true := by rfl) : ACallT P st f args K :=
  ⟨hs.1, fun _ _ _ _ _ h vs hvs => (tmut_core 0 hs hk hlk hv hr hp ht h vs hvs).mono fun _ _ h => ⟨h.1, h.2.1, fun r hr => by
    rw [hlk] at hr
    obtain rfl := Option.some.inj hr
    exact h.2.2⟩⟩

/-- .. of a number, of a list: the contract's arguments are the call's -/
theorem ACallT.tmutI {f : FuncId} {n : Int} {r0 : ARow} {K : AVal → St → Prop} {post : AVal → ARow → Prop} (hs : TSpec P f r0 [.ptr 0 0, .c (.int .i64 n)] post)
    (hk : ∀ x r', post x r' → K x ((st.killSub 0).upd 0 r')) (hlk : look st.hp 0 = some r0) (hr : rowVw st.hp [(0, .row 0)] 1 (.row 0) r0)
    (ht : tRow r0 = true := by rfl) : ACallT P st f [.ptr 0 0, .c (.int .i64 n)] K := ACallT.tmut hs hk hlk ⟨⟨rfl, rfl, rfl⟩, rfl, trivial⟩ hr rfl ht
theorem ACallT.tmutL {f : FuncId} {k : IntKind} {l : List Int} {r0 : ARow} {K : AVal → St → Prop} {post : AVal → ARow → Prop} (hs : TSpec P f r0 [.ptr 0 0, .t (.ints k l)] post)
    (hk : ∀ x r', post x r' → K x ((st.killSub 0).upd 0 r')) (hlk : look st.hp 0 = some r0) (hr : rowVw st.hp [(0, .row 0)] 1 (.row 0) r0)
    (ht : tRow r0 = true := by rfl) : ACallT P st f [.ptr 0 0, .t (.ints k l)] K := ACallT.tmut hs hk hlk ⟨⟨rfl, rfl, rfl⟩, rfl, trivial⟩ hr rfl ht

theorem give_core {j e : Nat} {kd : IntKind} {l : List Int} (hr : look st.hp j = some (.ints e kd l)) (hj : j ≠ 0) (h : SRep w0 ob st a w η) {vs : List Value}
    (hvs : VReps w (fun b => ob b ∨ ownB st.hp η b) st.hp st.nx η [.ptr 0 0, .own j] vs) : VReps w (fun b => ob b ∨ ownB (st.del j).hp η b) (st.del j).hp (st.del j).nx η [.ptr 0 0, .t (.ints kd l)] vs := by
  match vs, hvs with
  | [v1, v2], ⟨h1, h2, _⟩ =>
    refine ⟨⟨h1.1, fun r hr' => h1.2 r (by simpa [St.del, look_rem_ne _ _ _ (Ne.symm hj)] using hr')⟩, ?_, trivial⟩
    have hrow := h.heap.row j _ hr
    have e2 := (h2.2 _ hr).2
    subst e2
    refine own_intsB hrow.1 (fun b hb => ?_)
    have hm : b ∈ bsOf η j (.ints e kd l) := by simp [bsOf, ARow.kind, hb]
    rintro (h3 | ⟨j', r', hj', hm'⟩)
    · exact h.free ⟨j, _, hr, hm⟩ h3
    · simp only [St.del] at hj'
      by_cases e3 : j' = j
      · subst e3; rw [look_rem] at hj'; cases hj'
      · rw [look_rem_ne _ _ _ e3] at hj'
        exact h.heap.apart j' r' j _ hj' hr e3 b hm' hm

/-- a list of the call's own is given away, read-only from here on -/
theorem ACallS.give {f : FuncId} {j e : Nat} {kd : IntKind} {l : List Int} {K : AVal → St → Prop} (h : ACallS P (st.del j) f [.ptr 0 0, .t (.ints kd l)] K)
    (hr : look st.hp j = some (.ints e kd l) := by rfl) (hj : Nat.beq j 0 = false := by rfl) : ACallS P st f [.ptr 0 0, .own j] K := by
  have hj : j ≠ 0 := fun e => by rw [e] at hj; cases hj
  exact ⟨h.fok, fun w0 ob a w η hs vs hvs => (h.run w0 ob a w η (hs.giveUp j) vs (give_core hr hj hs hvs)).mono fun e w' h => h⟩
theorem ACallT.give {f : FuncId} {j e : Nat} {kd : IntKind} {l : List Int} {K : AVal → St → Prop} (h : ACallT P (st.del j) f [.ptr 0 0, .t (.ints kd l)] K)
    (hr : look st.hp j = some (.ints e kd l) := by rfl) (hj : Nat.beq j 0 = false := by rfl) : ACallT P st f [.ptr 0 0, .own j] K := by
  have hj : j ≠ 0 := fun e => by rw [e] at hj; cases hj
  refine ⟨h.fok, fun w0 ob a w η hs vs hvs => (h.run w0 ob a w η (hs.giveUp j) vs (give_core hr hj hs hvs)).mono fun e w' h => ⟨h.1, h.2.1, fun r hr' => h.2.2 r ?_⟩⟩
  show look (rem j st.hp) 0 = some r
  rw [look_rem_ne _ _ _ (Ne.symm hj)]; exact hr'
end
end Go.Aw
