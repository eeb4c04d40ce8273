/- Calls that write one row of their caller; calls that are walked into. -/
import Derived.Test.YtpakfehinfcdoaaAw18
namespace Go.Aw
open Go.RowKit

def plainC : List AVal → Bool
  | [] => true
  | .c _ :: r => plainC r
  | _ => false

/-- a row that leads to no other memory -/
def plainRow : ARow → Bool
  | .ints .. => true
  | .rows _ _ true _ => true
  | .cells _ l => plainC l
  | _ => false

section
variable {P : Program} {Γ : Tys} {w0 : Base} {w w' : World} {ob : Nat → Prop} {st : St} {a : Act} {η : Env}

theorem plainC_rep {bad bad' : Nat → Prop} {hp hp' : List (Nat × ARow)} {nx nx' : Nat} {η η' : Env} : ∀ {l : List AVal} {vs : List Value}, plainC l = true → VReps w bad hp nx η l vs → VReps w' bad' hp' nx' η' l vs
  | [], [], _, _ => trivial
  | .c _ :: l, _ :: vs, h, hv => ⟨hv.1, plainC_rep (l := l) (by simpa [plainC] using h) hv.2⟩
  | [], _ :: _, _, h => h.elim
  | .c _ :: _, [], _, h => h.elim
  | .un :: _, _, h, _ => by simp [plainC] at h
  | .t _ :: _, _, h, _ => by simp [plainC] at h
  | .ag _ :: _, _, h, _ => by simp [plainC] at h
  | .tu _ :: _, _, h, _ => by simp [plainC] at h
  | .own _ :: _, _, h, _ => by simp [plainC] at h
  | .sub _ _ :: _, _, h, _ => by simp [plainC] at h
  | .ptr _ _ :: _, _, h, _ => by simp [plainC] at h
  | .subp _ _ _ :: _, _, h, _ => by simp [plainC] at h
  | .adr _ _ :: _, _, h, _ => by simp [plainC] at h
  | .rp _ _ :: _, _, h, _ => by simp [plainC] at h
  | .clo _ _ :: _, _, h, _ => by simp [plainC] at h
  | .knot _ _ _ :: _, _, h, _ => by simp [plainC] at h
  | .nul :: _, _, h, _ => by simp [plainC] at h

theorem plain_rep {B : Nat} {bad bad' : Nat → Prop} {hp hp' : List (Nat × ARow)} {nx nx' k k' : Nat} {η η' : Env} : ∀ {r : ARow}, plainRow r = true → RowRep w B bad hp nx η k r → η'.val k' = η.val k → η'.cel k' = η.cel k → RowRep w B bad' hp' nx' η' k' r
  | .ints .., _, h, hv, hc => by simp only [RowRep, hv, hc]; exact h
  | .rows _ _ true _, _, h, hv, hc => by simp only [RowRep, hv, hc]; exact h
  | .rows _ _ false _, hp, _, _, _ => by simp [plainRow] at hp
  | .recs .., hp, _, _, _ => by simp [plainRow] at hp
  | .cells _ l, hp, ⟨b, h1, h2, h3, h4⟩, hv, hc => ⟨b, by rw [hv]; exact h1, h2, by rw [hc]; exact h3, by rw [hc]; exact plainC_rep (by simpa [plainRow] using hp) h4⟩

/-- A FUNCTION THAT WRITES A ROW OF ITS CALLER (key 0): it hands back a plain value, and the row holds something else -/
def MSpec (P : Program) (f : FuncId) (r0 : ARow) (args : List AVal) (post : Value → ARow → Prop) : Prop := FOk P f ∧
  ∀ (w : World) (B : Nat) (ob : Nat → Prop) (η : Env) (vs : List Value), B ≤ w.heap.size → (∀ b, ob b → b < w.heap.size) → (∀ b, b ∈ bsOf η 0 r0 → ¬ ob b) →
    HRep w B ob [(0, r0)] 1 η → VReps w (badOf ob [(0, r0)] η) [(0, r0)] 1 η args vs →
    Calls P f vs.toArray w fun e w' => ∃ v r' η', e = .returned v ∧ v.oneCell' = true ∧ post v r' ∧ Below B w w' ∧
      (∀ b, b < w.heap.size → b ∉ bsOf η 0 r0 → w'.heap[b]? = w.heap[b]?) ∧ plainRow r' = true ∧ RowRep w' B (fun _ => False) [] 0 η' 0 r' ∧ (bsOf η' 0 r').Nodup ∧
      (∀ b, b ∈ bsOf η' 0 r' → b ∈ bsOf η 0 r0 ∨ w.heap.size ≤ b) ∧ r'.kind = r0.kind ∧ η'.val 0 = η.val 0 ∧ (η'.cel 0).length = (η.cel 0).length

def exM (v0 : Value) (r1 : ARow) : Value → ARow → Prop := fun v r => v = v0 ∧ r = r1

def ghostOf : ARow → AVal
  | .cells .. => .ptr 0 0
  | _ => .own 0

def ghostOk : ARow → Bool
  | .cells _ [] => false
  | .rows _ _ false _ => false
  | .recs .. => false
  | _ => true

def isGhost (r : ARow) (x : AVal) : Bool :=
  match r, x with
  | .cells .., .ptr 0 0 => true
  | .ints .., .own 0 => true
  | .rows .., .own 0 => true
  | _, _ => false

def sameLen : ARow → ARow → Bool
  | .cells _ l, .cells _ l' => Nat.beq l.length l'.length
  | _, _ => true

def mfin (sz : Nat) (r0 : ARow) (post : Value → ARow → Prop) (st : St) (l : List AVal) : Prop :=
  match l with
  | [.c v] => match look st.sl sz with
    | some g => match look st.hp 0 with
      | some r' => match Nat.beq r'.kind r0.kind && isGhost r' g && plainRow r' && sameLen r0 r' && Nat.beq st.sz sz with
        | true => post v r'
        | false => False
      | none => False
    | none => False
  | _ => False

def mend (Γ : Tys) (rs : List ResultVar) (sz : Nat) (r0 : ARow) (post : Value → ARow → Prop) : Exit → St → Prop
  | .ret, st => ares Γ st rs (mfin sz r0 post st)
  | .normal, st => ares Γ st rs (mfin sz r0 post st)
  | _, _ => False

theorem init_look' {bad : Nat → Prop} {hp : List (Nat × ARow)} {nx : Nat} : ∀ {l : List AVal} {vs : List Value} {n : Nat}, VReps w bad hp nx η l vs → ∀ i x, look (initSl n l) i = some x → ∃ v, n ≤ i ∧ vs[i - n]? = some v ∧ VRep w bad hp nx η x v
  | [], [], n, _, i, x, h => by simp [initSl, look] at h
  | y :: l, v :: vs, n, hr, i, x, h => by
    simp only [initSl] at h
    rw [look_cons] at h
    split at h
    · rename_i hni
      simp only [Option.some.injEq] at h
      subst hni h
      exact ⟨v, Nat.le_refl _, by simp, hr.1⟩
    · obtain ⟨u, h1, h2, h3⟩ := init_look' hr.2 i x h
      refine ⟨u, by omega, ?_, h3⟩
      rw [show i - n = (i - (n + 1)) + 1 by omega]
      simpa using h2
  | [], _ :: _, _, h, _, _, _ => h.elim
  | _ :: _, [], _, h, _, _, _ => h.elim

theorem ownsRow_len {B B' e e' n n' : Nat} {v : Value} {xs xs' : List Value} (h : w.ownsRow B e 1 v n xs) (h' : w'.ownsRow B' e' 1 v n' xs') : xs'.length = xs.length := by
  have h1 := h.1
  have h1' := h'.1
  rcases h.2 with ⟨rfl, h2⟩ | ⟨g, cap, cur, rfl, _⟩ <;> rcases h'.2 with ⟨e2, h2'⟩ | ⟨g', cap', cur', e2, _⟩
  · omega
  · cases e2
  · cases e2
  · simp only [Value.slice.injEq] at e2
    omega

theorem results_run {fn : Func} {tmps : Array Value} {vs : List Value} (h3 : (fn.results.toList.mapM (resOf tmps)).run P w = .ok vs w) :
    (results fn tmps).run P w = .ok (if hh : vs.toArray.size = 1 then vs.toArray[0] else .tuple vs.toArray) w := by
  have e : results fn tmps = (do
      let vs ← fn.results.mapM (resOf tmps)
      Pure.pure (if h : vs.size = 1 then vs[0] else .tuple vs)) := rfl
  rw [e, Array.mapM_eq_mapM_toList]
  simp only [Sem.run_bind, Sem.run_map, h3, Result.andThen_ok, Sem.run_pure]

theorem ptr_blk {b : Nat} : blk (.pointer (some ⟨b, 0, none⟩)) = [b] := rfl

/-- THE CONTRACT OF SUCH A FUNCTION, by its text -/
theorem mspec (hΓ : TysOk P Γ) (hm : P.follows .mixedOrders = true) {f : FuncId} {fn : Func} {c : Code} {r0 : ARow} {args : List AVal} {post : Value → ARow → Prop} (hf : P.funcs[f]? = some fn) (hb : fn.body = some c)
    (hname : (fn.name == "runtime.NumGoroutine") = false) (hn : Nat.ble args.length fn.ntmps = true) (hg : ghostOk r0 = true)
    (h : acode P Γ c ⟨fn.ntmps, (fn.ntmps, ghostOf r0) :: initSl 0 args, [(0, r0)], 1⟩ (mend Γ fn.results.toList fn.ntmps r0 post)) : MSpec P f r0 args post := by
  refine ⟨⟨fn, hf, hname, by rw [hb]; rfl⟩, fun w B ob η vs hB hobl hfree hh hvs => ?_⟩
  refine calls_of_wp hf hb ?_
  have hle := Nat.le_of_ble_eq_true hn
  have hlen := VReps.length hvs
  have hr0 : look [(0, r0)] 0 = some r0 := rfl
  have hrow0 := hh.row 0 r0 hr0
  have hone : ∀ k r, look [(0, r0)] k = some r → k = 0 ∧ r = r0 := fun k r hk => by
    rw [look_cons] at hk
    split at hk
    · rename_i h0; exact ⟨h0.symm, (Option.some.inj hk).symm⟩
    · cases hk
  let γ : Nat → Value := fun i => if i = fn.ntmps then η.val 0 else undef
  let W0 : Base := ⟨w, B, fun b => b ∈ bsOf η 0 r0, γ⟩
  have hs : SRep W0 ob ⟨fn.ntmps, (fn.ntmps, ghostOf r0) :: initSl 0 args, [(0, r0)], 1⟩ { tmps := vs.toArray ++ Array.replicate (fn.ntmps - vs.toArray.size) undef, defers := [] } w η := by
    have hsz : (vs.toArray ++ Array.replicate (fn.ntmps - vs.toArray.size) undef).size = fn.ntmps := by simp; omega
    refine ⟨rfl, hsz, Below.refl _ _, ⟨hB, hobl, hfree⟩, fun _ _ _ => rfl, fun b ⟨k, r, hk, hb⟩ => ?_, hh, fun i x hi => ?_⟩
    · obtain ⟨rfl, rfl⟩ := hone k r hk; exact .inl hb
    · simp only at hi
      rw [look_cons] at hi
      split at hi
      · rename_i hni
        subst hni
        have hx := Option.some.inj hi
        subst hx
        have hget : (vs.toArray ++ Array.replicate (fn.ntmps - vs.toArray.size) undef).getD fn.ntmps (W0.γ fn.ntmps) = η.val 0 := by
          have : W0.γ fn.ntmps = η.val 0 := if_pos rfl
          rw [Array.getD_eq_getD_getElem?, Array.getElem?_eq_none (by rw [hsz]; exact Nat.le_refl _), this]; rfl
        rw [hget]
        match r0, hg, hrow0, hone with
        | .ints .., _, _, hone => exact ⟨Nat.one_pos, fun r hk => by obtain ⟨_, rfl⟩ := hone 0 r hk; exact ⟨by simp [ARow.kind], rfl⟩⟩
        | .rows _ _ true _, _, _, hone => exact ⟨Nat.one_pos, fun r hk => by obtain ⟨_, rfl⟩ := hone 0 r hk; exact ⟨by simp [ARow.kind], rfl⟩⟩
        | .rows _ _ false _, hg, _, _ => simp [ghostOk] at hg
        | .cells _ [], hg, _, _ => simp [ghostOk] at hg
        | .recs .., hg, _, _ => simp [ghostOk] at hg
        | .cells _ (y :: l), _, hrow0, _ =>
          obtain ⟨b, h1, _, _, h4⟩ := hrow0
          have := VReps.length h4
          exact ⟨Nat.one_pos, fun r _ => ⟨by rw [← this]; simp, b, by rw [h1]; rfl, h1⟩⟩
      · rename_i hni
        obtain ⟨v, _, h2, h3⟩ := init_look' hvs i x hi
        simp only [Nat.sub_zero] at h2
        have hlt : i < vs.length := (List.getElem?_eq_some_iff.1 h2).1
        have : (vs.toArray ++ Array.replicate (fn.ntmps - vs.toArray.size) undef).getD i (W0.γ i) = v := by
          rw [Array.getD_eq_getD_getElem?, Array.getElem?_append_left (by simpa using hlt)]
          simp [h2]
        rw [this]
        exact h3
  refine wp_mono (acode_sound (w0 := W0) hΓ hm c _ _ _ w h ⟨η, hs⟩) (fun e a' w' hl => ?_)
  obtain ⟨st', hk, η', hs'⟩ := hl
  have fin : ares Γ st' fn.results.toList (mfin fn.ntmps r0 post st') → ∃ v, (results fn a'.tmps).run P w' = .ok v w' ∧ ∃ v' r' η', Ending.returned v = .returned v' ∧ v'.oneCell' = true ∧ post v' r' ∧ Below B w w' ∧
      (∀ b, b < w.heap.size → b ∉ bsOf η 0 r0 → w'.heap[b]? = w.heap[b]?) ∧ plainRow r' = true ∧ RowRep w' B (fun _ => False) [] 0 η' 0 r' ∧ (bsOf η' 0 r').Nodup ∧
      (∀ b, b ∈ bsOf η' 0 r' → b ∈ bsOf η 0 r0 ∨ w.heap.size ≤ b) ∧ r'.kind = r0.kind ∧ η'.val 0 = η.val 0 ∧ (η'.cel 0).length = (η.cel 0).length   := fun hk => by
    obtain ⟨xs, us, h1, h2, h3⟩ := ares_sound hΓ hs' hk
    have hres := results_run h3
    unfold mfin at h1
    split at h1
    case h_2 => exact h1.elim
    case h_1 v =>
      split at h1
      case h_2 => exact h1.elim
      case h_1 g hgl =>
        split at h1
        case h_2 => exact h1.elim
        case h_1 r' hr' =>
          split at h1
          case h_2 => exact h1.elim
          case h_1 hc =>
            simp only [Bool.and_eq_true] at hc
            obtain ⟨⟨⟨⟨c1, c2⟩, c3⟩, c4⟩, c5⟩ := hc
            have hsz' := Nat.eq_of_beq_eq_true c5
            have hkind := Nat.eq_of_beq_eq_true c1
            match us, h2 with
            | [u], h2 =>
              obtain ⟨rfl, hone'⟩ := h2.1
              have hrow' := hs'.heap.row 0 r' hr'
              have hval : η'.val 0 = η.val 0 := by
                have hslot := hs'.slot _ _ hgl
                have hget : a'.tmps.getD fn.ntmps (W0.γ fn.ntmps) = η.val 0 := by
                  have e1 : W0.γ fn.ntmps = η.val 0 := if_pos rfl
                  rw [Array.getD_eq_getD_getElem?, Array.getElem?_eq_none (by rw [hs'.size, hsz']; exact Nat.le_refl _), e1]; rfl
                rw [hget] at hslot
                clear hgl
                match r', g, c2, hrow', hslot, hr' with
                | .ints .., .own 0, _, _, hslot, hr' => exact ((hslot.2 _ hr').2).symm
                | .rows .., .own 0, _, _, hslot, hr' => exact ((hslot.2 _ hr').2).symm
                | .cells .., .ptr 0 0, _, ⟨b, e1, _⟩, hslot, hr' =>
                  obtain ⟨_, b', e2, e3⟩ := hslot.2 _ hr'
                  rw [e1, ptr_blk] at e2
                  simp only [List.cons.injEq, and_true] at e2
                  rw [e1, e3, e2]
              have hlen' : (η'.cel 0).length = (η.cel 0).length := by
                have l1 := row_len hrow'
                have l0 := row_len hrow0
                clear hs hs' hr' hgl h
                match r0, r', hkind, c4, hrow0, hrow', l0, l1 with
                | .recs .., .recs .., _, _, g0, g1, l0, l1 =>
                  have c3' := c3; simp [plainRow] at c3'
                | .recs .., .ints .., hk, _, _, _, _, _ => simp [ARow.kind] at hk
                | .recs .., .rows _ _ true _, hk, _, _, _, _, _ => simp [ARow.kind] at hk
                | .recs .., .rows _ _ false _, hk, _, _, _, _, _ => simp [ARow.kind] at hk
                | .recs .., .cells .., hk, _, _, _, _, _ => simp [ARow.kind] at hk
                | .ints .., .recs .., hk, _, _, _, _, _ => simp [ARow.kind] at hk
                | .rows _ _ true _, .recs .., hk, _, _, _, _, _ => simp [ARow.kind] at hk
                | .rows _ _ false _, .recs .., hk, _, _, _, _, _ => simp [ARow.kind] at hk
                | .cells .., .recs .., hk, _, _, _, _, _ => simp [ARow.kind] at hk
                | .ints .., .ints .., _, _, g0, g1, l0, l1 =>
                  have q0 := g0.1; have q1 := g1.1
                  rw [hval] at q1
                  have := ownsRow_len q0 q1
                  simp only [List.length_map] at this
                  simp only at l0 l1
                  omega
                | .rows _ _ true _, .rows _ _ true _, _, _, g0, g1, l0, l1 =>
                  have q0 := g0.1; have q1 := g1.1
                  rw [hval] at q1
                  exact ownsRow_len q0 q1
                | .rows _ _ false _, .rows _ _ false _, _, _, g0, g1, l0, l1 =>
                  have q0 := g0.1; have q1 := g1.1
                  rw [hval] at q1
                  exact ownsRow_len q0 q1
                | .cells _ l, .cells _ l', _, c4, g0, g1, l0, l1 =>
                  have := Nat.eq_of_beq_eq_true c4
                  simp only at l0 l1
                  omega
                | .ints .., .rows _ _ true _, hk, _, _, _, _, _ => simp [ARow.kind] at hk
                | .ints .., .rows _ _ false _, hk, _, _, _, _, _ => simp [ARow.kind] at hk
                | .ints .., .cells .., hk, _, _, _, _, _ => simp [ARow.kind] at hk
                | .rows _ _ true _, .ints .., hk, _, _, _, _, _ => simp [ARow.kind] at hk
                | .rows _ _ true _, .rows _ _ false _, hk, _, _, _, _, _ => simp [ARow.kind] at hk
                | .rows _ _ true _, .cells .., hk, _, _, _, _, _ => simp [ARow.kind] at hk
                | .rows _ _ false _, .ints .., hk, _, _, _, _, _ => simp [ARow.kind] at hk
                | .rows _ _ false _, .rows _ _ true _, hk, _, _, _, _, _ => simp [ARow.kind] at hk
                | .rows _ _ false _, .cells .., hk, _, _, _, _, _ => simp [ARow.kind] at hk
                | .cells .., .ints .., hk, _, _, _, _, _ => simp [ARow.kind] at hk
                | .cells .., .rows _ _ true _, hk, _, _, _, _, _ => simp [ARow.kind] at hk
                | .cells .., .rows _ _ false _, hk, _, _, _, _, _ => simp [ARow.kind] at hk
              refine ⟨_, by rw [hres]; rfl, u, r', η', rfl, hone', h1, hs'.below, fun b hb hnb => hs'.frame b hb hnb, c3, plain_rep c3 hrow' rfl rfl, hs'.heap.nodup 0 r' hr', fun b hb => hs'.src b ⟨0, r', hr', hb⟩, hkind, hval, hlen'⟩
  cases e with
  | ret => exact ⟨hs'.defers, fin hk⟩
  | normal => exact ⟨hs'.defers, fin hk⟩
  | _ => exact hk.elim
end
end Go.Aw
