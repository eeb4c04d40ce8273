/- Calls that write a variable of their caller, and hand back rows that are new. -/
import Derived.Test.YtkjdplglenjijaaM3
namespace Go.Aw
open Go.RowKit

/-- A FUNCTION THAT WRITES A VARIABLE OF ITS CALLER (key 0) AND HANDS BACK ROWS OF ITS OWN -/
def OSpec (P : Program) (f : FuncId) (r0 : ARow) (args : List AVal) (post : AVal → List (Nat × ARow) → ARow → Prop) : Prop := FOk P f ∧
  ∀ (w : World) (B : Nat) (ob : Nat → Prop) (η : Env) (vs : List Value), B ≤ w.heap.size → (∀ b, ob b → b < w.heap.size) → (∀ b, b ∈ bsOf η 0 r0 → ¬ ob b) →
    HRep w B ob [(0, r0)] 1 η → VReps w (badOf ob [(0, r0)] η) [(0, r0)] 1 η args vs →
    Calls P f vs.toArray w fun e w' => ∃ v x h ηh r' η', e = .returned v ∧ post x h r' ∧ noSh x = true ∧ rowsOwn h = true ∧ HRep w' w.heap.size (fun _ => False) h h.length ηh ∧
      VRep w' (fun b => False ∨ ownB h ηh b) h h.length ηh x v ∧ Below B w w' ∧
      (∀ b, b < w.heap.size → b ∉ bsOf η 0 r0 → w'.heap[b]? = w.heap[b]?) ∧ tRow r' = true ∧ RowRep w' B (fun b => badOf ob [(0, r')] η' b ∨ ownB h ηh b) [(0, r')] 1 η' 0 r' ∧ (bsOf η' 0 r').Nodup ∧
      r'.kind = r0.kind ∧ η'.val 0 = η.val 0 ∧ (η'.cel 0).length = (η.cel 0).length

def ofin (sz : Nat) (r0 : ARow) (post : AVal → List (Nat × ARow) → ARow → Prop) (st : St) (l : List AVal) : Prop :=
  match look st.sl sz with
  | some g => match look st.hp 0 with
    | some r' => match Nat.beq r'.kind r0.kind && isGhost r' g && tRow r' && sameLen r0 r' && Nat.beq st.sz sz with
      | true => afin st (resx l) fun x h => match noSh x && rowsOwn h with | true => post x h r' | false => False
      | false => False
    | none => False
  | none => False

def oend (Γ : Tys) (rs : List ResultVar) (sz : Nat) (r0 : ARow) (post : AVal → List (Nat × ARow) → ARow → Prop) : Exit → St → Prop
  | .ret, st => ares Γ st rs (ofin sz r0 post st)
  | .normal, st => ares Γ st rs (ofin sz r0 post st)
  | _, _ => False

section
variable {P : Program} {Γ : Tys} {w0 : Base} {w w' : World} {ob : Nat → Prop} {st : St} {a : Act} {η : Env}

theorem ownsRow_raise {B B1 e n : Nat} {v : Value} {len : Nat} {xs : List Value} (h : w.ownsRow B e n v len xs) (hb : ∀ b, b ∈ blk v → B1 ≤ b) : w.ownsRow B1 e n v len xs := by
  refine ⟨h.1, ?_⟩
  rcases h.2 with h2 | ⟨g, cap, cur, h1, hg, h3⟩
  · exact .inl h2
  · exact .inr ⟨g, cap, cur, h1, hb g (by rw [h1]; simp [blk]), h3⟩

theorem HRep.raise {B B1 : Nat} {hp : List (Nat × ARow)} {nx : Nat} (h : HRep w B ob hp nx η) (ho : rowsOwn hp = true) (hb : ∀ b, ownB hp η b → B1 ≤ b) : HRep w B1 ob hp nx η := by
  refine ⟨fun k r hr => ?_, h.nodup, h.apart, h.lt⟩
  have hrow := h.row k r hr
  have hbk : ∀ b, b ∈ bsOf η k r → B1 ≤ b := fun b hm => hb b ⟨k, r, hr, hm⟩
  match r, rowsOwn_at ho k r hr, hbk, hrow with
  | .ints e kd l, _, hbk, hrow => exact ⟨ownsRow_raise hrow.1 (fun b hm => hbk b (by simpa [bsOf, ARow.kind] using hm)), hrow.2⟩
  | .rows e e1 true m, _, hbk, hrow =>
    refine ⟨ownsRow_raise hrow.1 (fun b hm => hbk b (by simp [bsOf, ARow.kind, hm])), ?_⟩
    refine F2.intro (F2.length hrow.2) (fun i l u hl hu => ?_)
    obtain ⟨u', hu', h'⟩ := F2.at hrow.2 hl
    rw [hu] at hu'
    obtain rfl := Option.some.inj hu'
    exact ownsRow_raise h' (fun b hm => hbk b (by
      simp only [bsOf, ARow.kind, if_true]
      exact List.mem_append.2 (.inr (List.mem_flatMap.2 ⟨u, List.mem_of_getElem? hu, hm⟩))))
  | .rows _ _ false _, hk, _, _ => simp [ARow.kind] at hk
  | .cells .., hk, _, _ => simp [ARow.kind] at hk
  | .recs .., hk, _, _ => simp [ARow.kind] at hk
theorem ospec (hΓ : TysOk P Γ) (hm : P.follows .mixedOrders = true) {f : FuncId} {fn : Func} {c : Code} {r0 : ARow} {args : List AVal} {post : AVal → List (Nat × ARow) → ARow → Prop} (hf : P.funcs[f]? = some fn) (hb : fn.body = some c)
    (hname : (fn.name == "runtime.NumGoroutine") = false) (hn : Nat.ble args.length fn.ntmps = true) (hg : tRow r0 = true)
    (h : acode P Γ c ⟨fn.ntmps, (fn.ntmps, ghostOf r0) :: initSl 0 args, [(0, r0)], 1⟩ (oend Γ fn.results.toList fn.ntmps r0 post)) : OSpec P f r0 args post := by
  refine ⟨⟨fn, hf, hname, by rw [hb]; rfl⟩, fun w B ob η vs hB hobl hfree hh hvs => ?_⟩
  refine calls_of_wp hf hb ?_
  have hle := Nat.le_of_ble_eq_true hn
  have hlen := VReps.length hvs
  have hr0 : look [(0, r0)] 0 = some r0 := rfl
  have hrow0 := hh.row 0 r0 hr0
  have hone : ∀ k r, look [(0, r0)] k = some r → k = 0 ∧ r = r0 := fun k r hk => by
    rw [look_cons] at hk
    split at hk
    · rename_i h0; exact ⟨h0.symm, (Option.some.inj hk).symm⟩
    · cases hk
  let γ : Nat → Value := fun i => if i = fn.ntmps then η.val 0 else undef
  let W0 : Base := ⟨w, B, fun b => b ∈ bsOf η 0 r0, γ⟩
  have hs : SRep W0 ob ⟨fn.ntmps, (fn.ntmps, ghostOf r0) :: initSl 0 args, [(0, r0)], 1⟩ { tmps := vs.toArray ++ Array.replicate (fn.ntmps - vs.toArray.size) undef, defers := [] } w η := by
    have hsz : (vs.toArray ++ Array.replicate (fn.ntmps - vs.toArray.size) undef).size = fn.ntmps := by simp; omega
    refine ⟨rfl, hsz, Below.refl _ _, ⟨hB, hobl, hfree⟩, fun _ _ _ => rfl, fun b ⟨k, r, hk, hb⟩ => ?_, hh, fun i x hi => ?_⟩
    · obtain ⟨rfl, rfl⟩ := hone k r hk; exact .inl hb
    · simp only at hi
      rw [look_cons] at hi
      split at hi
      · rename_i hni
        subst hni
        have hx := Option.some.inj hi
        subst hx
        have hget : (vs.toArray ++ Array.replicate (fn.ntmps - vs.toArray.size) undef).getD fn.ntmps (W0.γ fn.ntmps) = η.val 0 := by
          have : W0.γ fn.ntmps = η.val 0 := if_pos rfl
          rw [Array.getD_eq_getD_getElem?, Array.getElem?_eq_none (by rw [hsz]; exact Nat.le_refl _), this]; rfl
        rw [hget]
        match r0, hg, hrow0, hone with
        | .ints .., hg, _, _ => simp [tRow] at hg
        | .rows .., hg, _, _ => simp [tRow] at hg
        | .recs .., hg, _, _ => simp [tRow] at hg
        | .cells _ [], hg, _, _ => simp [tRow] at hg
        | .cells _ (y :: l), _, hrow0, _ =>
          obtain ⟨b, h1, _, _, h4⟩ := hrow0
          have := VReps.length h4
          exact ⟨Nat.one_pos, fun r _ => ⟨by rw [← this]; simp, b, by rw [h1]; rfl, h1⟩⟩
      · rename_i hni
        obtain ⟨v, _, h2, h3⟩ := init_look' hvs i x hi
        simp only [Nat.sub_zero] at h2
        have hlt : i < vs.length := (List.getElem?_eq_some_iff.1 h2).1
        have : (vs.toArray ++ Array.replicate (fn.ntmps - vs.toArray.size) undef).getD i (W0.γ i) = v := by
          rw [Array.getD_eq_getD_getElem?, Array.getElem?_append_left (by simpa using hlt)]
          simp [h2]
        rw [this]
        exact h3
  refine wp_mono (acode_sound (w0 := W0) hΓ hm c _ _ _ w h ⟨η, hs⟩) (fun e a' w' hl => ?_)
  obtain ⟨st', hk, η', hs'⟩ := hl
  have fin : ares Γ st' fn.results.toList (ofin fn.ntmps r0 post st') → ∃ v, (results fn a'.tmps).run P w' = .ok v w' ∧ ∃ v' x h ηh r' η', Ending.returned v = .returned v' ∧ post x h r' ∧ noSh x = true ∧ rowsOwn h = true ∧ HRep w' w.heap.size (fun _ => False) h h.length ηh ∧
      VRep w' (fun b => False ∨ ownB h ηh b) h h.length ηh x v' ∧ Below B w w' ∧
      (∀ b, b < w.heap.size → b ∉ bsOf η 0 r0 → w'.heap[b]? = w.heap[b]?) ∧ tRow r' = true ∧ RowRep w' B (fun b => badOf ob [(0, r')] η' b ∨ ownB h ηh b) [(0, r')] 1 η' 0 r' ∧ (bsOf η' 0 r').Nodup ∧
      r'.kind = r0.kind ∧ η'.val 0 = η.val 0 ∧ (η'.cel 0).length = (η.cel 0).length := fun hk => by
    obtain ⟨xs, us, h1, h2, h3⟩ := ares_sound hΓ hs' hk
    have hres := results_run h3
    unfold ofin at h1
    have hres0 := resx_rep h2
    split at h1
    case h_2 => exact h1.elim
    case h_1 g hgl =>
      split at h1
      case h_2 => exact h1.elim
      case h_1 r' hr' =>
        split at h1
        case h_2 => exact h1.elim
        case h_1 hc =>
          simp only [Bool.and_eq_true] at hc
          obtain ⟨⟨⟨⟨c1, c2⟩, c3⟩, c4⟩, c5⟩ := hc
          have hsz' := Nat.eq_of_beq_eq_true c5
          have hkind := Nat.eq_of_beq_eq_true c1
          obtain ⟨x', hr, ηr, hpost, hH, hV, hS⟩ := afin_sound' hs' (x := resx xs) hres0 h1
          split at hpost
          case h_2 => exact hpost.elim
          case h_1 hown =>
            simp only [Bool.and_eq_true] at hown
            have hrow' := hs'.heap.row 0 r' hr'
            have hsub : ∀ b, ownB hr ηr b → ownB st'.hp η' b := fun b hb => by
              obtain ⟨j, r, h4, _, h5⟩ := hS b hb
              exact ⟨j, r, h4, h5⟩
            have hkeep : Keeps w' (badOf ob st'.hp η') w' (fun b => badOf ob [(0, r')] η' b ∨ ownB hr ηr b) := fun b o x hb hc => by
              refine ⟨?_, hc⟩
              rintro ((h1 | ⟨j, r1, hj, hm⟩) | h1)
              · exact hb (.inl h1)
              · rw [look_cons] at hj
                split at hj
                · rename_i h0
                  subst h0
                  obtain rfl := Option.some.inj hj
                  exact hb (.inr ⟨0, _, hr', hm⟩)
                · cases hj
              · exact hb (.inr (hsub b h1))
            have hfrm : ∀ b, b < w.heap.size → b ∉ bsOf η 0 r0 → w'.heap[b]? = w.heap[b]? := fun b hb hnb => hs'.frame b hb hnb
            have hnod := hs'.heap.nodup 0 r' hr'
            have hmay : ∀ b, W0.may b → b ∈ bsOf η 0 r0 := fun _ h => h
            have hapart := fun j r hj hne => hs'.heap.apart j r 0 r' hj hr' hne
            match r0, r', g, hg, c2, c3, c4, hrow0, hrow', hr', hgl, hkeep, hkind, hpost, hfrm, hnod, hapart, hmay with
            | .cells _ (y0 :: l0), .cells e (y :: l), .ptr 0 0, _, _, c3, c4, hrow0, hrow', hr', hgl, hkeep, hkind, hpost, hfrm, hnod, hapart, hmay =>
              obtain ⟨b0, p1, p2, p3, p4⟩ := hrow0
              obtain ⟨b1, q1, q2, q3, q4⟩ := hrow'
              have hslot := hs'.slot _ _ hgl
              have hget : a'.tmps.getD fn.ntmps (W0.γ fn.ntmps) = η.val 0 := by
                have e1 : W0.γ fn.ntmps = η.val 0 := if_pos rfl
                rw [Array.getD_eq_getD_getElem?, Array.getElem?_eq_none (by rw [hs'.size, hsz']; exact Nat.le_refl _), e1]; rfl
              rw [hget] at hslot
              have hval : η'.val 0 = η.val 0 := by
                obtain ⟨_, b', e2, e3⟩ := hslot.2 _ hr'
                rw [q1, ptr_blk] at e2
                simp only [List.cons.injEq, and_true] at e2
                rw [q1, e3, e2]
              have hlen' : (η'.cel 0).length = (η.cel 0).length := by
                have l0' := VReps.length p4
                have l1' := VReps.length q4
                have := Nat.eq_of_beq_eq_true c4
                omega
              have hge : ∀ b, ownB hr ηr b → w.heap.size ≤ b := fun b hb => by
                obtain ⟨j, r, h4, h6, h5⟩ := hS b hb
                rcases hs'.src b ⟨j, r, h4, h5⟩ with h7 | h7
                · have hj : j ≠ 0 := fun e1 => by
                    subst e1
                    rw [hr'] at h4
                    exact h6 _ _ (Option.some.inj h4).symm
                  have h8 := hmay b h7
                  refine absurd ?_ (hapart j r h4 hj b h5)
                  simp only [bsOf, ARow.kind, hval] at h8 ⊢
                  exact h8
                · exact h7
              have hH2 := (HRep.raise hH hown.2 hge).bad (ob' := fun _ => False) hown.2
              have hV2 : VRep w' (fun b => False ∨ ownB hr ηr b) hr hr.length ηr x' _ := noSh_bad x' hown.1 hV
              exact ⟨_, hres, _, x', hr, ηr, .cells e (y :: l), η', rfl, hpost, hown.1, hown.2, hH2, hV2, hs'.below, hfrm, c3, ⟨b1, q1, q2, q3, tcells_rep hkeep c3 q4⟩, hnod, hkind, hval, hlen'⟩
  cases e with
  | ret => exact ⟨hs'.defers, fin hk⟩
  | normal => exact ⟨hs'.defers, fin hk⟩
  | _ => exact hk.elim

mutual
theorem noSh_flt (f : Nat → Bool) (g : Nat → Bool) (hf : ∀ k, f k = true) : ∀ (x : AVal), noSh x = true → x.flt f g = x
  | .c _, _ => rfl
  | .nul, _ => rfl
  | .own k, _ => by simp [AVal.flt, hf]
  | .ag l, h => by simp only [AVal.flt]; rw [noShs_flt f g hf l (by simpa [noSh] using h)]
  | .tu l, h => by simp only [AVal.flt]; rw [noShs_flt f g hf l (by simpa [noSh] using h)]
  | .un, h => by simp [noSh] at h
  | .t _, h => by simp [noSh] at h
  | .sub _ _, h => by simp [noSh] at h
  | .ptr _ _, h => by simp [noSh] at h
  | .subp _ _ _, h => by simp [noSh] at h
  | .adr _ _, h => by simp [noSh] at h
  | .rp _ _, h => by simp [noSh] at h
  | .clo _ _, h => by simp [noSh] at h
  | .knot _ _ _, h => by simp [noSh] at h
theorem noShs_flt (f : Nat → Bool) (g : Nat → Bool) (hf : ∀ k, f k = true) : ∀ (l : List AVal), noShs l = true → flts f g l = l
  | [], _ => rfl
  | x :: l, h => by
    simp only [noShs, Bool.and_eq_true] at h
    simp only [flts]
    rw [noSh_flt f g hf x h.1, noShs_flt f g hf l h.2]
end
mutual
theorem noSh_shift (d : Nat) : ∀ (x : AVal), noSh x = true → noSh (x.shift d) = true
  | .c _, _ => rfl
  | .nul, _ => rfl
  | .own k, _ => rfl
  | .ag l, h => by simp only [AVal.shift, noSh]; exact noShs_shift d l (by simpa [noSh] using h)
  | .tu l, h => by simp only [AVal.shift, noSh]; exact noShs_shift d l (by simpa [noSh] using h)
  | .un, h => by simp [noSh] at h
  | .t _, h => by simp [noSh] at h
  | .sub _ _, h => by simp [noSh] at h
  | .ptr _ _, h => by simp [noSh] at h
  | .subp _ _ _, h => by simp [noSh] at h
  | .adr _ _, h => by simp [noSh] at h
  | .rp _ _, h => by simp [noSh] at h
  | .clo _ _, h => by simp [noSh] at h
  | .knot _ _ _, h => by simp [noSh] at h
theorem noShs_shift (d : Nat) : ∀ (l : List AVal), noShs l = true → noShs (shifts d l) = true
  | [], _ => rfl
  | x :: l, h => by
    simp only [noShs, Bool.and_eq_true] at h
    simp only [shifts, noShs, Bool.and_eq_true]
    exact ⟨noSh_shift d x h.1, noShs_shift d l h.2⟩
end

/-- rows of one's own, in a world that has left their blocks -/
theorem HRep.world {hp : List (Nat × ARow)} {nx B : Nat} (h : HRep w B ob hp nx η) (ho : rowsOwn hp = true) (hb : ∀ b, ownB hp η b → w'.heap[b]? = w.heap[b]?) : HRep w' B ob hp nx η := by
  have h1 := HRep.bad (ob' := fun _ => True) h ho
  have hk : ∀ bad', Keeps w (badOf (fun _ => True) hp η) w' bad' := fun bad' b o x hn _ => absurd (.inl trivial) hn
  refine (HRep.bad (ob := fun _ => True) ⟨fun k r hr => ?_, h1.nodup, h1.apart, h1.lt⟩ ho)
  have := (h1.row k r hr).flt (f := fun _ => true) (g := fun _ => true) (w' := w') (bad' := badOf (fun _ => True) hp η) (hp' := hp) (nx' := nx) (η' := η) (hk _) (Nat.le_refl _) (fun k _ _ => OwnOk.refl _ _ k) (fun k _ _ => SubOk.refl _ _ k) rfl rfl
    (fun b hm => hb b ⟨k, r, hr, hm⟩)
  rwa [rowflt_true] at this

theorem ACallS.omut {f : FuncId} {args args0 : List AVal} {r0 : ARow} {K : AVal → St → Prop} {post : AVal → List (Nat × ARow) → ARow → Prop} (k : Nat) (hs : OSpec P f r0 args0 post)
    (hk : ∀ x h r', post x h r' → K (x.shift st.nx) (((st.add h).killSub k).upd k r')) (hlk : look st.hp k = some r0) (hv : vws st.hp [(0, .row k)] 1 args args0) (hr : rowVw st.hp [(0, .row k)] 1 (.row k) r0)
    (hp : pargs args args0 = true := by rfl) (ht : tRow r0 = true := by rfl) : ACallS P st f args K := by
  refine ⟨hs.1, fun w0 ob a w η h vs hvs => ?_⟩
  have hrv : rowsVw st.hp [(0, .row k)] 1 [(0, r0)] := ⟨rfl, hr, trivial⟩
  have hfree : ∀ b, ownB st.hp η b → ¬ ob b := fun b hb => h.free hb
  have ha0 := vws_sound (R := [(0, .row k)]) (nx' := 1) h.heap hfree hrv args args0 hv hvs
  let η1 : Env := ηV st.hp η [(0, Org.row k)]
  let ob1 : Nat → Prop := fun b => ob b ∨ ∃ j r, j ≠ k ∧ look st.hp j = some r ∧ b ∈ bsOf η j r
  have hv0 : η1.val 0 = η.val k := rfl
  have hc0 : η1.cel 0 = η.cel k := rfl
  have hbs : ∀ r, bsOf η1 0 r = bsOf η k r := fun r => by simp only [bsOf, hv0, hc0]
  have hone : ∀ j r, look [(0, r0)] j = some r → j = 0 ∧ r = r0 := fun j r hk => by
    rw [look_cons] at hk
    split at hk
    · rename_i h0; exact ⟨h0.symm, (Option.some.inj hk).symm⟩
    · cases hk
  have hdis : ∀ b, b ∈ bsOf η1 0 r0 → ¬ ob1 b := fun b hb => by
    rw [hbs] at hb
    rintro (h1 | ⟨j, r, hj, hl, hm⟩)
    · exact hfree b ⟨k, r0, hlk, hb⟩ h1
    · exact h.heap.apart j r k r0 hl hlk hj b hm hb
  have hkeep : Keeps w (badOf ob st.hp η) w (badOf ob1 [(0, r0)] η1) := fun b o x hb hc => by
    refine ⟨?_, hc⟩
    rintro ((h1 | ⟨j, r, _, hl, hm⟩) | ⟨j, r, hj, hm⟩)
    · exact hb (.inl h1)
    · exact hb (.inr ⟨j, r, hl, hm⟩)
    · obtain ⟨rfl, rfl⟩ := hone j r hj
      rw [hbs] at hm
      exact hb (.inr ⟨k, _, hlk, hm⟩)
  obtain ⟨b0, hb0, hb0B, hb0lt, hkind0, hkne⟩ : ∃ b0, blk (η.val k) = [b0] ∧ w0.B ≤ b0 ∧ b0 < w.heap.size ∧ bsOf η k r0 = [b0] ∧ r0.kind ≠ 2 := by
    have hrow := h.heap.row k _ hlk
    match r0, ht, hrow with
    | .cells e (y :: l), ht, ⟨b, p1, p2, p3, p4⟩ =>
      have hb : blk (η.val k) = [b] := by rw [p1]; rfl
      exact ⟨b, hb, p2, (Array.getElem?_eq_some_iff.1 p3).1, by simp [bsOf, ARow.kind, hb], by simp [ARow.kind]⟩
    | .cells _ [], ht, _ => simp [tRow] at ht
    | .ints .., ht, _ => simp [tRow] at ht
    | .rows .., ht, _ => simp [tRow] at ht
    | .recs .., ht, _ => simp [tRow] at ht
  have hh1 : HRep w w0.B ob1 [(0, r0)] 1 η1 := by
    refine ⟨fun j r hj => ?_, fun j r hj => ?_, fun j r j' r' hj hj' hne => ?_, fun j r hj => ?_⟩
    · obtain ⟨rfl, rfl⟩ := hone j r hj
      have hrow := h.heap.row k _ hlk
      match r, ht, hrow with
      | .cells e (y :: l), ht, ⟨b, p1, p2, p3, p4⟩ => exact ⟨b, by rw [hv0]; exact p1, p2, by rw [hc0]; exact p3, by rw [hc0]; exact tcells_rep hkeep ht p4⟩
      | .cells _ [], ht, _ => simp [tRow] at ht
      | .ints .., ht, _ => simp [tRow] at ht
      | .rows .., ht, _ => simp [tRow] at ht
      | .recs .., ht, _ => simp [tRow] at ht
    · obtain ⟨rfl, rfl⟩ := hone j r hj
      rw [hbs]; exact h.heap.nodup k _ hlk
    · obtain ⟨rfl, rfl⟩ := hone j r hj
      obtain ⟨rfl, rfl⟩ := hone j' r' hj'
      exact absurd rfl hne
    · obtain ⟨rfl, rfl⟩ := hone j r hj
      exact Nat.one_pos
  refine (hs.2 w w0.B ob1 η1 vs (wB h) (fun b hb => ?_) hdis hh1 (pargs_rep hkeep args args0 vs hp hv hvs ha0)).mono ?_
  · rcases hb with h1 | ⟨j, r, _, hl, hm⟩
    · exact h.badlt (.inl h1)
    · exact h.badlt (.inr ⟨j, r, hl, hm⟩)
  · rintro e w' ⟨v, x, hn, ηh, r', η', rfl, hpo, hns, hro, hH, hV, hbel, hfrm, ht', hrow, hnd, hkind, hval, hlen⟩
    have hknx := h.heap.lt k _ hlk
    have hsz := hbel.size
    -- the world in which the variable is as it was
    have hw0 : ∃ o, w.heap[b0]? = some o := ⟨_, Array.getElem?_eq_getElem hb0lt⟩
    obtain ⟨o0, ho0⟩ := hw0
    let w1 : World := { w' with heap := w'.heap.setIfInBounds b0 o0 }
    have hw1 : ∀ b, b ≠ b0 → w1.heap[b]? = w'.heap[b]? := fun b hb => by simp [w1, Ne.symm hb]
    have hw1s : w1.heap.size = w'.heap.size := by simp [w1]
    have hnb : ∀ b, b ∉ bsOf η1 0 r0 ↔ b ≠ b0 := fun b => by rw [hbs, hkind0]; simp
    have hBel1 : Below w.heap.size w w1 := by
      refine ⟨hbel.os, hbel.tape, hbel.output, by rw [hw1s]; exact hsz, fun b hb => ?_⟩
      by_cases e : b = b0
      · subst e
        rw [ho0]
        simp only [w1]
        rw [Array.getElem?_setIfInBounds, if_pos rfl, if_pos (by omega)]
      · rw [hw1 b e]; exact hfrm b hb ((hnb b).2 e)
    have hnew : ∀ b, ownB hn ηh b → w.heap.size ≤ b := fun b ⟨j, r, hj, hb⟩ => ((hH.row j r hj).lt b hb).1
    have hH1 : HRep w1 w.heap.size (badOf ob st.hp η) hn hn.length ηh := HRep.world (hH.bad hro) hro (fun b hb => hw1 b (by have := hnew b hb; omega))
    have hV0 : VRep w1 (fun _ => True) hn hn.length ηh x v := VRep.frame (w := w') (bad := fun _ => True) (fun b o x hb _ => absurd trivial hb) (Nat.le_refl _) (fun k _ => OwnOk.refl _ _ k) (fun k _ => SubOk.refl _ _ k) (noSh_bad x hns hV)
    obtain ⟨hs1, hvr⟩ := h.join hBel1 hH1
    have hV1 := hvr x v (noSh_bad x hns hV0)
    have hη1 : ∀ j, j < st.nx → (Env.join st.nx η ηh).val j = η.val j ∧ (Env.join st.nx η ηh).cel j = η.cel j := fun j hj => by simp [Env.join, hj]
    have hη2 : ∀ j, (Env.join st.nx η ηh).val (j + st.nx) = ηh.val j ∧ (Env.join st.nx η ηh).cel (j + st.nx) = ηh.cel j := fun j => by
      have : ¬ (j + st.nx < st.nx) := by omega
      simp only [Env.join, this, if_false, Nat.add_sub_cancel]
      exact ⟨trivial, trivial⟩
    have hl1 : ∀ j, j < st.nx → look (st.add hn).hp j = look st.hp j := fun j hj => by
      simp only [St.add]; rw [look_append, look_shift_lt _ _ _ hj]
    have hsplit : ∀ j r, look (st.add hn).hp j = some r → (j < st.nx ∧ look st.hp j = some r) ∨ ∃ i r0, j = i + st.nx ∧ look hn i = some r0 ∧ r = r0.shift st.nx := fun j r hj => by
      by_cases hlt : j < st.nx
      · exact .inl ⟨hlt, by rw [hl1 j hlt] at hj; exact hj⟩
      · obtain ⟨i, rfl⟩ : ∃ i, j = i + st.nx := ⟨j - st.nx, by omega⟩
        simp only [St.add] at hj
        rw [look_append, look_shift] at hj
        cases hi : look hn i with
        | some r1 =>
          rw [hi] at hj
          simp only [Option.map_some, Option.some.injEq] at hj
          exact .inr ⟨i, r1, rfl, hi, hj.symm⟩
        | none =>
          rw [hi] at hj
          simp only [Option.map_none] at hj
          have := h.heap.lt _ r hj
          omega
    generalize hηJ : Env.join st.nx η ηh = ηJ at hs1 hvr hV1 hη1 hη2
    have hlkJ : look (st.add hn).hp k = some r0 := by rw [hl1 k hknx]; exact hlk
    have hbsJ : bsOf ηJ k r0 = [b0] := by rw [bsOf_congr (hη1 k hknx).1 (hη1 k hknx).2 rfl, hkind0]
    have hu : (ηJ.upd k (ηJ.val k) (η'.cel 0)).val k = η'.val 0 := by rw [upd_val, (hη1 k hknx).1, hval, hv0]
    have hbs' : bsOf (ηJ.upd k (ηJ.val k) (η'.cel 0)) k r' = bsOf η' 0 r' := by simp only [bsOf, hu, upd_cel]
    have hbr' : ∀ b, b ∈ bsOf η' 0 r' → b = b0 := fun b hb => by
      have e : bsOf η' 0 r' = [b0] := by simp [bsOf, hkind, hkne, hval, hv0, hb0]
      rw [e] at hb; simpa using hb
    have hkeep' : Keeps w' (fun b => badOf ob1 [(0, r')] η' b ∨ ownB hn ηh b) w' (badOf ob (((st.add hn).killSub k).upd k r').hp (ηJ.upd k (ηJ.val k) (η'.cel 0))) := fun b o x hb hc => by
      refine ⟨?_, hc⟩
      rintro (h1 | ⟨j, r1, hj, hm⟩)
      · exact hb (.inl (.inl (.inl h1)))
      · by_cases hjk : j = k
        · subst hjk
          simp only [St.upd, look_upd, if_true] at hj
          obtain rfl := Option.some.inj hj
          rw [hbs'] at hm
          exact hb (.inl (.inr ⟨0, _, rfl, hm⟩))
        · simp only [St.upd, St.killSub, look_upd, if_neg (Ne.symm hjk), look_fltH] at hj
          obtain ⟨r2, h2, rfl⟩ := Option.map_eq_some_iff.1 hj
          rw [bsOf_flt, bsOf_congr (upd_ne _ _ _ _ j hjk).1 (upd_ne _ _ _ _ j hjk).2 rfl] at hm
          rcases hsplit j r2 h2 with ⟨hlt, h3⟩ | ⟨i, r3, rfl, h3, rfl⟩
          · rw [bsOf_congr (hη1 j hlt).1 (hη1 j hlt).2 rfl] at hm
            exact hb (.inl (.inl (.inr ⟨j, r2, hjk, h3, hm⟩)))
          · have e1 : bsOf ηJ (i + st.nx) (ARow.shift st.nx r3) = bsOf ηh i r3 := by simp only [bsOf, (hη2 i).1, (hη2 i).2, kind_shift]
            rw [e1] at hm
            exact hb (.inr ⟨i, r3, h3, hm⟩)
    have hB1 : Below w0.B w1 w' := by
      refine ⟨rfl, rfl, rfl, by rw [hw1s]; exact Nat.le_refl _, fun b hb => ?_⟩
      exact (hw1 b (by omega)).symm
    have hs' := SRep.mutT (w' := w') hs1 (cs' := η'.cel 0) hlkJ hkind (by rw [hlen, hc0, (hη1 k hknx).2]; exact Nat.le_refl _) (fun b _ hn => by
        rw [hbsJ] at hn
        exact (hw1 b (by simpa using hn)).symm) hB1
      (by rw [hbs']; exact hnd) (fun b hb => by rw [hbs'] at hb; rw [hbsJ]; exact .inl (by simp [hbr' b hb])) (by
        match r', ht', hrow with
        | .cells e (y :: l), ht', ⟨b, p1, p2, p3, p4⟩ => exact ⟨b, by rw [hu]; exact p1, p2, by rw [upd_cel]; exact p3, by rw [upd_cel]; exact tcells_rep hkeep' ht' p4⟩
        | .cells _ [], ht', _ => simp [tRow] at ht'
        | .ints .., ht', _ => simp [tRow] at ht'
        | .rows .., ht', _ => simp [tRow] at ht'
        | .recs .., ht', _ => simp [tRow] at ht')
    have hok : ∀ j, OwnOk (st.add hn).hp ηJ (((st.add hn).killSub k).upd k r').hp (ηJ.upd k (ηJ.val k) (η'.cel 0)) j := fun j => by
      by_cases hjk : j = k
      · subst hjk
        exact ⟨fun r1 h1 => by
          simp only [St.upd, look_upd, if_true] at h1
          obtain rfl := Option.some.inj h1
          exact ⟨r0, hlkJ, hkind.symm, upd_val _ _ _ _, by rw [upd_cel, hlen, hc0, (hη1 j hknx).2]; exact Nat.le_refl _⟩⟩
      · exact OwnOk.of (fun r1 h1 => by
          simp only [St.upd, St.killSub, look_upd, if_neg (Ne.symm hjk), look_fltH] at h1
          obtain ⟨r, h2, rfl⟩ := Option.map_eq_some_iff.1 h1
          exact ⟨r, h2, (kind_flt _ _ r).symm⟩) (upd_ne _ _ _ _ j hjk).1 (upd_ne _ _ _ _ j hjk).2
    have hns' := noSh_shift st.nx x hns
    have hfin : VRep w' (fun _ => True) (((st.add hn).killSub k).upd k r').hp (((st.add hn).killSub k).upd k r').nx (ηJ.upd k (ηJ.val k) (η'.cel 0)) ((x.shift st.nx).flt (fun _ => true) (fun _ => false)) v :=
      VRep.flt (w := w1) (bad := fun _ => True) (fun b o x hb _ => absurd trivial hb) (Nat.le_refl _) (fun j _ _ => hok j) (fun j _ hj => by cases hj) _ _ (noSh_bad _ hns' hV1)
    rw [noSh_flt _ _ (fun _ => rfl) _ hns'] at hfin
    exact ⟨v, x.shift st.nx, _, _, rfl, hk x hn r' hpo, rfl, hs', noSh_bad _ hns' hfin⟩
end
end Go.Aw
/- Calls of cursor methods in plans: the contract's arguments are the call's. -/
namespace Go.Aw
open Go.RowKit
section
variable {P : Program} {st : St}
/-- a number -/
theorem ACallS.tmutI {f : FuncId} {n : Int} {r0 : ARow} {K : AVal → St → Prop} {post : AVal → ARow → Prop} (hs : TSpec P f r0 [.ptr 0 0, .c (.int .i64 n)] post)
    (hk : ∀ x r', post x r' → K x ((st.killSub 0).upd 0 r')) (hlk : look st.hp 0 = some r0) (hr : rowVw st.hp [(0, .row 0)] 1 (.row 0) r0)
    (ht : tRow r0 = true := by rfl) : ACallS P st f [.ptr 0 0, .c (.int .i64 n)] K := ACallS.tmut 0 hs hk hlk ⟨⟨rfl, rfl, rfl⟩, rfl, trivial⟩ hr rfl ht

/-- a list -/
theorem ACallS.tmutL {f : FuncId} {k : IntKind} {l : List Int} {r0 : ARow} {K : AVal → St → Prop} {post : AVal → ARow → Prop} (hs : TSpec P f r0 [.ptr 0 0, .t (.ints k l)] post)
    (hk : ∀ x r', post x r' → K x ((st.killSub 0).upd 0 r')) (hlk : look st.hp 0 = some r0) (hr : rowVw st.hp [(0, .row 0)] 1 (.row 0) r0)
    (ht : tRow r0 = true := by rfl) : ACallS P st f [.ptr 0 0, .t (.ints k l)] K := ACallS.tmut 0 hs hk hlk ⟨⟨rfl, rfl, rfl⟩, rfl, trivial⟩ hr rfl ht

/-- an empty slice, told as no rows -/
theorem rep_nilR {w : World} {bad : Nat → Prop} {hp : List (Nat × ARow)} {nx : Nat} {η : Env} {v : Value} (h : VRep w bad hp nx η (.c (.slice none 0 0)) v) : VRep w bad hp nx η (.t (.rows [])) v := by
  obtain ⟨rfl, _⟩ := h
  exact ⟨none, 0, rfl, Nat.le_refl _, Nat.zero_le _, fun i l hi => by simp at hi⟩

/-- a result that is told otherwise -/
theorem TSpec.tell {f : FuncId} {r0 : ARow} {args : List AVal} {post post' : AVal → ARow → Prop} (hs : TSpec P f r0 args post)
    (hv : ∀ x r, shut x = true → post x r → ∃ x', shut x' = true ∧ post' x' r ∧ ∀ w bad v, VRep w bad [] 0 η0 x v → VRep w bad [] 0 η0 x' v) : TSpec P f r0 args post' := by
  refine ⟨hs.1, fun w B ob η vs h1 h2 h3 h4 h5 => (hs.2 w B ob η vs h1 h2 h3 h4 h5).mono ?_⟩
  rintro e w' ⟨v, x, r', η', he, hvx, hsh, hpo, hrest⟩
  obtain ⟨x', k1, k2, k3⟩ := hv x r' hsh hpo
  exact ⟨v, x', r', η', he, k3 _ _ _ hvx, k1, k2, hrest⟩
end
end Go.Aw
/- Draws of lids. -/
namespace Go.Aw
theorem mp_ofP {a b : Prop} (f : a → b) (x : a) : b := f x
end Go.Aw
namespace Go.Proofs.Ytkjdplglenjijaa
open Go.Aw
set_option maxRecDepth 100000
set_option maxHeartbeats 4000000

/-- a drawn table, a drawn list and a drawn number -/
def tabLK : AVal → List (Nat × ARow) → Prop := fun v h => h = [] ∧ ∃ (m : List (List Int)) (l : List Int) (k : Int), SmM m ∧ (l.length ≤ 20 ∧ ∀ x, x ∈ l → InR x) ∧ InR k ∧ v = .tu [.t (.rows m), .t (.ints .i64 l), .c (.int .i64 (k))]
def tabLKo : AVal → List (Nat × ARow) → Prop := fun v h => ∃ (m : List (List Int)) (l : List Int) (k : Int), SmM m ∧ (l.length ≤ 20 ∧ ∀ x, x ∈ l → InR x) ∧ InR k ∧ v = .tu [.t (.rows m), .own 0, .c (.int .i64 (k))] ∧ h = [(0, .ints 3 .i64 l)]
theorem tabLK_tell {f : FuncId} {args : List AVal} (h : FSpec Try.prog f args tabLKo) : FSpec Try.prog f args tabLK := by
  refine FSpec.view h (fun v hr hp => ?_)
  obtain ⟨m, l, k, h0, h1, h2, rfl, rfl⟩ := hp
  exact ⟨[], .tu [.t (.rows m), .t (.ints .i64 l), .c (.int .i64 (k))], [], rfl, trivial, ⟨rfl, ⟨rfl, rfl⟩, rfl, trivial⟩, rfl, m, l, k, h0, h1, h2, rfl⟩

theorem evL_sm (m : List (List Int)) (k : Int) : (evL m k).length ≤ 6 ∧ ∀ x, x ∈ evL m k → InR x := by
  unfold evL
  split
  · rename_i h
    have hg : goodM m = true := by
      simp only [evOk, ldOk, Bool.and_eq_true] at h; exact h.1.1
    obtain ⟨g1, g2, g3, g4, g5⟩ := goodM_spec hg
    refine ⟨by rw [evR, List.length_replicate]; omega, fun x hx => ?_⟩
    have e := List.eq_of_mem_replicate hx
    have hd : (evD m k).getD 0 < 100 := by
      cases hD : evD m k with
      | none => simp
      | some d => have := List.mem_of_find?_eq_some hD; simpa using this
    rw [e]; unfold InR; omega
  · exact ⟨by simp, fun x hx => by simp at hx⟩
theorem cut7 {q : Nat} (hq : q < 24) : 5 + q / 11 ≤ 7 ∧ IntKind.i64.wrap (5 + IntKind.i64.wrap (Int.tdiv (q : Int) 11)) = ((5 + q / 11 : Nat) : Int) := by
  have e : Int.tdiv (q : Int) 11 = ((q / 11 : Nat) : Int) := (Int.ofNat_tdiv q 11).symm
  have : q / 11 ≤ 2 := by omega
  rw [e, w64 (n := ((q / 11 : Nat) : Int)) (by omega) (by omega), w64 (by omega) (by omega)]
  omega
theorem cut7_ok {h : Nat} (h5 : 5 ≤ h) (h7 : h ≤ 7) : (Nat.ble 1 (List.take h ((((((((List.replicate 7 (0 : Int)).set 0 1).set 1 1).set 2 2).set 3 3).set 4 5).set 5 0).set 6 6)).length && Nat.ble (List.take h ((((((((List.replicate 7 (0 : Int)).set 0 1).set 1 1).set 2 2).set 3 3).set 4 5).set 5 0).set 6 6)).length 65536) = true ∧
    rowIn (List.take h ((((((((List.replicate 7 (0 : Int)).set 0 1).set 1 1).set 2 2).set 3 3).set 4 5).set 5 0).set 6 6)) 0 6 = true := by
  have : h = 5 ∨ h = 6 ∨ h = 7 := by omega
  rcases this with rfl | rfl | rfl <;> decide +kernel
theorem app_in {l : List Int} {x : Int} (h : ∀ y, y ∈ l → InR y) (hx : InR x) : ∀ y, y ∈ l ++ [x] → InR y := fun y hy => by
  rcases List.mem_append.1 hy with h1 | h1
  · exact h y h1
  · rw [List.mem_singleton] at h1; subst h1; exact hx

theorem set_in {l : List Int} {x : Int} (h : ∀ y, y ∈ l → InR y) (i : Nat) (hx : InR x) : ∀ y, y ∈ l.set i x → InR y := fun y hy => by
  rcases List.mem_or_eq_of_mem_set hy with h1 | rfl
  · exact h y h1
  · exact hx

theorem DrawIsLid_spec (code : List Int) (hc : OkB code) : FSpec Try.prog 5 [.t (.ints .u8 code)] tabLK := by
  refine tabLK_tell ?_
  refine fspec tyOk mx Try.func5 rfl (by kernel_rfl) rfl ?_
  conv => whnf
  refine ACallS.tmut 0 (signs5_spec code hc 0 0 (by omega)) ?_ rfl (by (repeat' (first | exact trivial | exact rfl | refine And.intro ?_ ?_)) <;> (try first | omega | (simp; done))) (by (repeat' (first | exact trivial | exact rfl | refine And.intro ?_ ?_)) <;> (try first | omega | (simp; done)))
  rintro v r ⟨m, a1, s1, rfl, hm, e1, g1, rfl⟩
  have hm : SmM m := hm
  have hw := wide5_5 hm
  obtain ⟨okm, szm⟩ := hm.ok
  conv => whnf
  refine ACallS.tmut 0 (pick_spec code hc a1 s1 (by omega) 24 (by omega) (by omega)) ?_ rfl (by (repeat' (first | exact trivial | exact rfl | refine And.intro ?_ ?_)) <;> (try first | omega | (simp; done))) (by (repeat' (first | exact trivial | exact rfl | refine And.intro ?_ ?_)) <;> (try first | omega | (simp; done)))
  rintro v r ⟨q, a2, s2, rfl, l_q, u_q, e_a2, g_a2, rfl⟩
  conv => whnf
  obtain ⟨q, rfl, hq⟩ := nat_of (len := 24) l_q (by omega)
  obtain ⟨c7, ec⟩ := cut7 hq
  obtain ⟨ok1, ok2⟩ := cut7_ok (h := 5 + q / 11) (by omega) c7
  refine ⟨by decide, ?_⟩
  conv => whnf
  refine ⟨5 + q / 11, ec, by simpa using c7, ?_⟩
  conv => whnf
  generalize List.take (5 + q / 11) ((((((((List.replicate 7 (0 : Int)).set 0 1).set 1 1).set 2 2).set 3 3).set 4 5).set 5 0).set 6 6) = L at ok1 ok2 ⊢
  refine ACallS.give ?_
  refine ACallS.tmutL (among_spec code hc a2 s2 (by omega) L ok1 0 6 ok2) ?_ rfl (by (repeat' (first | exact trivial | exact rfl | refine And.intro ?_ ?_)) <;> (try first | omega | (simp; done)))
  rintro v r ⟨k, a3, s3, rfl, lk, uk, e3, g3, rfl⟩
  have hk : InR k := by unfold InR; omega
  have ev6 := evL_sm m k
  conv => whnf
  refine ACall.use (EvenLid_s m okm szm k hk) ?_
  conv => whnf
  refine mp_ofP (a := ∀ (ll : List Int) (bb : Nat) (tt : Int), ll.length ≤ 10 → (∀ x, x ∈ ll → InR x) → bb ≤ 5000 → ACallS Try.prog (⟨90, [(5, .ptr 0 0), (6, .t (.rows m)), (7, .c (.int .i64 (k))), (8, .own 1)], [(0, cur code bb tt), (1, .ints 3 .i64 ll)], 2⟩ : St) 24 [.ptr 0 0, .c (.int .i64 (3))] ?K) ?f ?x
  case f =>
    intro key
    refine ⟨fun ho => ?_, fun ho => ?_⟩
    · conv => whnf
      refine ACallS.tmut 0 (one_spec code hc a3 s3 (by omega) 4 (by omega) (by omega)) ?_ rfl (by (repeat' (first | exact trivial | exact rfl | refine And.intro ?_ ?_)) <;> (try first | omega | (simp; done))) (by (repeat' (first | exact trivial | exact rfl | refine And.intro ?_ ?_)) <;> (try first | omega | (simp; done)))
      rintro v r ⟨b, a4, s4, rfl, e_a4, g_a4, rfl⟩
      conv => whnf
      refine ⟨fun hb => ?_, fun hb => ?_⟩
      · conv => whnf
        refine aloopI tyOk mx (fun x : List Int × Nat × Int => (⟨90, [(5, .ptr 0 0), (6, .t (.rows m)), (7, .c (.int .i64 (k))), (8, .own 1), (10, .c (.int .i64 (x.1.length)))], [(0, cur code x.2.1 x.2.2), (1, .ints 3 .i64 x.1)], 2⟩ : St)) (fun x => x.1.length ≤ m.length + wide5 m ∧ (∀ y, y ∈ x.1 → InR y) ∧ a4 ≤ x.2.1 ∧ x.2.1 ≤ a4 + 2 * x.1.length) (fun x => m.length + wide5 m - x.1.length) ([], a4, s4) ⟨by simp, by simp, by simp, by simp⟩ (some [(0, .row 0), (1, .row 3)]) (by (refine ⟨rfl, rfl, ?_, ?_⟩ <;> ((repeat' (first | exact trivial | exact rfl | refine And.intro ?_ ?_)) <;> (try ((conv => whnf); first | refine vint ?_ | refine vboo ?_ | refine rint ?_ | refine rrow ?_ | skip)) <;> (try first | omega | (simp; done) | ((repeat rw [flts_closed _ (by assumption)]); exact vws_closed _ (by assumption)))))) (fun x hx => ?_)
        obtain ⟨l, a6, s6⟩ := x
        obtain ⟨h1, h2, h3, h4⟩ := hx
        simp only at h1 h2 h3 h4
        dsimp only
        have eN : IntKind.i64.wrap ((m.length : Int) + (wide5 m : Int)) = ((m.length + wide5 m : Nat) : Int) := by have := hm.1; rw [w64 (by omega) (by omega)]; omega
        conv => whnf
        refine ACall.use (l5Wide_spec m) ?_
        conv => whnf
        rw [eN]
        refine ⟨fun h => ?_, fun h => ?_⟩
        · have h : l.length < m.length + wide5 m := ltT h
          have hm1 := hm.1
          conv => whnf
          refine ACallS.tmut 0 (pick_spec code hc a6 s6 (by omega) 8 (by omega) (by omega)) ?_ rfl (by (repeat' (first | exact trivial | exact rfl | refine And.intro ?_ ?_)) <;> (try first | omega | (simp; done))) (by (repeat' (first | exact trivial | exact rfl | refine And.intro ?_ ?_)) <;> (try first | omega | (simp; done)))
          rintro v r ⟨v, a7, s7, rfl, l_v, u_v, e_a7, g_a7, rfl⟩
          conv => whnf
          refine ⟨by simp [room]; omega, ?_⟩
          conv => whnf
          rw [nat_wrap (by omega)]
          exact ⟨(l ++ [v], a7, s7), none, (by refine ⟨rfl, rfl, ?_, ?_⟩ <;> ((repeat' (first | exact trivial | exact rfl | refine And.intro ?_ ?_)) <;> (try ((conv => whnf); first | refine vint ?_ | refine vboo ?_ | refine rint ?_ | refine rrow ?_ | skip)) <;> (try first | omega | (simp; done) | ((repeat rw [flts_closed _ (by assumption)]); exact vws_closed _ (by assumption))))), ⟨by simp; omega, app_in h2 (by unfold InR; omega), by simp only; omega, by simp only [List.length_append, List.length_singleton]; omega⟩, by simp; omega⟩
        · have h : ¬ l.length < m.length + wide5 m := ltF h
          have hm1 := hm.1
          conv => whnf
          refine ACallS.view (R := [(0, .row 0), (1, .row 1)]) (args' := [.ptr 0 0, .c (.int .i64 (3))]) (st' := (⟨90, [(5, .ptr 0 0), (6, .t (.rows m)), (7, .c (.int .i64 (k))), (8, .own 1)], [(0, cur code a6 s6), (1, .ints 3 .i64 l)], 2⟩ : St)) (by refine ⟨rfl, rfl, ?_, ?_⟩ <;> ((repeat' (first | exact trivial | exact rfl | refine And.intro ?_ ?_)) <;> (try ((conv => whnf); first | refine vint ?_ | refine vboo ?_ | refine rint ?_ | refine rrow ?_ | skip)) <;> (try first | omega | (simp; done) | ((repeat rw [flts_closed _ (by assumption)]); exact vws_closed _ (by assumption))))) ⟨⟨rfl, rfl, rfl⟩, rfl, trivial⟩ ?_
          exact key l a6 s6 (by omega) h2 (by omega)
      · conv => whnf
        refine ACallS.view (R := [(0, .row 0), (1, .row 2)]) (args' := [.ptr 0 0, .c (.int .i64 (3))]) (st' := (⟨90, [(5, .ptr 0 0), (6, .t (.rows m)), (7, .c (.int .i64 (k))), (8, .own 1)], [(0, cur code a4 s4), (1, .ints 3 .i64 (evL m k))], 2⟩ : St)) (by refine ⟨rfl, rfl, ?_, ?_⟩ <;> ((repeat' (first | exact trivial | exact rfl | refine And.intro ?_ ?_)) <;> (try ((conv => whnf); first | refine vint ?_ | refine vboo ?_ | refine rint ?_ | refine rrow ?_ | skip)) <;> (try first | omega | (simp; done) | ((repeat rw [flts_closed _ (by assumption)]); exact vws_closed _ (by assumption))))) ⟨⟨rfl, rfl, rfl⟩, rfl, trivial⟩ ?_
        exact key (evL m k) a4 s4 (by omega) ev6.2 (by omega)
    · (repeat (conv => whnf); (first | refine ⟨fun h => absurd h (by decide), fun _ => ?_⟩ | refine ⟨fun _ => ?_, fun h => absurd h (by decide)⟩)); conv => whnf
      refine aloopI tyOk mx (fun x : List Int × Nat × Int => (⟨90, [(5, .ptr 0 0), (6, .t (.rows m)), (7, .c (.int .i64 (k))), (8, .own 1), (10, .c (.int .i64 (x.1.length)))], [(0, cur code x.2.1 x.2.2), (1, .ints 3 .i64 x.1)], 2⟩ : St)) (fun x => x.1.length ≤ m.length + wide5 m ∧ (∀ y, y ∈ x.1 → InR y) ∧ a3 ≤ x.2.1 ∧ x.2.1 ≤ a3 + 2 * x.1.length) (fun x => m.length + wide5 m - x.1.length) ([], a3, s3) ⟨by simp, by simp, by simp, by simp⟩ (some [(0, .row 0), (1, .row 3)]) (by (refine ⟨rfl, rfl, ?_, ?_⟩ <;> ((repeat' (first | exact trivial | exact rfl | refine And.intro ?_ ?_)) <;> (try ((conv => whnf); first | refine vint ?_ | refine vboo ?_ | refine rint ?_ | refine rrow ?_ | skip)) <;> (try first | omega | (simp; done) | ((repeat rw [flts_closed _ (by assumption)]); exact vws_closed _ (by assumption)))))) (fun x hx => ?_)
      obtain ⟨l, a6, s6⟩ := x
      obtain ⟨h1, h2, h3, h4⟩ := hx
      simp only at h1 h2 h3 h4
      dsimp only
      have eN : IntKind.i64.wrap ((m.length : Int) + (wide5 m : Int)) = ((m.length + wide5 m : Nat) : Int) := by have := hm.1; rw [w64 (by omega) (by omega)]; omega
      conv => whnf
      refine ACall.use (l5Wide_spec m) ?_
      conv => whnf
      rw [eN]
      refine ⟨fun h => ?_, fun h => ?_⟩
      · have h : l.length < m.length + wide5 m := ltT h
        have hm1 := hm.1
        conv => whnf
        refine ACallS.tmut 0 (pick_spec code hc a6 s6 (by omega) 8 (by omega) (by omega)) ?_ rfl (by (repeat' (first | exact trivial | exact rfl | refine And.intro ?_ ?_)) <;> (try first | omega | (simp; done))) (by (repeat' (first | exact trivial | exact rfl | refine And.intro ?_ ?_)) <;> (try first | omega | (simp; done)))
        rintro v r ⟨v, a7, s7, rfl, l_v, u_v, e_a7, g_a7, rfl⟩
        conv => whnf
        refine ⟨by simp [room]; omega, ?_⟩
        conv => whnf
        rw [nat_wrap (by omega)]
        exact ⟨(l ++ [v], a7, s7), none, (by refine ⟨rfl, rfl, ?_, ?_⟩ <;> ((repeat' (first | exact trivial | exact rfl | refine And.intro ?_ ?_)) <;> (try ((conv => whnf); first | refine vint ?_ | refine vboo ?_ | refine rint ?_ | refine rrow ?_ | skip)) <;> (try first | omega | (simp; done) | ((repeat rw [flts_closed _ (by assumption)]); exact vws_closed _ (by assumption))))), ⟨by simp; omega, app_in h2 (by unfold InR; omega), by simp only; omega, by simp only [List.length_append, List.length_singleton]; omega⟩, by simp; omega⟩
      · have h : ¬ l.length < m.length + wide5 m := ltF h
        have hm1 := hm.1
        conv => whnf
        refine ACallS.view (R := [(0, .row 0), (1, .row 1)]) (args' := [.ptr 0 0, .c (.int .i64 (3))]) (st' := (⟨90, [(5, .ptr 0 0), (6, .t (.rows m)), (7, .c (.int .i64 (k))), (8, .own 1)], [(0, cur code a6 s6), (1, .ints 3 .i64 l)], 2⟩ : St)) (by refine ⟨rfl, rfl, ?_, ?_⟩ <;> ((repeat' (first | exact trivial | exact rfl | refine And.intro ?_ ?_)) <;> (try ((conv => whnf); first | refine vint ?_ | refine vboo ?_ | refine rint ?_ | refine rrow ?_ | skip)) <;> (try first | omega | (simp; done) | ((repeat rw [flts_closed _ (by assumption)]); exact vws_closed _ (by assumption))))) ⟨⟨rfl, rfl, rfl⟩, rfl, trivial⟩ ?_
        exact key l a6 s6 (by omega) h2 (by omega)
  case x =>
    intro l a6 s6 hl hli ha6
    refine ACallS.tmut 0 (pick_spec code hc a6 s6 (by omega) 3 (by omega) (by omega)) ?_ rfl (by (repeat' (first | exact trivial | exact rfl | refine And.intro ?_ ?_)) <;> (try first | omega | (simp; done))) (by (repeat' (first | exact trivial | exact rfl | refine And.intro ?_ ?_)) <;> (try first | omega | (simp; done)))
    rintro v r ⟨n, a7, s7, rfl, n0, n3, e7, g7, rfl⟩
    obtain ⟨n, rfl, hn⟩ := nat_of (len := 3) n0 (by omega)
    conv => whnf
    refine aloopI tyOk mx (fun x : List Int × Nat × Nat × Int => (⟨90, [(5, .ptr 0 0), (6, .t (.rows m)), (7, .c (.int .i64 (k))), (8, .own 1), (11, .c (.int .i64 (x.2.1)))], [(0, cur code x.2.2.1 x.2.2.2), (1, .ints 3 .i64 x.1)], 2⟩ : St)) (fun x => x.1.length ≤ 10 ∧ (∀ y, y ∈ x.1 → InR y) ∧ x.2.1 ≤ n ∧ x.2.2.1 + 10 * x.2.1 ≤ a7 + 10 * n) (fun x => x.2.1) (l, n, a7, s7) ⟨hl, hli, by simp, by simp⟩ none (by refine ⟨rfl, rfl, ?_, ?_⟩ <;> ((repeat' (first | exact trivial | exact rfl | refine And.intro ?_ ?_)) <;> (try ((conv => whnf); first | refine vint ?_ | refine vboo ?_ | refine rint ?_ | refine rrow ?_ | skip)) <;> (try first | omega | (simp; done) | ((repeat rw [flts_closed _ (by assumption)]); exact vws_closed _ (by assumption))))) (fun x hx => ?_)
    obtain ⟨l, n, a6, s6⟩ := x
    obtain ⟨h1, h2, h3, h4⟩ := hx
    simp only at h1 h2 h3 h4
    dsimp only
    have stop : tabLKo (.tu [.t (.rows m), .own 0, .c (.int .i64 (k))]) [(0, .ints 3 .i64 l)] := ⟨m, l, k, hm, ⟨by omega, h2⟩, hk, rfl, rfl⟩
    have stop2 : ∀ v : Int, -1 ≤ v ∧ v ≤ 100 → tabLKo (.tu [.t (.rows m), .own 0, .c (.int .i64 (k))]) [(0, .ints 3 .i64 (l ++ [v]))] := fun v hv => ⟨m, _, k, hm, ⟨by simp; omega, app_in h2 (by unfold InR; omega)⟩, hk, rfl, rfl⟩
    conv => whnf
    refine ⟨fun h5 => ?_, fun h5 => ?_⟩
    · have h5 : 0 < n := by have := of_decide_eq_true h5; omega
      conv => whnf
      refine ⟨fun h6 => ?_, fun h6 => ?_⟩
      · have h6 : 0 < l.length := by have := of_decide_eq_true h6; omega
        conv => whnf
        refine ACallS.tmut 0 (pick_spec code hc a6 s6 (by omega) (l.length : Int) (by omega) (by omega)) ?_ rfl (by (repeat' (first | exact trivial | exact rfl | refine And.intro ?_ ?_)) <;> (try first | omega | (simp; done))) (by (repeat' (first | exact trivial | exact rfl | refine And.intro ?_ ?_)) <;> (try first | omega | (simp; done)))
        rintro v r ⟨i, a8, s8, rfl, l_i, u_i, e_a8, g_a8, rfl⟩
        conv => whnf
        obtain ⟨i, rfl, hi⟩ := nat_of (len := l.length) l_i (by omega)
        have e5 : IntKind.i64.wrap ((n : Int) - 1) = ((n - 1 : Nat) : Int) := by rw [w64 (by omega) (by omega)]; omega
        refine ADraw.planX [7] tyOk mx (.q 0 (.q 1 (.q 2 (.q 3 (.q 4 (.q 6 (.alt 5 (.inl 7 (.last 8 (.last 9 (.q 10 (.last 11 (.done)))))) (.inl 7 (.last 5 (.last 8 (.last 9 (.q 10 (.last 11 (.done))))))))))))) : Plan) (by kernel_rfl) ?_
        conv => whnf
        repeat' (first
          | (refine ⟨i, rfl, (by rw [List.length_set]; exact hi), ?_⟩; conv => whnf)
          | (refine ⟨i, rfl, hi, ?_⟩; conv => whnf)
          | (refine ACallS.tmut 0 (pick_spec code hc a8 s8 (by omega) 3 (by omega) (by omega)) ?_ rfl (by (repeat' (first | exact trivial | exact rfl | refine And.intro ?_ ?_)) <;> (try first | omega | (simp; done))) (by (repeat' (first | exact trivial | exact rfl | refine And.intro ?_ ?_)) <;> (try first | omega | (simp; done))); rintro v r ⟨v, a9, s9, rfl, l_v, u_v, e_a9, g_a9, rfl⟩; (conv => whnf))
          | (rw [e5]; exact ⟨(l.set i _, n - 1, _, _), none, (by refine ⟨rfl, rfl, ?_, ?_⟩ <;> ((repeat' (first | exact trivial | exact rfl | refine And.intro ?_ ?_)) <;> (try ((conv => whnf); first | refine vint ?_ | refine vboo ?_ | refine rint ?_ | refine rrow ?_ | skip)) <;> (try first | omega | (simp; done) | ((repeat rw [flts_closed _ (by assumption)]); exact vws_closed _ (by assumption))))), ⟨by rw [List.length_set]; exact h1, set_in h2 i (W_inr _), by simp only; omega, by simp only; omega⟩, by simp only; omega⟩)
          | (refine And.intro ?_ ?_ <;> (conv => whnf)))
      · conv => whnf
        refine ACallS.tmut 0 (one_spec code hc a6 s6 (by omega) 20 (by omega) (by omega)) ?_ rfl (by (repeat' (first | exact trivial | exact rfl | refine And.intro ?_ ?_)) <;> (try first | omega | (simp; done))) (by (repeat' (first | exact trivial | exact rfl | refine And.intro ?_ ?_)) <;> (try first | omega | (simp; done)))
        rintro v r ⟨b, a8, s8, rfl, e_a8, g_a8, rfl⟩
        conv => whnf
        refine ⟨fun hb => ?_, fun hb => ?_⟩
        · conv => whnf
          refine ACallS.inline tyOk mx Try.func23 rfl (by kernel_rfl) rfl ?_
          conv => whnf
          refine ACallS.tmut 0 (pick_spec code hc a8 s8 (by omega) 3 (by omega) (by omega)) ?_ rfl (by (repeat' (first | exact trivial | exact rfl | refine And.intro ?_ ?_)) <;> (try first | omega | (simp; done))) (by (repeat' (first | exact trivial | exact rfl | refine And.intro ?_ ?_)) <;> (try first | omega | (simp; done)))
          rintro v r ⟨y, a9, s9, rfl, y0, y1, e_a9, g_a9, rfl⟩
          conv => whnf
          obtain ⟨i, rfl, hi⟩ := nat_of (len := 3) y0 (by omega)
          refine ⟨i, rfl, hi, ?_⟩
          conv => whnf
          have h_v : -1 ≤ ((((List.replicate 3 (0 : Int)).set 0 0).set 1 (-1)).set 2 100).getD i 0 ∧ ((((List.replicate 3 (0 : Int)).set 0 0).set 1 (-1)).set 2 100).getD i 0 ≤ 100 := among_in (by kernel_rfl) hi
          generalize ((((List.replicate 3 (0 : Int)).set 0 0).set 1 (-1)).set 2 100).getD i 0 = v at h_v ⊢
          refine ⟨rfl, ?_⟩
          conv => whnf
          clear y0 y1 hi
          refine ⟨by simp [room]; omega, ?_⟩
          conv => whnf
          exact stop2 v h_v
        · conv => whnf
          exact stop
    · (repeat (conv => whnf); (first | refine ⟨fun h => absurd h (by decide), fun _ => ?_⟩ | refine ⟨fun _ => ?_, fun h => absurd h (by decide)⟩)); conv => whnf
      refine ACallS.tmut 0 (one_spec code hc a6 s6 (by omega) 20 (by omega) (by omega)) ?_ rfl (by (repeat' (first | exact trivial | exact rfl | refine And.intro ?_ ?_)) <;> (try first | omega | (simp; done))) (by (repeat' (first | exact trivial | exact rfl | refine And.intro ?_ ?_)) <;> (try first | omega | (simp; done)))
      rintro v r ⟨b, a8, s8, rfl, e_a8, g_a8, rfl⟩
      conv => whnf
      refine ⟨fun hb => ?_, fun hb => ?_⟩
      · conv => whnf
        refine ACallS.inline tyOk mx Try.func23 rfl (by kernel_rfl) rfl ?_
        conv => whnf
        refine ACallS.tmut 0 (pick_spec code hc a8 s8 (by omega) 3 (by omega) (by omega)) ?_ rfl (by (repeat' (first | exact trivial | exact rfl | refine And.intro ?_ ?_)) <;> (try first | omega | (simp; done))) (by (repeat' (first | exact trivial | exact rfl | refine And.intro ?_ ?_)) <;> (try first | omega | (simp; done)))
        rintro v r ⟨y, a9, s9, rfl, y0, y1, e_a9, g_a9, rfl⟩
        conv => whnf
        obtain ⟨i, rfl, hi⟩ := nat_of (len := 3) y0 (by omega)
        refine ⟨i, rfl, hi, ?_⟩
        conv => whnf
        have h_v : -1 ≤ ((((List.replicate 3 (0 : Int)).set 0 0).set 1 (-1)).set 2 100).getD i 0 ∧ ((((List.replicate 3 (0 : Int)).set 0 0).set 1 (-1)).set 2 100).getD i 0 ≤ 100 := among_in (by kernel_rfl) hi
        generalize ((((List.replicate 3 (0 : Int)).set 0 0).set 1 (-1)).set 2 100).getD i 0 = v at h_v ⊢
        refine ⟨rfl, ?_⟩
        conv => whnf
        clear y0 y1 hi
        refine ⟨by simp [room]; omega, ?_⟩
        conv => whnf
        exact stop2 v h_v
      · conv => whnf
        exact stop
end Go.Proofs.Ytkjdplglenjijaa
/- Draws of matrices. -/
namespace Go.Proofs.Ytkjdplglenjijaa
open Go.Aw
set_option maxRecDepth 100000
set_option maxHeartbeats 4000000

/-- a drawn table, read-only -/
def tabR : AVal → List (Nat × ARow) → Prop := fun v h => h = [] ∧ ∃ m : List (List Int), SmM m ∧ v = .t (.rows m)
def tabO : AVal → List (Nat × ARow) → Prop := fun v h => ∃ m : List (List Int), SmM m ∧ v = .own 0 ∧ h = [(0, .rows 25 3 true m)]
theorem tabO_tell {f : FuncId} {args : List AVal} (h : FSpec Try.prog f args tabO) : FSpec Try.prog f args tabR := by
  refine FSpec.view h (fun v hr hp => ?_)
  obtain ⟨m, h0, rfl, rfl⟩ := hp
  exact ⟨[], .t (.rows m), [], rfl, trivial, ⟨rfl, rfl⟩, rfl, m, h0, rfl⟩
/-- a square table of numbers -/
def SqN (n : Nat) (m : List (List Int)) : Prop := m.length = n ∧ ∀ r, r ∈ m → r.length = n ∧ ∀ x, x ∈ r → InR x
theorem SqN.at {n : Nat} {m : List (List Int)} (h : SqN n m) {i : Nat} (hi : i < n) : (m.getD i []).length = n ∧ ∀ x, x ∈ m.getD i [] → InR x := h.2 _ (getD_mem (by rw [h.1]; exact hi))
theorem SqN.set {n : Nat} {m : List (List Int)} (h : SqN n m) {i : Nat} (hi : i < n) (k : Nat) {v : Int} (hv : InR v) : SqN n (m.set i ((m.getD i []).set k v)) := by
  refine ⟨by rw [List.length_set]; exact h.1, fun r hr => ?_⟩
  rcases List.mem_or_eq_of_mem_set hr with h1 | rfl
  · exact h.2 r h1
  · refine ⟨by rw [List.length_set]; exact (h.at hi).1, fun x hx => ?_⟩
    rcases List.mem_or_eq_of_mem_set hx with h2 | rfl
    · exact (h.at hi).2 x h2
    · exact hv
theorem SqN.sm {n : Nat} {m : List (List Int)} (h : SqN n m) (hn : n ≤ 4) : SmM m := ⟨by rw [h.1]; omega, fun r hr => ⟨by have := (h.2 r hr).1; omega, (h.2 r hr).2⟩⟩
theorem SqN.zero (n : Nat) : SqN n (List.replicate n (List.replicate n 0)) := ⟨by simp, fun r hr => by
  rw [List.eq_of_mem_replicate hr]
  exact ⟨by simp, fun x hx => by rw [List.eq_of_mem_replicate hx]; unfold InR; omega⟩⟩
theorem SmM.app0 {m : List (List Int)} (h : SmM m) (h4 : ∀ r, r ∈ m → r.length ≤ 4) (h0 : 0 < m.length) : SmM (m.set 0 (m.getD 0 [] ++ [0])) := by
  refine ⟨by rw [List.length_set]; exact h.1, fun r hr => ?_⟩
  rcases List.mem_or_eq_of_mem_set hr with h1 | rfl
  · exact h.2 r h1
  · refine ⟨by rw [List.length_append, List.length_singleton]; have := h4 _ (getD_mem (d := []) h0); omega, fun x hx => ?_⟩
    rcases List.mem_append.1 hx with h2 | h2
    · exact (h.2 _ (getD_mem h0)).2 x h2
    · rw [List.mem_singleton] at h2; subst h2; unfold InR; omega

theorem DrawIsNeverNegative_spec (code : List Int) (hc : OkB code) : FSpec Try.prog 16 [.t (.ints .u8 code)] tabR := by
  refine tabO_tell ?_
  refine fspec tyOk mx Try.func16 rfl (by kernel_rfl) rfl ?_
  conv => whnf
  refine ACallS.tmut 0 (pick_spec code hc 0 0 (by omega) 4 (by omega) (by omega)) ?_ rfl (by (repeat' (first | exact trivial | exact rfl | refine And.intro ?_ ?_)) <;> (try first | omega | (simp; done))) (by (repeat' (first | exact trivial | exact rfl | refine And.intro ?_ ?_)) <;> (try first | omega | (simp; done)))
  rintro v r ⟨y, a1, s1, rfl, y0, y1, e1, g1, rfl⟩
  conv => whnf
  obtain ⟨n0, rfl, hn0⟩ := nat_of (len := 4) y0 (by omega)
  have en : IntKind.i64.wrap (1 + (n0 : Int)) = ((n0 + 1 : Nat) : Int) := by rw [w64 (by omega) (by omega)]; omega
  rw [en]
  generalize hnn : n0 + 1 = n
  have hn1 : 1 ≤ n := by omega
  have hn4 : n ≤ 4 := by omega
  clear en y0 y1
  refine aloopI tyOk mx (fun i : Nat => (⟨90, [(3, .ptr 0 0), (4, .c (.int .i64 (n))), (5, .own 1), (6, .c (.int .i64 (i)))], [(0, cur code a1 s1), (1, .rows 25 3 true (List.replicate i (List.replicate n 0)))], 2⟩ : St)) (fun i => i ≤ n) (fun i => n - i) 0 (Nat.zero_le _) none (by refine ⟨rfl, rfl, ?_, ?_⟩ <;> ((repeat' (first | exact trivial | exact rfl | refine And.intro ?_ ?_)) <;> (try ((conv => whnf); first | refine vint ?_ | refine vboo ?_ | refine rint ?_ | refine rrow ?_ | skip)) <;> (try first | omega | (simp; done) | ((repeat rw [flts_closed _ (by assumption)]); exact vws_closed _ (by assumption))))) (fun i hi => ?_)
  refine ⟨fun h => ?_, fun h => ?_⟩
  · have h : i < n := ltT h
    conv => whnf
    refine ⟨n, rfl, rfl, by simp only [room]; omega, ?_⟩
    conv => whnf
    refine ⟨by simp [room]; omega, ?_⟩
    conv => whnf
    rw [nat_wrap (by omega)]
    refine ⟨i + 1, none, ?_, by omega, by omega⟩
    rw [List.replicate_succ' (n := i)]
    (refine ⟨rfl, rfl, ?_, ?_⟩ <;> ((repeat' (first | exact trivial | exact rfl | refine And.intro ?_ ?_)) <;> (try ((conv => whnf); first | refine vint ?_ | refine vboo ?_ | refine rint ?_ | refine rrow ?_ | skip)) <;> (try first | omega | (simp; done) | ((repeat rw [flts_closed _ (by assumption)]); exact vws_closed _ (by assumption)))))
  · have h := ltF h
    obtain rfl : i = n := by omega
    conv => whnf
    refine aloopI tyOk mx (fun x : List (List Int) × Nat × Nat × Int => (⟨90, [(3, .ptr 0 0), (4, .c (.int .i64 (i))), (5, .own 1), (7, .c (.int .i64 (x.2.1)))], [(0, cur code x.2.2.1 x.2.2.2), (1, .rows 25 3 true x.1)], 2⟩ : St)) (fun x => SqN i x.1 ∧ x.2.1 ≤ i ∧ a1 ≤ x.2.2.1 ∧ x.2.2.1 ≤ a1 + 50 * x.2.1) (fun x => i - x.2.1) (List.replicate i (List.replicate i 0), 0, a1, s1) ⟨SqN.zero i, by simp, by simp, by simp⟩ none (by refine ⟨rfl, rfl, ?_, ?_⟩ <;> ((repeat' (first | exact trivial | exact rfl | refine And.intro ?_ ?_)) <;> (try ((conv => whnf); first | refine vint ?_ | refine vboo ?_ | refine rint ?_ | refine rrow ?_ | skip)) <;> (try first | omega | (simp; done) | ((repeat rw [flts_closed _ (by assumption)]); exact vws_closed _ (by assumption))))) (fun x hx => ?_)
    obtain ⟨m, x, a2, s2⟩ := x
    obtain ⟨hm, x1, x2, x3⟩ := hx
    simp only at hm x1 x2 x3
    dsimp only
    conv => whnf
    refine ⟨fun h => ?_, fun h => ?_⟩
    · have hx1 : x < i := ltT h
      conv => whnf
      refine aloopI tyOk mx (fun x2 : List (List Int) × Nat × Nat × Int => (⟨90, [(3, .ptr 0 0), (4, .c (.int .i64 (i))), (5, .own 1), (7, .c (.int .i64 (x))), (8, .c (.int .i64 (x2.2.1)))], [(0, cur code x2.2.2.1 x2.2.2.2), (1, .rows 25 3 true x2.1)], 2⟩ : St)) (fun x2 => SqN i x2.1 ∧ x2.2.1 ≤ x + 1 ∧ a2 ≤ x2.2.2.1 ∧ x2.2.2.1 ≤ a2 + 10 * x2.2.1) (fun x2 => x + 1 - x2.2.1) (m, 0, a2, s2) ⟨hm, by simp, by simp, by simp⟩ none (by refine ⟨rfl, rfl, ?_, ?_⟩ <;> ((repeat' (first | exact trivial | exact rfl | refine And.intro ?_ ?_)) <;> (try ((conv => whnf); first | refine vint ?_ | refine vboo ?_ | refine rint ?_ | refine rrow ?_ | skip)) <;> (try first | omega | (simp; done) | ((repeat rw [flts_closed _ (by assumption)]); exact vws_closed _ (by assumption))))) (fun x2 hx2 => ?_)
      obtain ⟨M, k, a3, s3⟩ := x2
      obtain ⟨hM, k1, k2, k3⟩ := hx2
      simp only at hM k1 k2 k3
      dsimp only
      conv => whnf
      refine ⟨fun h => ?_, fun h => ?_⟩
      · have hk1 : k ≤ x := by have := of_decide_eq_true h; omega
        conv => whnf
        refine ACallS.tmut 0 (pick_spec code hc a3 s3 (by omega) 5 (by omega) (by omega)) ?_ rfl (by (repeat' (first | exact trivial | exact rfl | refine And.intro ?_ ?_)) <;> (try first | omega | (simp; done))) (by (repeat' (first | exact trivial | exact rfl | refine And.intro ?_ ?_)) <;> (try first | omega | (simp; done)))
        rintro v r ⟨v, a4, s4, rfl, l_v, u_v, e_a4, g_a4, rfl⟩
        conv => whnf
        have hv : InR (IntKind.i64.wrap (v - 2)) := W_inr _
        generalize IntKind.i64.wrap (v - 2) = u at hv ⊢
        refine ⟨fun h => ?_, fun h => ?_⟩
        · conv => whnf
          refine ACallS.tmut 0 (pick_spec code hc a4 s4 (by omega) 7 (by omega) (by omega)) ?_ rfl (by (repeat' (first | exact trivial | exact rfl | refine And.intro ?_ ?_)) <;> (try first | omega | (simp; done))) (by (repeat' (first | exact trivial | exact rfl | refine And.intro ?_ ?_)) <;> (try first | omega | (simp; done)))
          rintro v r ⟨w, a5, s5, rfl, l_w, u_w, e_a5, g_a5, rfl⟩
          conv => whnf
          clear hv
          have hv : InR w := by unfold InR; omega
          refine ⟨x, rfl, (by have := hM.1; omega), ?_⟩
          conv => whnf
          refine ⟨k, rfl, (by have := (hM.at hx1).1; omega), ?_⟩
          conv => whnf
          refine ⟨k, rfl, (by rw [List.length_set]; have := hM.1; omega), ?_⟩
          conv => whnf
          refine ⟨x, rfl, (by have := ((hM.set hx1 k hv).at (i := k) (by omega)).1; omega), ?_⟩
          conv => whnf
          rw [nat_wrap (by omega)]
          exact ⟨(_, k + 1, _, _), none, (by refine ⟨rfl, rfl, ?_, ?_⟩ <;> ((repeat' (first | exact trivial | exact rfl | refine And.intro ?_ ?_)) <;> (try ((conv => whnf); first | refine vint ?_ | refine vboo ?_ | refine rint ?_ | refine rrow ?_ | skip)) <;> (try first | omega | (simp; done) | ((repeat rw [flts_closed _ (by assumption)]); exact vws_closed _ (by assumption))))), ⟨(hM.set hx1 k hv).set (by omega) x hv, by simp only; omega, by simp only; omega, by simp only; omega⟩, by simp only; omega⟩
        · conv => whnf
          refine ⟨x, rfl, (by have := hM.1; omega), ?_⟩
          conv => whnf
          refine ⟨k, rfl, (by have := (hM.at hx1).1; omega), ?_⟩
          conv => whnf
          refine ⟨k, rfl, (by rw [List.length_set]; have := hM.1; omega), ?_⟩
          conv => whnf
          refine ⟨x, rfl, (by have := ((hM.set hx1 k hv).at (i := k) (by omega)).1; omega), ?_⟩
          conv => whnf
          rw [nat_wrap (by omega)]
          exact ⟨(_, k + 1, _, _), none, (by refine ⟨rfl, rfl, ?_, ?_⟩ <;> ((repeat' (first | exact trivial | exact rfl | refine And.intro ?_ ?_)) <;> (try ((conv => whnf); first | refine vint ?_ | refine vboo ?_ | refine rint ?_ | refine rrow ?_ | skip)) <;> (try first | omega | (simp; done) | ((repeat rw [flts_closed _ (by assumption)]); exact vws_closed _ (by assumption))))), ⟨(hM.set hx1 k hv).set (by omega) x hv, by simp only; omega, by simp only; omega, by simp only; omega⟩, by simp only; omega⟩
      · have hk1 : ¬ k ≤ x := by have := of_decide_eq_false h; omega
        obtain rfl : k = x + 1 := by omega
        conv => whnf
        rw [nat_wrap (by omega)]
        exact ⟨(M, x + 1, a3, s3), none, (by refine ⟨rfl, rfl, ?_, ?_⟩ <;> ((repeat' (first | exact trivial | exact rfl | refine And.intro ?_ ?_)) <;> (try ((conv => whnf); first | refine vint ?_ | refine vboo ?_ | refine rint ?_ | refine rrow ?_ | skip)) <;> (try first | omega | (simp; done) | ((repeat rw [flts_closed _ (by assumption)]); exact vws_closed _ (by assumption))))), ⟨hM, by simp only; omega, by simp only; omega, by simp only; omega⟩, by simp only; omega⟩
    · have h := ltF h
      obtain rfl : x = i := by omega
      have hsm := hm.sm hn4
      have hl := hm.1
      have hr0 := hm.at (i := 0) (by omega)
      conv => whnf
      refine ACallS.tmut 0 (pick_spec code hc a2 s2 (by omega) 24 (by omega) (by omega)) ?_ rfl (by (repeat' (first | exact trivial | exact rfl | refine And.intro ?_ ?_)) <;> (try first | omega | (simp; done))) (by (repeat' (first | exact trivial | exact rfl | refine And.intro ?_ ?_)) <;> (try first | omega | (simp; done)))
      rintro v r ⟨z, a3, s3, rfl, l_z, u_z, e_a3, g_a3, rfl⟩
      conv => whnf
      refine ⟨fun h5 => ?_, fun h5 => ?_⟩
      · conv => whnf
        refine ADraw.planX [5] tyOk mx (.q 0 (.q 1 (.q 3 (.alt 2 (.last 4 (.inl 5 (.q 6 (.last 7 (.done))))) (.last 4 (.alt 2 (.inl 5 (.q 6 (.last 7 (.done)))) (.inl 5 (.last 2 (.q 6 (.last 7 (.done)))))))))) : Plan) (by kernel_rfl) ?_
        conv => whnf
        have fin : ∀ (v : Int), (-1 ≤ v ∧ v ≤ 100) → SmM (m.set 0 ((m.getD 0 []).set 0 v)) := fun v hv => (hm.set (by omega) 0 (by unfold InR; omega)).sm hn4
        repeat' (first
          | (refine ⟨0, rfl, (by omega : 0 < m.length), ?_⟩; conv => whnf)
          | (refine ⟨0, rfl, (by omega : 0 < (m.getD 0 []).length), ?_⟩; conv => whnf)
          | (refine ACallS.inline tyOk mx Try.func23 rfl (by kernel_rfl) rfl ?_; (conv => whnf); refine ACallS.tmut 0 (pick_spec code hc a3 s3 (by omega) 3 (by omega) (by omega)) ?_ rfl (by (repeat' (first | exact trivial | exact rfl | refine And.intro ?_ ?_)) <;> (try first | omega | (simp; done))) (by (repeat' (first | exact trivial | exact rfl | refine And.intro ?_ ?_)) <;> (try first | omega | (simp; done))); rintro v r ⟨y, a7, s7, rfl, y0, y1, e_a7, g_a7, rfl⟩; (conv => whnf); obtain ⟨i, rfl, hi⟩ := nat_of (len := 3) y0 (by omega); refine ⟨i, rfl, hi, ?_⟩; (conv => whnf); have h_v : -1 ≤ ((((List.replicate 3 (0 : Int)).set 0 99).set 1 100).set 2 (-1)).getD i 0 ∧ ((((List.replicate 3 (0 : Int)).set 0 99).set 1 100).set 2 (-1)).getD i 0 ≤ 100 := among_in (by kernel_rfl) hi; generalize ((((List.replicate 3 (0 : Int)).set 0 99).set 1 100).set 2 (-1)).getD i 0 = v at h_v ⊢; refine ⟨rfl, ?_⟩; (conv => whnf); clear y0 y1 hi)
          | exact ⟨_, fin _ (by assumption), rfl, rfl⟩
          | (refine And.intro ?_ ?_ <;> (conv => whnf)))
      · conv => whnf
        refine ⟨fun h6 => ?_, fun h6 => ?_⟩
        · conv => whnf
          refine ASet.app tyOk rfl rfl rfl rfl rfl rfl rfl rfl rfl rfl rfl rfl ?_
          conv => whnf
          refine ⟨0, rfl, by omega, ?_⟩
          conv => whnf
          refine ⟨rfl, by omega, by simp only [room, List.length_set, List.length_replicate]; omega, ?_⟩
          conv => whnf
          exact ⟨m.set 0 (m.getD 0 [] ++ [0]), hsm.app0 (fun r hr => by have := (hm.2 r hr).1; omega) (by omega), rfl, rfl⟩
        · conv => whnf
          refine ⟨fun h7 => ?_, fun h7 => ?_⟩
          · conv => whnf
            have e5 : IntKind.i64.wrap ((x : Int) - 1) = ((x - 1 : Nat) : Int) := by rw [w64 (by omega) (by omega)]; omega
            have hrl := hm.at (i := x - 1) (by omega)
            refine ADraw.planX [6] tyOk mx (.q 0 (.q 1 (.q 5 (.alt 2 (.q 3 (.alt 4 (.inl 6 (.q 7 (.last 8 (.done)))) (.inl 6 (.last 4 (.q 7 (.last 8 (.done))))))) (.inl 6 (.last 2 (.q 3 (.last 4 (.q 7 (.last 8 (.done)))))))))) : Plan) (by kernel_rfl) ?_
            conv => whnf
            have fin : ∀ (v : Int), (0 ≤ v ∧ v < 3) → SmM (m.set (x - 1) ((m.getD (x - 1) []).set 0 v)) := fun v hv => (hm.set (by omega) 0 (by unfold InR; omega)).sm hn4
            repeat' (first
              | (refine ⟨x - 1, e5, (by omega : x - 1 < m.length), ?_⟩; conv => whnf)
              | (refine ⟨0, rfl, (by omega : 0 < (m.getD (x - 1) []).length), ?_⟩; conv => whnf)
              | (refine ACallS.tmut 0 (pick_spec code hc a3 s3 (by omega) 3 (by omega) (by omega)) ?_ rfl (by (repeat' (first | exact trivial | exact rfl | refine And.intro ?_ ?_)) <;> (try first | omega | (simp; done))) (by (repeat' (first | exact trivial | exact rfl | refine And.intro ?_ ?_)) <;> (try first | omega | (simp; done))); rintro v r ⟨v, a7, s7, rfl, l_v, u_v, e_a7, g_a7, rfl⟩; (conv => whnf))
              | exact ⟨_, fin _ ⟨by assumption, by assumption⟩, rfl, rfl⟩
              | (refine And.intro ?_ ?_ <;> (conv => whnf)))
          · conv => whnf
            exact ⟨m, hsm, rfl, rfl⟩
end Go.Proofs.Ytkjdplglenjijaa
/- What a law cuts off its bytes. -/
namespace Go.Proofs.Ytkjdplglenjijaa
open Go.Aw
set_option maxRecDepth 100000
theorem vCut_own (code : List Int) (hc : code.length ≤ 65536) (n : Nat) (hn : n ≤ 100) :
    FSpec Try.prog 11 [.t (.ints .u8 code), .c (.int .i64 (n))] (ex (.own 0) [(0, .ints 5 .u8 (code.drop (min n code.length) ++ [IntKind.u8.wrap ((min n code.length : Nat) : Int)]))]) := by
  refine fspec tyOk mx Try.func11 rfl (by kernel_rfl) rfl ?_
  conv => whnf
  refine ⟨fun h => ?_, fun h => ?_⟩
  · have h := of_decide_eq_true h
    conv => whnf
    refine ⟨code.length, rfl, Nat.le_refl _, ?_⟩
    conv => whnf
    refine ⟨by simp [room], ?_⟩
    conv => whnf
    refine ⟨by simp [room], ?_⟩
    conv => whnf
    have e : min n code.length = code.length := Nat.min_eq_right (by omega)
    refine ⟨rfl, ?_⟩
    rw [e]; rfl
  · have h := of_decide_eq_false h
    conv => whnf
    refine ⟨n, rfl, by omega, ?_⟩
    conv => whnf
    refine ⟨by unfold room; simp; omega, ?_⟩
    conv => whnf
    refine ⟨by unfold room; simp; omega, ?_⟩
    conv => whnf
    have e : min n code.length = n := Nat.min_eq_left (by omega)
    refine ⟨rfl, ?_⟩
    rw [e]; rfl
/-- bytes again -/
theorem vCut_spec (code : List Int) (hb : OkB code) (hc : code.length ≤ 65536) (n : Nat) (hn : n ≤ 100) :
    FSpec Try.prog 11 [.t (.ints .u8 code), .c (.int .i64 (n))] (fun v h => h = [] ∧ ∃ c : List Int, OkB c ∧ v = .t (.ints .u8 c)) := by
  refine (vCut_own code hc n hn).view ?_
  rintro x hr ⟨rfl, rfl⟩
  refine ⟨[], .t (.ints .u8 (code.drop (min n code.length) ++ [IntKind.u8.wrap ((min n code.length : Nat) : Int)])), [], rfl, trivial, ⟨rfl, rfl⟩, rfl, _, ⟨by simp; omega, fun y hy => ?_⟩, rfl⟩
  rcases List.mem_append.1 hy with h | h
  · exact hb.2 y (List.mem_of_mem_drop h)
  · rw [List.mem_singleton] at h
    subst h
    have e : ∀ k : Nat, k ≤ 100 → 0 ≤ IntKind.u8.wrap (k : Int) ∧ IntKind.u8.wrap (k : Int) ≤ 255 := by decide +kernel
    exact e _ (by omega)
end Go.Proofs.Ytkjdplglenjijaa
