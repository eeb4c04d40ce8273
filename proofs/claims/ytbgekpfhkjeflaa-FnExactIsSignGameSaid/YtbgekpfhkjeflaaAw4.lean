/- Steps of the heap of the call's own rows. -/
import Derived.Test.YtbgekpfhkjeflaaAw3
namespace Go.Aw
open Go.RowKit

section
variable {w w' : World} {B : Nat} {bad bad' : Nat → Prop} {hp hp' : List (Nat × ARow)} {nx nx' : Nat} {η η' : Env} {k : Nat} {ob : Nat → Prop}

theorem ownsRow_lt {e size : Nat} {v : Value} {n : Nat} {xs : List Value} (h : w.ownsRow B e size v n xs) : ∀ b, b ∈ blk v → B ≤ b ∧ b < w.heap.size := by
  intro b hb
  rcases h.2 with ⟨rfl, _⟩ | ⟨g, cap, cur, rfl, hg, hh, r⟩
  · simp [blk] at hb
  · simp [blk] at hb; subst hb; exact ⟨hg, (Array.getElem?_eq_some_iff.1 hh).1⟩

theorem RowRep.lt {r : ARow} (h : RowRep w B bad hp nx η k r) : ∀ b, b ∈ bsOf η k r → B ≤ b ∧ b < w.heap.size := by
  intro b hb
  match r with
  | .ints e kd l => simp [bsOf, ARow.kind] at hb; exact ownsRow_lt h.1 b hb
  | .rows e e1 true m =>
    simp only [bsOf, ARow.kind, if_true, List.mem_append, List.mem_flatMap] at hb
    rcases hb with hb | ⟨v, hv, hb⟩
    · exact ownsRow_lt h.1 b hb
    · obtain ⟨i, hi⟩ := List.getElem?_of_mem hv
      obtain ⟨l, _, ho⟩ := F2.at' h.2 hi
      exact ownsRow_lt ho b hb
  | .rows e e1 false m => simp [bsOf, ARow.kind] at hb; exact ownsRow_lt h.1 b hb
  | .cells e l =>
    simp [bsOf, ARow.kind] at hb
    obtain ⟨b', h1, h2, h3, h4⟩ := h
    rw [h1] at hb
    simp [blk] at hb
    subst hb
    exact ⟨h2, (Array.getElem?_eq_some_iff.1 h3).1⟩

theorem bsOf_flt (f g : Nat → Bool) (η : Env) (k : Nat) (r : ARow) : bsOf η k (r.flt f g) = bsOf η k r := by simp [bsOf, kind_flt]

theorem bsOf_congr {r r' : ARow} (hv : η'.val k = η.val k) (hc : η'.cel k = η.cel k) (hk : r'.kind = r.kind) : bsOf η' k r' = bsOf η k r := by simp [bsOf, hv, hc, hk]

abbrev badOf (ob : Nat → Prop) (hp : List (Nat × ARow)) (η : Env) : Nat → Prop := fun b => ob b ∨ ownB hp η b

theorem cell_lt {b o : Nat} {x : Value} (h : w.cell? ⟨b, o, none⟩ = some x) : b < w.heap.size := World.block_lt_of_cell? w _ h

theorem Keeps.below (h : Below w.heap.size w w') : Keeps w bad w' bad := fun b o x hb hc => ⟨hb, by rw [h.cell (p := ⟨b, o, none⟩) (cell_lt hc)]; exact hc⟩

/-- ONE STEP: row k is written, or made; other rows may be gone (their blocks may have gone over into row k). -/
theorem HRep.step (h : HRep w B ob hp nx η) (f g : Nat → Bool) (r' : ARow) (hkn : k < nx') (hnn : nx ≤ nx')
    (hoth : ∀ j r1, j ≠ k → look hp' j = some r1 → ∃ r, look hp j = some r ∧ r1 = r.flt f g)
    (hhk : look hp' k = some r')
    (hη : ∀ j, j ≠ k → η'.val j = η.val j ∧ η'.cel j = η.cel j)
    (hheap : ∀ b, b < w.heap.size → (∀ r, look hp k = some r → b ∉ bsOf η k r) → w'.heap[b]? = w.heap[b]?)
    (hf : ∀ j, j < nx → f j = true → OwnOk hp η hp' η' j) (hg : ∀ j, j < nx → g j = true → SubOk hp η hp' η' j)
    (hnd : (bsOf η' k r').Nodup)
    (hfr : ∀ b, b ∈ bsOf η' k r' → (∃ j r, look hp j = some r ∧ b ∈ bsOf η j r ∧ (j = k ∨ look hp' j = none)) ∨ w.heap.size ≤ b)
    (hrow : Keeps w (badOf ob hp η) w' (badOf ob hp' η') → RowRep w' B (badOf ob hp' η') hp' nx' η' k r') :
    HRep w' B ob hp' nx' η' ∧ Keeps w (badOf ob hp η) w' (badOf ob hp' η') := by
  have hbs : ∀ j r, j ≠ k → bsOf η' j (ARow.flt f g r) = bsOf η j r := fun j r hj => by
    rw [bsOf_flt]; exact bsOf_congr (hη j hj).1 (hη j hj).2 rfl
  have hkeep : Keeps w (badOf ob hp η) w' (badOf ob hp' η') := by
    intro b o x hb hc
    have hlt := cell_lt hc
    have hno : ∀ j r, look hp j = some r → b ∉ bsOf η j r := fun j r hj hm => hb (.inr ⟨j, r, hj, hm⟩)
    refine ⟨?_, ?_⟩
    · rintro (h1 | ⟨j, r1, hj, hm⟩)
      · exact hb (.inl h1)
      · by_cases hjk : j = k
        · subst hjk
          rw [hhk] at hj
          obtain rfl := Option.some.inj hj
          rcases hfr b hm with ⟨j0, r0, hj0, hm0, _⟩ | hge
          · exact hno j0 r0 hj0 hm0
          · omega
        · obtain ⟨r, hr, rfl⟩ := hoth j r1 hjk hj
          rw [hbs j r hjk] at hm
          exact hno j r hr hm
    · have : w'.cell? ⟨b, o, none⟩ = w.cell? ⟨b, o, none⟩ := World.cell?_of_block (w := w) (hheap b hlt (fun r hr => hno k r hr))
      rw [this]; exact hc
  refine ⟨⟨?_, ?_, ?_, ?_⟩, hkeep⟩
  · intro j r1 hj
    by_cases hjk : j = k
    · subst hjk
      rw [hhk] at hj
      obtain rfl := Option.some.inj hj
      exact hrow hkeep
    · obtain ⟨r, hr, rfl⟩ := hoth j r1 hjk hj
      refine (h.row j r hr).flt hkeep hnn hf hg (hη j hjk).1 (hη j hjk).2 (fun b hb => ?_)
      exact hheap b ((h.row j r hr).lt b hb).2 (fun r0 hr0 hm => h.apart j r k r0 hr hr0 hjk b hb hm)
  · intro j r1 hj
    by_cases hjk : j = k
    · subst hjk
      rw [hhk] at hj
      obtain rfl := Option.some.inj hj
      exact hnd
    · obtain ⟨r, hr, rfl⟩ := hoth j r1 hjk hj
      rw [hbs j r hjk]
      exact h.nodup j r hr
  · have key : ∀ j r1, j ≠ k → look hp' j = some r1 → ∀ b, b ∈ bsOf η' j r1 → b ∉ bsOf η' k r' := by
      intro j r1 hjk hj b hb hm
      obtain ⟨r, hr, rfl⟩ := hoth j r1 hjk hj
      rw [hbs j r hjk] at hb
      rcases hfr b hm with ⟨j0, r0, hj0, hm0, hgone⟩ | hge
      · have hne : j ≠ j0 := by
          rcases hgone with rfl | hn
          · exact hjk
          · intro e; subst e; rw [hj] at hn; cases hn
        exact h.apart j r j0 r0 hr hj0 hne b hb hm0
      · have := ((h.row j r hr).lt b hb).2
        omega
    intro j r1 j' r1' hj hj' hne b hb
    by_cases hjk : j = k
    · subst hjk
      rw [hhk] at hj
      obtain rfl := Option.some.inj hj
      exact fun hm => key j' r1' (Ne.symm hne) hj' b hm hb
    · by_cases hjk' : j' = k
      · subst hjk'
        rw [hhk] at hj'
        obtain rfl := Option.some.inj hj'
        exact key j r1 hjk hj b hb
      · obtain ⟨r, hr, rfl⟩ := hoth j r1 hjk hj
        obtain ⟨r0, hr0, rfl⟩ := hoth j' r1' hjk' hj'
        rw [hbs j r hjk] at hb
        rw [hbs j' r0 hjk']
        exact h.apart j r j' r0 hr hr0 hne b hb
  · intro j r1 hj
    by_cases hjk : j = k
    · omega
    · obtain ⟨r, hr, rfl⟩ := hoth j r1 hjk hj
      have := h.lt j r hr
      omega

theorem HRep.mono (h : HRep w B ob hp nx η) (hw : Below w.heap.size w w') : HRep w' B ob hp nx η := by
  refine ⟨fun k r hk => ?_, h.nodup, h.apart, h.lt⟩
  have hrr := h.row k r hk
  have := hrr.flt (f := fun _ => true) (g := fun _ => true) (w' := w') (bad' := badOf ob hp η) (hp' := hp) (nx' := nx) (η' := η) (Keeps.below hw) (Nat.le_refl _)
    (fun k _ _ => OwnOk.refl hp η k) (fun k _ _ => SubOk.refl hp η k) rfl rfl (fun b hb => hw.block b (hrr.lt b hb).2)
  rwa [rowflt_true] at this

/-- rows may be forgotten -/
theorem HRep.forget (h : HRep w B ob hp nx η) (hs : ∀ j r, look hp' j = some r → look hp j = some r) (hl : ∀ j r, look hp' j = some r → j < nx') (hn : nx ≤ nx') :
    HRep w B ob hp' nx' η ∧ Keeps w (badOf ob hp η) w (badOf ob hp' η) := by
  have hkeep : Keeps w (badOf ob hp η) w (badOf ob hp' η) := by
    intro b o x hb hc
    refine ⟨?_, hc⟩
    rintro (h1 | ⟨j, r, hj, hm⟩)
    · exact hb (.inl h1)
    · exact hb (.inr ⟨j, r, hs j r hj, hm⟩)
  refine ⟨⟨fun k r hk => ?_, fun j r hj => h.nodup j r (hs j r hj), fun j r j' r' hj hj' => h.apart j r j' r' (hs j r hj) (hs j' r' hj'), hl⟩, hkeep⟩
  have hrr := h.row k r (hs k r hk)
  have := hrr.flt (f := fun _ => true) (g := fun _ => true) (w' := w) (bad' := badOf ob hp' η) (hp' := hp') (nx' := nx') (η' := η) hkeep hn
    (fun k _ _ => OwnOk.of (fun r' hr' => ⟨r', hs k r' hr', rfl⟩) rfl rfl) (fun k _ _ => SubOk.of (fun r' hr' => ⟨r', hs k r' hr', rfl⟩) rfl) rfl rfl (fun b _ => rfl)
  rwa [rowflt_true] at this
end

/-! ### states -/
section
variable {w0 w w' : World} {ob : Nat → Prop} {st : St} {a : Act} {η η' : Env}

theorem SRep.mono (h : SRep w0 ob st a w η) (hw : Below w.heap.size w w') : SRep w0 ob st a w' η := by
  refine ⟨h.defers, h.size, ?_, h.heap.mono hw, fun i x hi => ?_⟩
  · exact h.below.trans (hw.mono h.below.size)
  · exact VRep.frame (Keeps.below hw) (Nat.le_refl _) (fun k _ => OwnOk.refl _ _ k) (fun k _ => SubOk.refl _ _ k) (h.slot i x hi)

theorem getD_put {a : Act} {d i : Nat} {v u : Value} (hd : d < a.tmps.size) : (a.put (some d) v).tmps.getD i u = if d = i then v else a.tmps.getD i u := by
  simp only [Act.put, Array.getD_eq_getD_getElem?, Array.getElem?_setIfInBounds]
  by_cases h : d = i
  · subst h; simp [hd]
  · simp [h]

theorem SRep.put (h : SRep w0 ob st a w η) {d : Nat} (hd : d < st.sz) {x : AVal} {v : Value} (hv : VRep w (badOf ob st.hp η) st.hp st.nx η x v) : SRep w0 ob (st.put d x) (a.put (some d) v) w η := by
  have hd' : d < a.tmps.size := by rw [h.size]; exact hd
  refine ⟨h.defers, by simpa [Act.put, St.put] using h.size, h.below, h.heap, fun i y hi => ?_⟩
  simp only [St.put] at hi ⊢
  rw [look_cons] at hi
  rw [getD_put hd']
  by_cases hdi : d = i
  · rw [if_pos hdi] at hi ⊢
    obtain rfl := Option.some.inj hi
    exact hv
  · rw [if_neg hdi] at hi ⊢
    exact h.slot i y hi

theorem SRep.drop1 (h : SRep w0 ob st a w η) {d : Nat} {v : Value} : SRep w0 ob (st.drop1 d) (a.put (some d) v) w η := by
  refine ⟨h.defers, by simpa [Act.put, St.drop1] using h.size, h.below, h.heap, fun i y hi => ?_⟩
  simp only [St.drop1] at hi ⊢
  by_cases hdi : i = d
  · subst hdi; rw [look_rem] at hi; cases hi
  · rw [look_rem_ne _ _ _ hdi] at hi
    have : (a.put (some d) v).tmps.getD i undef = a.tmps.getD i undef := by
      simp only [Act.put, Array.getD_eq_getD_getElem?, Array.getElem?_setIfInBounds]
      rw [if_neg (Ne.symm hdi)]
    rw [this]
    exact h.slot i y hi

/-- the heap has made a step -/
theorem SRep.heapStep (h : SRep w0 ob st a w η) (f g : Nat → Bool) {hp' : List (Nat × ARow)} {nx' : Nat} (hb : Below w0.heap.size w w')
    (hh : HRep w' w0.heap.size ob hp' nx' η') (hk : Keeps w (badOf ob st.hp η) w' (badOf ob hp' η')) (hn : st.nx ≤ nx')
    (hf : ∀ j, j < st.nx → f j = true → OwnOk st.hp η hp' η' j) (hg : ∀ j, j < st.nx → g j = true → SubOk st.hp η hp' η' j) :
    SRep w0 ob { st with sl := fltS f g st.sl, hp := hp', nx := nx' } a w' η' := by
  refine ⟨h.defers, h.size, h.below.trans hb, hh, fun i x hi => ?_⟩
  simp only at hi ⊢
  rw [look_fltS] at hi
  obtain ⟨y, hy, rfl⟩ := Option.map_eq_some_iff.1 hi
  exact VRep.flt hk hn hf hg y _ (h.slot i y hy)
end
end Go.Aw
