/- Steps of the heap of the call's own rows. -/
import Derived.Test.YtpakfehinfcdoaaAw3
namespace Go.Aw
open Go.RowKit

section
variable {w w' : World} {B : Nat} {bad bad' : Nat → Prop} {hp hp' : List (Nat × ARow)} {nx nx' : Nat} {η η' : Env} {k : Nat} {ob : Nat → Prop}

theorem ownsRow_lt {e size : Nat} {v : Value} {n : Nat} {xs : List Value} (h : w.ownsRow B e size v n xs) : ∀ b, b ∈ blk v → B ≤ b ∧ b < w.heap.size := by
  intro b hb
  rcases h.2 with ⟨rfl, _⟩ | ⟨g, cap, cur, rfl, hg, hh, r⟩
  · simp [blk] at hb
  · simp [blk] at hb; subst hb; exact ⟨hg, (Array.getElem?_eq_some_iff.1 hh).1⟩

theorem RowRep.lt {r : ARow} (h : RowRep w B bad hp nx η k r) : ∀ b, b ∈ bsOf η k r → B ≤ b ∧ b < w.heap.size := by
  intro b hb
  match r with
  | .ints e kd l => simp [bsOf, ARow.kind] at hb; exact ownsRow_lt h.1 b hb
  | .rows e e1 true m =>
    simp only [bsOf, ARow.kind, if_true, List.mem_append, List.mem_flatMap] at hb
    rcases hb with hb | ⟨v, hv, hb⟩
    · exact ownsRow_lt h.1 b hb
    · obtain ⟨i, hi⟩ := List.getElem?_of_mem hv
      obtain ⟨l, _, ho⟩ := F2.at' h.2 hi
      exact ownsRow_lt ho b hb
  | .rows e e1 false m => simp [bsOf, ARow.kind] at hb; exact ownsRow_lt h.1 b hb
  | .cells e l =>
    simp [bsOf, ARow.kind] at hb
    obtain ⟨b', h1, h2, h3, h4⟩ := h
    rw [h1] at hb
    simp [blk] at hb
    subst hb
    exact ⟨h2, (Array.getElem?_eq_some_iff.1 h3).1⟩
  | .recs e s L => simp [bsOf, ARow.kind] at hb; exact ownsRow_lt h.1 b hb

theorem bsOf_flt (f g : Nat → Bool) (η : Env) (k : Nat) (r : ARow) : bsOf η k (r.flt f g) = bsOf η k r := by simp [bsOf, kind_flt]

theorem bsOf_congr {r r' : ARow} (hv : η'.val k = η.val k) (hc : η'.cel k = η.cel k) (hk : r'.kind = r.kind) : bsOf η' k r' = bsOf η k r := by simp [bsOf, hv, hc, hk]

abbrev badOf (ob : Nat → Prop) (hp : List (Nat × ARow)) (η : Env) : Nat → Prop := fun b => ob b ∨ ownB hp η b

theorem cell_lt {b o : Nat} {x : Value} (h : w.cell? ⟨b, o, none⟩ = some x) : b < w.heap.size := World.block_lt_of_cell? w _ h

theorem Keeps.below (h : Below w.heap.size w w') : Keeps w bad w' bad := fun b o x hb hc => ⟨hb, by rw [h.cell (p := ⟨b, o, none⟩) (cell_lt hc)]; exact hc⟩

/-- what a step does to blocks -/
structure Stp (w : World) (hp : List (Nat × ARow)) (η : Env) (w' : World) (hp' : List (Nat × ARow)) (η' : Env) : Prop where
  frm : ∀ b, b < w.heap.size → ¬ ownB hp η b → w'.heap[b]? = w.heap[b]?
  src : ∀ b, ownB hp' η' b → ownB hp η b ∨ w.heap.size ≤ b

theorem HRep.stp {w w' : World} {hp hp' : List (Nat × ARow)} {η η' : Env} {k : Nat} (f g : Nat → Bool) {r' : ARow}
    (hoth : ∀ j r1, j ≠ k → look hp' j = some r1 → ∃ r, look hp j = some r ∧ r1 = r.flt f g)
    (hhk : look hp' k = some r')
    (hη : ∀ j, j ≠ k → η'.val j = η.val j ∧ η'.cel j = η.cel j)
    (hheap : ∀ b, b < w.heap.size → (∀ r, look hp k = some r → b ∉ bsOf η k r) → w'.heap[b]? = w.heap[b]?)
    (hfr : ∀ b, b ∈ bsOf η' k r' → (∃ j r, look hp j = some r ∧ b ∈ bsOf η j r ∧ (j = k ∨ look hp' j = none)) ∨ w.heap.size ≤ b) : Stp w hp η w' hp' η' := by
  refine ⟨fun b hb hn => hheap b hb (fun r hr hm => hn ⟨k, r, hr, hm⟩), fun b ⟨j, r1, hj, hm⟩ => ?_⟩
  by_cases hjk : j = k
  · subst hjk
    rw [hhk] at hj
    obtain rfl := Option.some.inj hj
    rcases hfr b hm with ⟨i, r, h1, h2, _⟩ | h
    · exact .inl ⟨i, r, h1, h2⟩
    · exact .inr h
  · obtain ⟨r, hr, rfl⟩ := hoth j r1 hjk hj
    rw [bsOf_flt, bsOf_congr (hη j hjk).1 (hη j hjk).2 rfl] at hm
    exact .inl ⟨j, r, hr, hm⟩

/-- ONE STEP: row k is written, or made; other rows may be gone (their blocks may have gone over into row k). -/
theorem HRep.step (h : HRep w B ob hp nx η) (f g : Nat → Bool) (r' : ARow) (hkn : k < nx') (hnn : nx ≤ nx')
    (hoth : ∀ j r1, j ≠ k → look hp' j = some r1 → ∃ r, look hp j = some r ∧ r1 = r.flt f g)
    (hhk : look hp' k = some r')
    (hη : ∀ j, j ≠ k → η'.val j = η.val j ∧ η'.cel j = η.cel j)
    (hheap : ∀ b, b < w.heap.size → (∀ r, look hp k = some r → b ∉ bsOf η k r) → w'.heap[b]? = w.heap[b]?)
    (hf : ∀ j, j < nx → f j = true → OwnOk hp η hp' η' j) (hg : ∀ j, j < nx → g j = true → SubOk hp η hp' η' j)
    (hnd : (bsOf η' k r').Nodup)
    (hfr : ∀ b, b ∈ bsOf η' k r' → (∃ j r, look hp j = some r ∧ b ∈ bsOf η j r ∧ (j = k ∨ look hp' j = none)) ∨ w.heap.size ≤ b)
    (hrow : Keeps w (badOf ob hp η) w' (badOf ob hp' η') → RowRep w' B (badOf ob hp' η') hp' nx' η' k r') :
    HRep w' B ob hp' nx' η' ∧ Keeps w (badOf ob hp η) w' (badOf ob hp' η') ∧ Stp w hp η w' hp' η' := by
  have hbs : ∀ j r, j ≠ k → bsOf η' j (ARow.flt f g r) = bsOf η j r := fun j r hj => by
    rw [bsOf_flt]; exact bsOf_congr (hη j hj).1 (hη j hj).2 rfl
  have hkeep : Keeps w (badOf ob hp η) w' (badOf ob hp' η') := by
    intro b o x hb hc
    have hlt := cell_lt hc
    have hno : ∀ j r, look hp j = some r → b ∉ bsOf η j r := fun j r hj hm => hb (.inr ⟨j, r, hj, hm⟩)
    refine ⟨?_, ?_⟩
    · rintro (h1 | ⟨j, r1, hj, hm⟩)
      · exact hb (.inl h1)
      · by_cases hjk : j = k
        · subst hjk
          rw [hhk] at hj
          obtain rfl := Option.some.inj hj
          rcases hfr b hm with ⟨j0, r0, hj0, hm0, _⟩ | hge
          · exact hno j0 r0 hj0 hm0
          · omega
        · obtain ⟨r, hr, rfl⟩ := hoth j r1 hjk hj
          rw [hbs j r hjk] at hm
          exact hno j r hr hm
    · have : w'.cell? ⟨b, o, none⟩ = w.cell? ⟨b, o, none⟩ := World.cell?_of_block (w := w) (hheap b hlt (fun r hr => hno k r hr))
      rw [this]; exact hc
  refine ⟨⟨?_, ?_, ?_, ?_⟩, hkeep, HRep.stp f g hoth hhk hη hheap hfr⟩
  · intro j r1 hj
    by_cases hjk : j = k
    · subst hjk
      rw [hhk] at hj
      obtain rfl := Option.some.inj hj
      exact hrow hkeep
    · obtain ⟨r, hr, rfl⟩ := hoth j r1 hjk hj
      refine (h.row j r hr).flt hkeep hnn hf hg (hη j hjk).1 (hη j hjk).2 (fun b hb => ?_)
      exact hheap b ((h.row j r hr).lt b hb).2 (fun r0 hr0 hm => h.apart j r k r0 hr hr0 hjk b hb hm)
  · intro j r1 hj
    by_cases hjk : j = k
    · subst hjk
      rw [hhk] at hj
      obtain rfl := Option.some.inj hj
      exact hnd
    · obtain ⟨r, hr, rfl⟩ := hoth j r1 hjk hj
      rw [hbs j r hjk]
      exact h.nodup j r hr
  · have key : ∀ j r1, j ≠ k → look hp' j = some r1 → ∀ b, b ∈ bsOf η' j r1 → b ∉ bsOf η' k r' := by
      intro j r1 hjk hj b hb hm
      obtain ⟨r, hr, rfl⟩ := hoth j r1 hjk hj
      rw [hbs j r hjk] at hb
      rcases hfr b hm with ⟨j0, r0, hj0, hm0, hgone⟩ | hge
      · have hne : j ≠ j0 := by
          rcases hgone with rfl | hn
          · exact hjk
          · intro e; subst e; rw [hj] at hn; cases hn
        exact h.apart j r j0 r0 hr hj0 hne b hb hm0
      · have := ((h.row j r hr).lt b hb).2
        omega
    intro j r1 j' r1' hj hj' hne b hb
    by_cases hjk : j = k
    · subst hjk
      rw [hhk] at hj
      obtain rfl := Option.some.inj hj
      exact fun hm => key j' r1' (Ne.symm hne) hj' b hm hb
    · by_cases hjk' : j' = k
      · subst hjk'
        rw [hhk] at hj'
        obtain rfl := Option.some.inj hj'
        exact key j r1 hjk hj b hb
      · obtain ⟨r, hr, rfl⟩ := hoth j r1 hjk hj
        obtain ⟨r0, hr0, rfl⟩ := hoth j' r1' hjk' hj'
        rw [hbs j r hjk] at hb
        rw [hbs j' r0 hjk']
        exact h.apart j r j' r0 hr hr0 hne b hb
  · intro j r1 hj
    by_cases hjk : j = k
    · omega
    · obtain ⟨r, hr, rfl⟩ := hoth j r1 hjk hj
      have := h.lt j r hr
      omega

theorem HRep.mono (h : HRep w B ob hp nx η) (hw : Below w.heap.size w w') : HRep w' B ob hp nx η := by
  refine ⟨fun k r hk => ?_, h.nodup, h.apart, h.lt⟩
  have hrr := h.row k r hk
  have := hrr.flt (f := fun _ => true) (g := fun _ => true) (w' := w') (bad' := badOf ob hp η) (hp' := hp) (nx' := nx) (η' := η) (Keeps.below hw) (Nat.le_refl _)
    (fun k _ _ => OwnOk.refl hp η k) (fun k _ _ => SubOk.refl hp η k) rfl rfl (fun b hb => hw.block b (hrr.lt b hb).2)
  rwa [rowflt_true] at this

/-- rows may be forgotten -/
theorem HRep.forget (h : HRep w B ob hp nx η) (hs : ∀ j r, look hp' j = some r → look hp j = some r) (hl : ∀ j r, look hp' j = some r → j < nx') (hn : nx ≤ nx') :
    HRep w B ob hp' nx' η ∧ Keeps w (badOf ob hp η) w (badOf ob hp' η) := by
  have hkeep : Keeps w (badOf ob hp η) w (badOf ob hp' η) := by
    intro b o x hb hc
    refine ⟨?_, hc⟩
    rintro (h1 | ⟨j, r, hj, hm⟩)
    · exact hb (.inl h1)
    · exact hb (.inr ⟨j, r, hs j r hj, hm⟩)
  refine ⟨⟨fun k r hk => ?_, fun j r hj => h.nodup j r (hs j r hj), fun j r j' r' hj hj' => h.apart j r j' r' (hs j r hj) (hs j' r' hj'), hl⟩, hkeep⟩
  have hrr := h.row k r (hs k r hk)
  have := hrr.flt (f := fun _ => true) (g := fun _ => true) (w' := w) (bad' := badOf ob hp' η) (hp' := hp') (nx' := nx') (η' := η) hkeep hn
    (fun k _ _ => OwnOk.of (fun r' hr' => ⟨r', hs k r' hr', rfl⟩) rfl rfl) (fun k _ _ => SubOk.of (fun r' hr' => ⟨r', hs k r' hr', rfl⟩) rfl) rfl rfl (fun b _ => rfl)
  rwa [rowflt_true] at this
end

/-! ### states -/
section
variable {w0 : Base} {w w' : World} {ob : Nat → Prop} {st : St} {a : Act} {η η' : Env}

theorem SRep.grow (h : SRep w0 ob st a w η) : w0.w.heap.size ≤ w.heap.size := h.below.size

theorem SRep.wB (h : SRep w0 ob st a w η) : w0.B ≤ w.heap.size := Nat.le_trans h.base.le h.grow

/-- own blocks are none of the caller's -/
theorem SRep.free (h : SRep w0 ob st a w η) {b : Nat} (hb : ownB st.hp η b) : ¬ ob b := fun ho => by
  rcases h.src b hb with h1 | h1
  · exact h.base.may b h1 ho
  · have := h.base.obl b ho; omega

theorem SRep.badlt (h : SRep w0 ob st a w η) {b : Nat} (hb : badOf ob st.hp η b) : b < w.heap.size := by
  rcases hb with h1 | ⟨k, r, h1, h2⟩
  · exact Nat.lt_of_lt_of_le (h.base.obl b h1) h.grow
  · exact ((h.heap.row k r h1).lt b h2).2

theorem SRep.tmp (h : SRep w0 ob st a w η) {t : Nat} {x : AVal} (hl : lk st t = some x) : VRep w (badOf ob st.hp η) st.hp st.nx η x (a.tmps.getD t undef) := by
  unfold lk at hl
  split at hl
  case h_2 => cases hl
  case h_1 hb =>
    have hlt : t < a.tmps.size := by rw [h.size]; exact Nat.le_of_ble_eq_true hb
    have := h.slot t x hl
    rwa [show a.tmps.getD t (w0.γ t) = a.tmps.getD t undef by simp [Array.getD_eq_getD_getElem?, Array.getElem?_eq_getElem hlt]] at this

theorem SRep.mono (h : SRep w0 ob st a w η) (hw : Below w.heap.size w w') : SRep w0 ob st a w' η := by
  refine ⟨h.defers, h.size, ?_, h.base, fun b hb hm => ?_, h.src, h.heap.mono hw, fun i x hi => ?_⟩
  · exact h.below.trans (hw.mono h.wB)
  · rw [hw.block b (Nat.lt_of_lt_of_le hb h.grow), h.frame b hb hm]
  · exact VRep.frame (Keeps.below hw) (Nat.le_refl _) (fun k _ => OwnOk.refl _ _ k) (fun k _ => SubOk.refl _ _ k) (h.slot i x hi)

theorem getD_put {a : Act} {d i : Nat} {v u : Value} (hd : d < a.tmps.size) : (a.put (some d) v).tmps.getD i u = if d = i then v else a.tmps.getD i u := by
  simp only [Act.put, Array.getD_eq_getD_getElem?, Array.getElem?_setIfInBounds]
  by_cases h : d = i
  · subst h; simp [hd]
  · simp [h]

theorem SRep.put (h : SRep w0 ob st a w η) {d : Nat} (hd : d < st.sz) {x : AVal} {v : Value} (hv : VRep w (badOf ob st.hp η) st.hp st.nx η x v) : SRep w0 ob (st.put d x) (a.put (some d) v) w η := by
  have hd' : d < a.tmps.size := by rw [h.size]; exact hd
  refine ⟨h.defers, by simpa [Act.put, St.put] using h.size, h.below, h.base, h.frame, h.src, h.heap, fun i y hi => ?_⟩
  simp only [St.put] at hi ⊢
  rw [look_cons] at hi
  rw [getD_put hd']
  by_cases hdi : d = i
  · rw [if_pos hdi] at hi ⊢
    obtain rfl := Option.some.inj hi
    exact hv
  · rw [if_neg hdi] at hi ⊢
    exact h.slot i y hi

theorem SRep.drop1 (h : SRep w0 ob st a w η) {d : Nat} {v : Value} : SRep w0 ob (st.drop1 d) (a.put (some d) v) w η := by
  refine ⟨h.defers, by simpa [Act.put, St.drop1] using h.size, h.below, h.base, h.frame, h.src, h.heap, fun i y hi => ?_⟩
  simp only [St.drop1] at hi ⊢
  by_cases hdi : i = d
  · subst hdi; rw [look_rem] at hi; cases hi
  · rw [look_rem_ne _ _ _ hdi] at hi
    have : (a.put (some d) v).tmps.getD i (w0.γ i) = a.tmps.getD i (w0.γ i) := by
      simp only [Act.put, Array.getD_eq_getD_getElem?, Array.getElem?_setIfInBounds]
      rw [if_neg (Ne.symm hdi)]
    rw [this]
    exact h.slot i y hi

/-- the heap has made a step -/
theorem SRep.heapStep (h : SRep w0 ob st a w η) (f g : Nat → Bool) {hp' : List (Nat × ARow)} {nx' : Nat} (hb : Below w0.B w w')
    (hh : HRep w' w0.B ob hp' nx' η') (hk : Keeps w (badOf ob st.hp η) w' (badOf ob hp' η') ∧ Stp w st.hp η w' hp' η') (hn : st.nx ≤ nx')
    (hf : ∀ j, j < st.nx → f j = true → OwnOk st.hp η hp' η' j) (hg : ∀ j, j < st.nx → g j = true → SubOk st.hp η hp' η' j) :
    SRep w0 ob { st with sl := fltS f g st.sl, hp := hp', nx := nx' } a w' η' := by
  refine ⟨h.defers, h.size, h.below.trans hb, h.base, fun b hlt hm => ?_, fun b hown => ?_, hh, fun i x hi => ?_⟩
  · rw [hk.2.frm b (Nat.lt_of_lt_of_le hlt h.grow) (fun ho => ?_), h.frame b hlt hm]
    rcases h.src b ho with h1 | h1
    · exact hm h1
    · omega
  · rcases hk.2.src b hown with h1 | h1
    · exact h.src b h1
    · exact .inr (Nat.le_trans h.grow h1)
  simp only at hi ⊢
  rw [look_fltS] at hi
  obtain ⟨y, hy, rfl⟩ := Option.map_eq_some_iff.1 hi
  exact VRep.flt hk.1 hn hf hg y _ (h.slot i y hy)

theorem frN_acc {K : Nat → Prop} : ∀ (n acc : Nat), @Nat.rec (fun _ => Nat → Prop) (fun acc => K acc) (fun _ ih acc => ih (Nat.succ acc)) n acc = K (acc + n)
  | 0, _ => rfl
  | n + 1, acc => by
    have := frN_acc (K := K) n (Nat.succ acc)
    simp only at this ⊢
    rw [this, Nat.succ_add, Nat.add_succ]
theorem frN_eq {n : Nat} {K : Nat → Prop} : frN n K = K n := by
  have := frN_acc (K := K) n 0
  rw [Nat.zero_add] at this
  exact this
theorem frV_eq {n : Nat} {K : Nat → Prop} : frV n K = K n := by cases n <;> rfl
mutual
theorem frA_eq : ∀ (x : AVal) {K : AVal → Prop}, frA x K = K x
  | .un, _ => rfl
  | .c _, _ => rfl
  | .t _, _ => rfl
  | .adr _ _, _ => rfl
  | .own k, K => frN_eq (n := k) (K := fun k => K (.own k))
  | .sub k i, K => frN_eq (n := k) (K := fun k => K (.sub k i))
  | .ptr k o, K => frN_eq (n := k) (K := fun k => K (.ptr k o))
  | .subp k i j, K => frN_eq (n := k) (K := fun k => K (.subp k i j))
  | .ag l, _ => frL_eq' l
  | .tu l, _ => frL_eq' l
  | .rp l _, _ => frL_eq' l
  | .clo _ _, _ => rfl
  | .knot _ _ _, _ => rfl
  | .nul, _ => rfl
theorem frL_eq' : ∀ (l : List AVal) {K : List AVal → Prop}, @AVal.rec_1 (fun _ => (AVal → Prop) → Prop) (fun _ => (List AVal → Prop) → Prop)
    (fun K => K .un) (fun v K => K (.c v)) (fun t K => K (.t t)) (fun _ ih K => ih fun l => K (.ag l)) (fun _ ih K => ih fun l => K (.tu l))
    (fun k K => frN k fun k => K (.own k)) (fun k i K => frN k fun k => K (.sub k i)) (fun k o K => frN k fun k => K (.ptr k o)) (fun k i j K => frN k fun k => K (.subp k i j))
    (fun t i K => K (.adr t i)) (fun _ o ih K => ih fun l => K (.rp l o)) (fun f l _ K => K (.clo f l)) (fun f l n _ K => K (.knot f l n)) (fun K => K .nul)
    (fun K => K []) (fun _ _ iha ihl K => iha fun a => ihl fun l => K (a :: l)) l K = K l
  | [], _ => rfl
  | a :: l, K => by
    have h1 := frA_eq a (K := fun a => @AVal.rec_1 (fun _ => (AVal → Prop) → Prop) (fun _ => (List AVal → Prop) → Prop)
      (fun K => K .un) (fun v K => K (.c v)) (fun t K => K (.t t)) (fun _ ih K => ih fun l => K (.ag l)) (fun _ ih K => ih fun l => K (.tu l))
      (fun k K => frN k fun k => K (.own k)) (fun k i K => frN k fun k => K (.sub k i)) (fun k o K => frN k fun k => K (.ptr k o)) (fun k i j K => frN k fun k => K (.subp k i j))
      (fun t i K => K (.adr t i)) (fun _ o ih K => ih fun l => K (.rp l o)) (fun f l _ K => K (.clo f l)) (fun f l n _ K => K (.knot f l n)) (fun K => K .nul)
      (fun K => K []) (fun _ _ iha ihl K => iha fun a => ihl fun l => K (a :: l)) l fun l => K (a :: l))
    exact h1.trans (frL_eq' l)
end

theorem frL_eq : ∀ (l : List AVal) {K : List AVal → Prop}, frL l K = K l
  | [], _ => rfl
  | a :: l, K => (frA_eq a (K := fun a => frL l fun l => K (a :: l))).trans (frL_eq l)

theorem frR_eq : ∀ (r : ARow) {K : ARow → Prop}, frR r K = K r
  | .ints .., _ => rfl
  | .rows _ _ true _, _ => rfl
  | .rows _ _ false _, _ => rfl
  | .cells _ l, _ => frL_eq l
  | .recs .., _ => rfl

theorem frH_eq : ∀ (l : List (Nat × ARow)) {K : List (Nat × ARow) → Prop}, frH l K = K l
  | [], _ => rfl
  | (i, r) :: l, K => by
    show (frN i fun i => frR r fun a => frH l fun r => K ((i, a) :: r)) = _
    rw [frN_eq, frR_eq, frH_eq l]

theorem memN_spec {i : Nat} : ∀ {l : List Nat}, memN i l = true ↔ i ∈ l
  | [] => by simp [memN]
  | j :: r => by
    unfold memN
    cases h : Nat.beq j i with
    | true => have := Nat.eq_of_beq_eq_true h; simp [this]
    | false => have : ¬ i = j := fun e => by rw [e, Nat.beq_refl] at h; cases h
               simp [memN_spec (l := r), this]

theorem frS_look : ∀ (l : List (Nat × AVal)) (seen : List Nat) {K : List (Nat × AVal) → Prop}, frS l seen K → ∃ l', K l' ∧ ∀ i, i ∉ seen → look l' i = look l i
  | [], _, _, h => ⟨[], h, fun _ _ => rfl⟩
  | (i, a) :: l, seen, K, h => by
    have h0 : match memN i seen with
      | true => frS l seen K
      | false => frA a fun a => frS l (i :: seen) fun r => K ((i, a) :: r) := h
    cases hm : memN i seen with
    | true =>
      rw [hm] at h0
      obtain ⟨l', hk, hl⟩ := frS_look l seen h0
      refine ⟨l', hk, fun j hj => ?_⟩
      rw [hl j hj, look_cons, if_neg]
      rintro rfl
      exact hj (memN_spec.1 hm)
    | false =>
      rw [hm] at h0
      simp only [frA_eq] at h0
      obtain ⟨l', hk, hl⟩ := frS_look l (i :: seen) h0
      refine ⟨_, hk, fun j hj => ?_⟩
      rw [look_cons, look_cons]
      by_cases e : i = j
      · rw [if_pos e, if_pos e]
      · rw [if_neg e, if_neg e]
        exact hl j (by simp only [List.mem_cons, not_or]; exact ⟨fun e' => e e'.symm, hj⟩)

theorem frG_eq : ∀ (l : List (Nat × AVal)) {K : List (Nat × AVal) → Prop}, frG l K = K l
  | [], _ => rfl
  | (i, r) :: l, K => by
    show (frN i fun i => frA r fun a => frG l fun r => K ((i, a) :: r)) = _
    rw [frN_eq, frA_eq, frG_eq l]

theorem frSt_spec {K : St → Prop} (h : frSt st K) : ∃ st', K st' ∧ st'.sz = st.sz ∧ st'.hp = st.hp ∧ st'.nx = st.nx ∧ ∀ i, look st'.sl i = look st.sl i := by
  unfold frSt at h
  rw [frV_eq] at h
  obtain ⟨l', hk, hl⟩ := frS_look _ _ h
  rw [frH_eq, frN_eq] at hk
  exact ⟨_, hk, rfl, rfl, rfl, fun i => hl i (by simp)⟩

theorem SRep.same {st' : St} (h : SRep w0 ob st a w η) (h1 : st'.sz = st.sz) (h2 : st'.hp = st.hp) (h3 : st'.nx = st.nx) (h4 : ∀ i, look st'.sl i = look st.sl i) : SRep w0 ob st' a w η := by
  obtain ⟨sz, sl, hp, nx⟩ := st
  obtain ⟨sz', sl', hp', nx'⟩ := st'
  simp only at h1 h2 h3 h4
  subst h1 h2 h3
  exact ⟨h.defers, h.size, h.below, h.base, h.frame, h.src, h.heap, fun i x hi => h.slot i x (by rw [← h4]; exact hi)⟩
end
end Go.Aw
