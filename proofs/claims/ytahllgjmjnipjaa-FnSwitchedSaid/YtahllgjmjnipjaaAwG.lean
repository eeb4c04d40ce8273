/- A region that draws its order: operations that only read may be taken first; the others in every order. -/
import Derived.Test.YtahllgjmjnipjaaAw15
namespace Go.Aw
open Go.RowKit

def NoQ : Exit → Act → World → Prop := fun _ _ _ => False

theorem noQ_lets (h : LetsOut NoQ) : False := let ⟨_, _, h⟩ := h; h

section
variable {P : Program} {ops : Array Oper} {md : Region.Mode} {xs : List Nat}

def nbAt (xs : List Nat) (ops : Array Oper) (i : Nat) : Bool :=
  match ops[i]? with
  | some o => nbOp o || xs.contains i
  | none => false

/-- an operation that looks at no memory -/
def mfOp (o : Oper) : Bool :=
  match o.op with
  | .move _ | .assign _ | .extract _ _ => true
  | _ => false

/-- whatever order is picked from here on; every step but those that write only adds to what is there -/
def wpG (xs : List Nat) (P : Program) (md : Region.Mode) (ops : Array Oper) (K : Act → World → Prop) : Nat → Array Bool → Act → World → Prop
  | 0, listed, a, w => Region.ready md ops listed = [] ∧ K a w
  | f + 1, listed, a, w => (Region.ready md ops listed = [] → K a w) ∧
    ∀ i ∈ Region.ready md ops listed, wpOp P ops NoQ i (fun a' w' => (nbAt xs ops i = false → Below w.heap.size w w') ∧ wpG xs P md ops K f (listed.setIfInBounds i true) a' w') a w

theorem upon_noQ {Q : Exit → Act → World → Prop} {o : Oper} {a : Act} {K : Act → World → Prop} {r : Result Next} (h : o.upon P a K NoQ r) : o.upon P a K Q r := by
  cases r with
  | ok n w' =>
    cases n <;> simp only [Oper.upon] at h ⊢ <;> first
      | exact h
      | exact Calls.mono h (fun e w'' he => by cases e <;> first | exact he | exact he.elim | exact (noQ_lets he).elim)
  | halt x w' => cases x <;> simp only [Oper.upon] at h ⊢ <;> exact h.elim

theorem wpOp_noQ {Q : Exit → Act → World → Prop} {i : Nat} {K : Act → World → Prop} {a : Act} {w : World} (h : wpOp P ops NoQ i K a w) : wpOp P ops Q i K a w := by
  unfold wpOp at *
  split
  · rename_i ho; simpa [ho] using h
  · rename_i o ho
    simp only [ho] at h
    split
    · rename_i hw
      simp only [hw, if_true] at h
      rcases h with h | h
      · exact .inl (upon_noQ h)
      · exact (noQ_lets h.2).elim
    · rename_i hw; simp only [hw] at h; exact h

theorem wpG_any {K : Act → World → Prop} {Q : Exit → Act → World → Prop} (hQ : ∀ a w, K a w → Q .normal a w) : ∀ (f : Nat) (listed : Array Bool) (a : Act) (w : World), wpG xs P md ops K f listed a w → wpAny P md ops Q f listed a w
  | 0, _, _, _, h => ⟨h.1, hQ _ _ h.2⟩
  | f + 1, _, _, _, h => ⟨fun h0 => hQ _ _ (h.1 h0), fun i hi => wpOp_mono (fun a' w' h' => wpG_any hQ f _ a' w' h'.2) (wpOp_noQ (h.2 i hi))⟩

/-- it leaves 'v', now and in every world that only goes on from here -/
def YieldsNC (P : Program) (ops : Array Oper) (mf : Bool) (w : World) (o : Oper) (v : Value) (a : Act) : Prop :=
  (Region.wanted o (yielded ops a.tmps) = true ∧ ∀ w', (mf = true ∨ Below w.heap.size w w') → (execOp a.eval o).run P w' = .ok (.value v) w') ∨
  (Region.wanted o (yielded ops a.tmps) = false ∧ v = undef)

theorem YieldsNC.later {w w' : World} {mf : Bool} {o : Oper} {v : Value} {a : Act} (h : YieldsNC P ops mf w o v a) (hb : mf = true ∨ Below w.heap.size w w') : YieldsNC P ops mf w' o v a := by
  rcases h with ⟨h1, h2⟩ | h
  · refine .inl ⟨h1, fun w2 h3 => h2 w2 ?_⟩
    rcases hb with hb | hb
    · exact .inl hb
    · exact h3.imp id (fun h3 => hb.trans (h3.mono hb.size))
  · exact .inr h

theorem YieldsNC.of_same {w : World} {mf : Bool} {o : Oper} {v : Value} {a a' : Act} (hy : YieldsNC P ops mf w o v a) (he : execOp a'.eval o = execOp a.eval o)
    (hw : Region.wanted o (yielded ops a'.tmps) = Region.wanted o (yielded ops a.tmps)) : YieldsNC P ops mf w o v a' := by
  unfold YieldsNC at *
  rw [he, hw]
  exact hy

theorem YieldsNC.op {w : World} {mf : Bool} {i : Nat} {o : Oper} {v : Value} {a : Act} (hi : ops[i]? = some o) (hy : YieldsNC P ops mf w o v a) {K : Act → World → Prop} (h : K (a.put o.dst v) w) : wpOp P ops NoQ i K a w := by
  unfold wpOp
  simp only [hi]
  rcases hy with ⟨hw, hv⟩ | ⟨hw, rfl⟩
  · simp only [hw, if_true]
    refine .inl ?_
    unfold Oper.wp
    rw [hv w (.inr (Below.refl _ _))]
    exact h
  · simp only [hw, Bool.false_eq_true, if_false]; exact h

/-- an operation does not see a slot that it does not read -/
theorem wpOp_put {w : World} {mf nb : Bool} {j : Nat} {oi oj : Oper} {v : Value} (hj : ops[j]? = some oj) (hap : oi.apart ops oj = true)
    (hsi : ∀ cs b, oi.op ≠ .select cs b) (hsj : ∀ cs b, oj.op ≠ .select cs b) {K : Act → World → Prop} {a : Act}
    (hy : YieldsNC P ops mf w oi v a) (hnb : mf = true ∨ nb = false) (h : wpOp P ops NoQ j (fun a' w' => (nb = false → Below w.heap.size w w') ∧ K a' w') (a.put oi.dst v) w) :
    wpOp P ops NoQ j (fun a' w' => (nb = false → Below w.heap.size w w') ∧ YieldsNC P ops mf w' oi v a' ∧ K (a'.put oi.dst v) w') a w := by
  obtain ⟨h1, h2, h3⟩ := Oper.apart_spec hap
  have keep : ∀ (a : Act), YieldsNC P ops mf w oi v a → ∀ u, YieldsNC P ops mf w oi v (a.put oj.dst u) := fun a hy u =>
    hy.of_same (execOp_put oi hsi a oj.dst u h3) (wanted_put oi a oj.dst u h3)
  have fin : ∀ (a : Act) (u : Value) (w' : World), YieldsNC P ops mf w oi v a → (nb = false → Below w.heap.size w w') ∧ K ((a.put oi.dst v).put oj.dst u) w' →
      (nb = false → Below w.heap.size w w') ∧ YieldsNC P ops mf w' oi v (a.put oj.dst u) ∧ K ((a.put oj.dst u).put oi.dst v) w' := fun a u w' hy h =>
    ⟨h.1, (keep a hy u).later (hnb.imp id h.1), by rw [← Act.put_comm a v u h2]; exact h.2⟩
  unfold wpOp at *
  simp only [hj] at *
  rw [wanted_put oj a oi.dst v h1] at h
  split
  · rename_i hw
    simp only [hw, if_true] at h
    rcases h with h | h
    · refine .inl ?_
      unfold Oper.wp at *
      rw [execOp_put oj hsj a oi.dst v h1] at h
      generalize (execOp a.eval oj).run P w = r at *
      cases r with
      | ok n w' =>
        cases n <;> simp only [Oper.upon] at h ⊢
        case value u => exact fin a u w' hy h
        case skip => exact fin a undef w' hy h
        case defer d =>
          refine fin { a with defers := d :: a.defers } undef w' (hy.of_same rfl rfl) ?_
          have e : ({ a with defers := d :: a.defers } : Act).put oi.dst v = { a.put oi.dst v with defers := d :: (a.put oi.dst v).defers } := by cases oi.dst <;> rfl
          rw [e]; exact h
        case enter f args => exact Calls.mono h (fun e w'' he => by
          cases e with
          | returned u => exact fin a u w'' hy he
          | panicked c => exact he.elim
          | outgrown => exact he)
        case row r args => exact Rows.mono h (fun u w'' he => fin a u w'' hy he)
      | halt x w' => cases x <;> simp only [Oper.upon] at h <;> exact h.elim
    · exact (noQ_lets h.2).elim
  · rename_i hw
    simp only [hw] at h
    exact fin a undef w hy h

/-- what is listed waits for nothing that is not -/
def Clo (md : Region.Mode) (ops : Array Oper) (listed : Array Bool) : Prop :=
  ∀ j o, ops[j]? = some o → listed.getD j false = true → ∀ e ∈ o.after, Region.binds md e = true → listed.getD e.on false = true

def reachB (md : Region.Mode) (ops : Array Oper) : Nat → Nat → Nat → Bool
  | 0, j, i => j == i
  | f + 1, j, i => j == i || (match ops[j]? with
    | some o => o.after.any fun e => Region.binds md e && reachB md ops f e.on i
    | none => false)

theorem reachB_listed {listed : Array Bool} (hc : Clo md ops listed) {i : Nat} : ∀ (f j : Nat), reachB md ops f j i = true → listed.getD j false = true → listed.getD i false = true
  | 0, j, h, hj => by simp only [reachB, beq_iff_eq] at h; subst h; exact hj
  | f + 1, j, h, hj => by
    simp only [reachB, Bool.or_eq_true, beq_iff_eq] at h
    rcases h with rfl | h
    · exact hj
    · split at h
      case h_2 => cases h
      case h_1 o ho =>
        simp only [Array.any_eq_true', Bool.and_eq_true] at h
        obtain ⟨e, he, hb, hr⟩ := h
        exact reachB_listed hc f e.on hr (hc j o ho hj e he hb)

theorem reachB_ready {listed : Array Bool} (hc : Clo md ops listed) {i j : Nat} (hj : j ∈ Region.ready md ops listed) (hne : j ≠ i) {f : Nat} (h : reachB md ops f j i = true) : listed.getD i false = true := by
  obtain ⟨_, o, ho, hall⟩ := mem_ready.1 hj
  cases f with
  | zero => simp only [reachB, beq_iff_eq] at h; exact absurd h hne
  | succ f =>
    simp only [reachB, Bool.or_eq_true, beq_iff_eq, hne, false_or, ho] at h
    simp only [Array.any_eq_true', Bool.and_eq_true] at h
    obtain ⟨e, he, hb, hr⟩ := h
    exact reachB_listed hc f e.on hr (hall e he hb)

theorem Clo.set {listed : Array Bool} (hc : Clo md ops listed) {i : Nat} (hi : i ∈ Region.ready md ops listed) : Clo md ops (listed.setIfInBounds i true) := by
  have mono : ∀ k, listed.getD k false = true → (listed.setIfInBounds i true).getD k false = true := fun k hk => by
    by_cases hik : i = k
    · subst hik
      simp only [Array.getD_eq_getD_getElem?, Array.getElem?_setIfInBounds] at hk ⊢
      cases hx : listed[i]? with
      | none => rw [hx] at hk; cases hk
      | some b => have := (Array.getElem?_eq_some_iff.1 hx).1; simp [this]
    · rw [getD_set_ne false hik]; exact hk
  obtain ⟨_, oi, hoi, hall⟩ := mem_ready.1 hi
  intro j o ho hj e he hb
  by_cases hij : i = j
  · subst hij
    rw [hoi] at ho
    obtain rfl := Option.some.inj ho
    exact mono _ (hall e he hb)
  · rw [getD_set_ne false hij] at hj
    exact mono _ (hc j o ho hj e he hb)

/-- whoever writes memory waits for operation i, or operation i looks at none -/
def calm (xs : List Nat) (md : Region.Mode) (ops : Array Oper) (i : Nat) : Bool :=
  (match ops[i]? with | some o => mfOp o | none => false) || (List.range ops.size).all fun j => !nbAt xs ops j || reachB md ops ops.size j i

theorem wpG_first {K : Act → World → Prop} {i : Nat} {oi : Oper} {v : Value} (hi : ops[i]? = some oi) (hsel : ∀ (j : Nat) (o : Oper) cs b, ops[j]? = some o → o.op ≠ .select cs b) :
    ∀ (f : Nat) (listed : Array Bool) (a : Act) (w : World),
      (∀ j oj, ops[j]? = some oj → j ≠ i → listed.getD j true = false → (∀ e ∈ oj.after, Region.binds md e = true → e.on ≠ i) → oi.apart ops oj = true) →
      i ∈ Region.ready md ops listed → YieldsNC P ops (mfOp oi) w oi v a → Clo md ops listed → calm xs md ops i = true →
      wpG xs P md ops K f (listed.setIfInBounds i true) (a.put oi.dst v) w → wpG xs P md ops K (f + 1) listed a w := by
  intro f
  induction f with
  | zero =>
    intro listed a w _ hr hy _ _ H
    refine ⟨fun h => (by rw [h] at hr; cases hr), fun j hj => ?_⟩
    by_cases hji : j = i
    · subst hji; exact hy.op hi ⟨fun _ => Below.refl _ _, H⟩
    · have := ready_mono hj hji
      rw [H.1] at this
      cases this
  | succ f ih =>
    intro listed a w hfree hr hy hclo hcalm H
    refine ⟨fun h => (by rw [h] at hr; cases hr), fun j hj => ?_⟩
    by_cases hji : j = i
    · subst hji; exact hy.op hi ⟨fun _ => Below.refl _ _, H⟩
    · have h1 := H.2 j (ready_mono hj hji)
      obtain ⟨hjun, oj, hoj, hall⟩ := mem_ready.1 hj
      have hnot : ∀ e ∈ oj.after, Region.binds md e = true → e.on ≠ i := fun e he hb heq => by
        have h1 := hall e he hb
        have h0 := (mem_ready.1 hr).1
        rw [heq, getD_both h0] at h1
        cases h1
      have hnb : mfOp oi = true ∨ nbAt xs ops j = false := by
        simp only [calm, hi, Bool.or_eq_true, List.all_eq_true, List.mem_range, Bool.not_eq_true'] at hcalm
        rcases hcalm with h | h
        · exact .inl h
        · rcases h j (Array.getElem?_eq_some_iff.1 hoj).1 with h | h
          · exact .inr h
          · have h0 := (mem_ready.1 hr).1
            have := reachB_ready hclo hj hji h
            rw [getD_both h0] at this
            cases this
      have h2 := wpOp_put hoj (hfree j oj hoj hji hjun hnot) (fun cs b => hsel i oi cs b hi) (fun cs b => hsel j oj cs b hoj) hy hnb h1
      have hfree' : ∀ k ok, ops[k]? = some ok → k ≠ i → (listed.setIfInBounds j true).getD k true = false →
          (∀ e ∈ ok.after, Region.binds md e = true → e.on ≠ i) → oi.apart ops ok = true := fun k ok hk hki hun hno => by
        refine hfree k ok hk hki ?_ hno
        by_cases hjk : j = k
        · subst hjk; exact hjun
        · rw [getD_set_ne true hjk] at hun; exact hun
      refine wpOp_mono (fun a' w' h3 => ⟨h3.1, ih (listed.setIfInBounds j true) a' w' hfree' (ready_mono hr (Ne.symm hji)) h3.2.1 (hclo.set hj) hcalm ?_⟩) h2
      rw [Array.setIfInBounds_comm _ _ hji]
      exact h3.2.2
end
end Go.Aw
