/- A region that draws its order: operations that only read may be taken first; the others in every order. -/
import Derived.Test.YtpakfehinfcdoaaAw15
namespace Go.Aw
open Go.RowKit

def NoQ : Exit → Act → World → Prop := fun _ _ _ => False

theorem noQ_lets (h : LetsOut NoQ) : False := let ⟨_, _, h⟩ := h; h

/-- but for one block, what was there is as it was -/
def Frm (g : Value) (w w' : World) : Prop := w.heap.size ≤ w'.heap.size ∧ ∀ b, b < w.heap.size → b ∉ blk g → w'.heap[b]? = w.heap[b]?
/-- how much must stay: 0 all that was there, 1 all but one block, 2 nothing -/
def Rl (g : Value) : Nat → World → World → Prop
  | 0, w, w' => Below w.heap.size w w'
  | 1, w, w' => Frm g w w'
  | _, _, _ => True
theorem Rl.refl (g : Value) : ∀ (c : Nat) (w : World), Rl g c w w
  | 0, w => Below.refl _ _
  | 1, _ => ⟨Nat.le_refl _, fun _ _ _ => rfl⟩
  | _ + 2, _ => trivial
theorem Rl.trans {g : Value} : ∀ {c : Nat} {w w' w2 : World}, Rl g c w w' → Rl g c w' w2 → Rl g c w w2
  | 0, _, _, _, h, k => Below.trans h (k.mono h.size)
  | 1, _, _, _, h, k => ⟨Nat.le_trans h.1 k.1, fun b hb hn => (k.2 b (Nat.lt_of_lt_of_le hb h.1) hn).trans (h.2 b hb hn)⟩
  | _ + 2, _, _, _, _, _ => trivial

section
variable {P : Program} {ops : Array Oper} {md : Region.Mode} {xs : List Nat} {fr : Bool} {g : Value}

def nbAt (xs : List Nat) (ops : Array Oper) (i : Nat) : Bool :=
  match ops[i]? with
  | some o => nbOp o || xs.contains i
  | none => false

/-- what may write anything -/
def nfAt (fr : Bool) (xs : List Nat) (ops : Array Oper) (i : Nat) : Bool :=
  match ops[i]? with
  | some o => nbOp o || (!fr && xs.contains i)
  | none => false
/-- what a step leaves as it was -/
def StpG (fr : Bool) (g : Value) (xs : List Nat) (ops : Array Oper) (i : Nat) (w w' : World) : Prop :=
  (nbAt xs ops i = false → Below w.heap.size w w') ∧ (nfAt fr xs ops i = false → Frm g w w')
theorem StpG.below {i : Nat} {w w' : World} (h : Below w.heap.size w w') : StpG fr g xs ops i w w' := ⟨fun _ => h, fun _ => ⟨h.size, fun b hb _ => h.block b hb⟩⟩

/-- an operation that looks at no memory -/
def mfOp0 (o : Oper) : Bool :=
  match o.op with
  | .move _ | .assign _ | .extract _ _ => true
  | _ => false
def mfOp (o : Oper) : Bool :=
  match o.op with
  | .move _ | .assign _ | .extract _ _ => true
  | .fieldAddr .. | .indexAddr .. => true
  | _ => false

/-- whatever order is picked from here on; every step but those that write only adds to what is there -/
def wpG (fr : Bool) (g : Value) (xs : List Nat) (P : Program) (md : Region.Mode) (ops : Array Oper) (K : Act → World → Prop) : Nat → Array Bool → Act → World → Prop
  | 0, listed, a, w => Region.ready md ops listed = [] ∧ K a w
  | f + 1, listed, a, w => (Region.ready md ops listed = [] → K a w) ∧
    ∀ i ∈ Region.ready md ops listed, wpOp P ops NoQ i (fun a' w' => StpG fr g xs ops i w w' ∧ wpG fr g xs P md ops K f (listed.setIfInBounds i true) a' w') a w

theorem upon_noQ {Q : Exit → Act → World → Prop} {o : Oper} {a : Act} {K : Act → World → Prop} {r : Result Next} (h : o.upon P a K NoQ r) : o.upon P a K Q r := by
  cases r with
  | ok n w' =>
    cases n <;> simp only [Oper.upon] at h ⊢ <;> first
      | exact h
      | exact Calls.mono h (fun e w'' he => by cases e <;> first | exact he | exact he.elim | exact (noQ_lets he).elim)
  | halt x w' => cases x <;> simp only [Oper.upon] at h ⊢ <;> exact h.elim

theorem wpOp_noQ {Q : Exit → Act → World → Prop} {i : Nat} {K : Act → World → Prop} {a : Act} {w : World} (h : wpOp P ops NoQ i K a w) : wpOp P ops Q i K a w := by
  unfold wpOp at *
  split
  · rename_i ho; simpa [ho] using h
  · rename_i o ho
    simp only [ho] at h
    split
    · rename_i hw
      simp only [hw, if_true] at h
      rcases h with h | h
      · exact .inl (upon_noQ h)
      · exact (noQ_lets h.2).elim
    · rename_i hw; simp only [hw] at h; exact h

theorem wpG_any {K : Act → World → Prop} {Q : Exit → Act → World → Prop} (hQ : ∀ a w, K a w → Q .normal a w) : ∀ (f : Nat) (listed : Array Bool) (a : Act) (w : World), wpG fr g xs P md ops K f listed a w → wpAny P md ops Q f listed a w
  | 0, _, _, _, h => ⟨h.1, hQ _ _ h.2⟩
  | f + 1, _, _, _, h => ⟨fun h0 => hQ _ _ (h.1 h0), fun i hi => wpOp_mono (fun a' w' h' => wpG_any hQ f _ a' w' h'.2) (wpOp_noQ (h.2 i hi))⟩

/-- it leaves 'v', now and in every world that only goes on from here -/
def YieldsNC (P : Program) (ops : Array Oper) (g : Value) (c : Nat) (w : World) (o : Oper) (v : Value) (a : Act) : Prop :=
  (Region.wanted o (yielded ops a.tmps) = true ∧ ∀ w', Rl g c w w' → (execOp a.eval o).run P w' = .ok (.value v) w') ∨
  (Region.wanted o (yielded ops a.tmps) = false ∧ v = undef)

theorem YieldsNC.later {w w' : World} {c : Nat} {o : Oper} {v : Value} {a : Act} (h : YieldsNC P ops g c w o v a) (hb : Rl g c w w') : YieldsNC P ops g c w' o v a := by
  rcases h with ⟨h1, h2⟩ | h
  · exact .inl ⟨h1, fun w2 h3 => h2 w2 (hb.trans h3)⟩
  · exact .inr h

theorem YieldsNC.of_same {w : World} {c : Nat} {o : Oper} {v : Value} {a a' : Act} (hy : YieldsNC P ops g c w o v a) (he : execOp a'.eval o = execOp a.eval o)
    (hw : Region.wanted o (yielded ops a'.tmps) = Region.wanted o (yielded ops a.tmps)) : YieldsNC P ops g c w o v a' := by
  unfold YieldsNC at *
  rw [he, hw]
  exact hy

theorem YieldsNC.op {w : World} {c : Nat} {i : Nat} {o : Oper} {v : Value} {a : Act} (hi : ops[i]? = some o) (hy : YieldsNC P ops g c w o v a) {K : Act → World → Prop} (h : K (a.put o.dst v) w) : wpOp P ops NoQ i K a w := by
  unfold wpOp
  simp only [hi]
  rcases hy with ⟨hw, hv⟩ | ⟨hw, rfl⟩
  · simp only [hw, if_true]
    refine .inl ?_
    unfold Oper.wp
    rw [hv w (Rl.refl _ _ _)]
    exact h
  · simp only [hw, Bool.false_eq_true, if_false]; exact h

/-- an operation does not see a slot that it does not read -/
theorem wpOp_put {w : World} {c : Nat} {S : World → Prop} (hS : ∀ w', S w' → Rl g c w w') {j : Nat} {oi oj : Oper} {v : Value} (hj : ops[j]? = some oj) (hap : oi.apart ops oj = true)
    (hsi : ∀ cs b, oi.op ≠ .select cs b) (hsj : ∀ cs b, oj.op ≠ .select cs b) {K : Act → World → Prop} {a : Act}
    (hy : YieldsNC P ops g c w oi v a) (h : wpOp P ops NoQ j (fun a' w' => S w' ∧ K a' w') (a.put oi.dst v) w) :
    wpOp P ops NoQ j (fun a' w' => S w' ∧ YieldsNC P ops g c w' oi v a' ∧ K (a'.put oi.dst v) w') a w := by
  obtain ⟨h1, h2, h3⟩ := Oper.apart_spec hap
  have keep : ∀ (a : Act), YieldsNC P ops g c w oi v a → ∀ u, YieldsNC P ops g c w oi v (a.put oj.dst u) := fun a hy u =>
    hy.of_same (execOp_put oi hsi a oj.dst u h3) (wanted_put oi a oj.dst u h3)
  have fin : ∀ (a : Act) (u : Value) (w' : World), YieldsNC P ops g c w oi v a → S w' ∧ K ((a.put oi.dst v).put oj.dst u) w' →
      S w' ∧ YieldsNC P ops g c w' oi v (a.put oj.dst u) ∧ K ((a.put oj.dst u).put oi.dst v) w' := fun a u w' hy h =>
    ⟨h.1, (keep a hy u).later (hS _ h.1), by rw [← Act.put_comm a v u h2]; exact h.2⟩
  unfold wpOp at *
  simp only [hj] at *
  rw [wanted_put oj a oi.dst v h1] at h
  split
  · rename_i hw
    simp only [hw, if_true] at h
    rcases h with h | h
    · refine .inl ?_
      unfold Oper.wp at *
      rw [execOp_put oj hsj a oi.dst v h1] at h
      generalize (execOp a.eval oj).run P w = r at *
      cases r with
      | ok n w' =>
        cases n <;> simp only [Oper.upon] at h ⊢
        case value u => exact fin a u w' hy h
        case skip => exact fin a undef w' hy h
        case defer d =>
          refine fin { a with defers := d :: a.defers } undef w' (hy.of_same rfl rfl) ?_
          have e : ({ a with defers := d :: a.defers } : Act).put oi.dst v = { a.put oi.dst v with defers := d :: (a.put oi.dst v).defers } := by cases oi.dst <;> rfl
          rw [e]; exact h
        case enter f args => exact Calls.mono h (fun e w'' he => by
          cases e with
          | returned u => exact fin a u w'' hy he
          | panicked c => exact he.elim
          | outgrown => exact he)
        case row r args => exact Rows.mono h (fun u w'' he => fin a u w'' hy he)
      | halt x w' => cases x <;> simp only [Oper.upon] at h <;> exact h.elim
    · exact (noQ_lets h.2).elim
  · rename_i hw
    simp only [hw] at h
    exact fin a undef w hy h

/-- what is listed waits for nothing that is not -/
def Clo (md : Region.Mode) (ops : Array Oper) (listed : Array Bool) : Prop :=
  ∀ j o, ops[j]? = some o → listed.getD j false = true → ∀ e ∈ o.after, Region.binds md e = true → listed.getD e.on false = true

def reachB (md : Region.Mode) (ops : Array Oper) : Nat → Nat → Nat → Bool
  | 0, j, i => j == i
  | f + 1, j, i => j == i || (match ops[j]? with
    | some o => o.after.any fun e => Region.binds md e && reachB md ops f e.on i
    | none => false)

theorem reachB_listed {listed : Array Bool} (hc : Clo md ops listed) {i : Nat} : ∀ (f j : Nat), reachB md ops f j i = true → listed.getD j false = true → listed.getD i false = true
  | 0, j, h, hj => by simp only [reachB, beq_iff_eq] at h; subst h; exact hj
  | f + 1, j, h, hj => by
    simp only [reachB, Bool.or_eq_true, beq_iff_eq] at h
    rcases h with rfl | h
    · exact hj
    · split at h
      case h_2 => cases h
      case h_1 o ho =>
        simp only [Array.any_eq_true', Bool.and_eq_true] at h
        obtain ⟨e, he, hb, hr⟩ := h
        exact reachB_listed hc f e.on hr (hc j o ho hj e he hb)

theorem reachB_ready {listed : Array Bool} (hc : Clo md ops listed) {i j : Nat} (hj : j ∈ Region.ready md ops listed) (hne : j ≠ i) {f : Nat} (h : reachB md ops f j i = true) : listed.getD i false = true := by
  obtain ⟨_, o, ho, hall⟩ := mem_ready.1 hj
  cases f with
  | zero => simp only [reachB, beq_iff_eq] at h; exact absurd h hne
  | succ f =>
    simp only [reachB, Bool.or_eq_true, beq_iff_eq, hne, false_or, ho] at h
    simp only [Array.any_eq_true', Bool.and_eq_true] at h
    obtain ⟨e, he, hb, hr⟩ := h
    exact reachB_listed hc f e.on hr (hall e he hb)

theorem Clo.set {listed : Array Bool} (hc : Clo md ops listed) {i : Nat} (hi : i ∈ Region.ready md ops listed) : Clo md ops (listed.setIfInBounds i true) := by
  have mono : ∀ k, listed.getD k false = true → (listed.setIfInBounds i true).getD k false = true := fun k hk => by
    by_cases hik : i = k
    · subst hik
      simp only [Array.getD_eq_getD_getElem?, Array.getElem?_setIfInBounds] at hk ⊢
      cases hx : listed[i]? with
      | none => rw [hx] at hk; cases hk
      | some b => have := (Array.getElem?_eq_some_iff.1 hx).1; simp [this]
    · rw [getD_set_ne false hik]; exact hk
  obtain ⟨_, oi, hoi, hall⟩ := mem_ready.1 hi
  intro j o ho hj e he hb
  by_cases hij : i = j
  · subst hij
    rw [hoi] at ho
    obtain rfl := Option.some.inj ho
    exact mono _ (hall e he hb)
  · rw [getD_set_ne false hij] at hj
    exact mono _ (hc j o ho hj e he hb)

/-- whoever writes memory waits for operation i, or operation i looks at none -/
def calmC (c : Nat) (fr : Bool) (xs : List Nat) (md : Region.Mode) (ops : Array Oper) (i : Nat) : Bool :=
  match c with
  | 0 => (List.range ops.size).all fun j => !nbAt xs ops j || reachB md ops ops.size j i
  | 1 => (List.range ops.size).all fun j => !nfAt fr xs ops j || reachB md ops ops.size j i
  | _ => true
def calm (xs : List Nat) (md : Region.Mode) (ops : Array Oper) (i : Nat) : Bool :=
  (match ops[i]? with | some o => mfOp o | none => false) || (List.range ops.size).all fun j => !nbAt xs ops j || reachB md ops ops.size j i

theorem wpG_first {K : Act → World → Prop} {c i : Nat} {oi : Oper} {v : Value} (hi : ops[i]? = some oi) (hsel : ∀ (j : Nat) (o : Oper) cs b, ops[j]? = some o → o.op ≠ .select cs b) :
    ∀ (f : Nat) (listed : Array Bool) (a : Act) (w : World),
      (∀ j oj, ops[j]? = some oj → j ≠ i → listed.getD j true = false → (∀ e ∈ oj.after, Region.binds md e = true → e.on ≠ i) → oi.apart ops oj = true) →
      i ∈ Region.ready md ops listed → YieldsNC P ops g c w oi v a → Clo md ops listed → calmC c fr xs md ops i = true →
      wpG fr g xs P md ops K f (listed.setIfInBounds i true) (a.put oi.dst v) w → wpG fr g xs P md ops K (f + 1) listed a w := by
  intro f
  induction f with
  | zero =>
    intro listed a w _ hr hy _ _ H
    refine ⟨fun h => (by rw [h] at hr; cases hr), fun j hj => ?_⟩
    by_cases hji : j = i
    · subst hji; exact hy.op hi ⟨.below (Below.refl _ _), H⟩
    · have := ready_mono hj hji
      rw [H.1] at this
      cases this
  | succ f ih =>
    intro listed a w hfree hr hy hclo hcalm H
    refine ⟨fun h => (by rw [h] at hr; cases hr), fun j hj => ?_⟩
    by_cases hji : j = i
    · subst hji; exact hy.op hi ⟨.below (Below.refl _ _), H⟩
    · have h1 := H.2 j (ready_mono hj hji)
      obtain ⟨hjun, oj, hoj, hall⟩ := mem_ready.1 hj
      have hnot : ∀ e ∈ oj.after, Region.binds md e = true → e.on ≠ i := fun e he hb heq => by
        have h1 := hall e he hb
        have h0 := (mem_ready.1 hr).1
        rw [heq, getD_both h0] at h1
        cases h1
      have hrch : reachB md ops ops.size j i = true → False := fun h => by
        have h0 := (mem_ready.1 hr).1
        have := reachB_ready hclo hj hji h
        rw [getD_both h0] at this
        cases this
      have hjs := (Array.getElem?_eq_some_iff.1 hoj).1
      have hS : ∀ w', StpG fr g xs ops j w w' → Rl g c w w' := fun w' hs => by
        match c, hcalm with
        | 0, hcalm =>
          simp only [calmC, Bool.or_eq_true, List.all_eq_true, List.mem_range, Bool.not_eq_true'] at hcalm
          exact hs.1 ((hcalm j hjs).resolve_right hrch)
        | 1, hcalm =>
          simp only [calmC, Bool.or_eq_true, List.all_eq_true, List.mem_range, Bool.not_eq_true'] at hcalm
          exact hs.2 ((hcalm j hjs).resolve_right hrch)
        | _ + 2, _ => trivial
      have h2 := wpOp_put hS hoj (hfree j oj hoj hji hjun hnot) (fun cs b => hsel i oi cs b hi) (fun cs b => hsel j oj cs b hoj) hy h1
      have hfree' : ∀ k ok, ops[k]? = some ok → k ≠ i → (listed.setIfInBounds j true).getD k true = false →
          (∀ e ∈ ok.after, Region.binds md e = true → e.on ≠ i) → oi.apart ops ok = true := fun k ok hk hki hun hno => by
        refine hfree k ok hk hki ?_ hno
        by_cases hjk : j = k
        · subst hjk; exact hjun
        · rw [getD_set_ne true hjk] at hun; exact hun
      refine wpOp_mono (fun a' w' h3 => ⟨h3.1, ih (listed.setIfInBounds j true) a' w' hfree' (ready_mono hr (Ne.symm hji)) h3.2.1 (hclo.set hj) hcalm ?_⟩) h2
      rw [Array.setIfInBounds_comm _ _ hji]
      exact h3.2.2
end
end Go.Aw
