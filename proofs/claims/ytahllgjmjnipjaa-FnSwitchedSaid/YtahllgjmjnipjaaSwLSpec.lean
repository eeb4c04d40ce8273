/- FnSwitched, walked. -/
import Derived.Test.YtahllgjmjnipjaaSwP
import Derived.Test.YtahllgjmjnipjaaCur3
import Derived.Test.YtahllgjmjnipjaaLawL
namespace Go.Proofs.Ytahllgjmjnipjaa
open Go.Aw
set_option maxRecDepth 100000

theorem DrawAreSwitched_told (code : List Int) (hc : OkB code) :
    FSpec Try.prog 6 [.t (.ints .u8 code)] (fun x h => h = [] ∧ ∃ m n, SmM m ∧ SmM n ∧ x = .tu [.t (.rows m), .t (.rows n)]) := by
  refine (DrawAreSwitched_spec code hc).view ?_
  rintro x hr ⟨m, n, hm, hn, ⟨rfl, rfl⟩ | ⟨rfl, rfl⟩⟩
  · exact ⟨[], .tu [.t (.rows m), .t (.rows n)], [], rfl, trivial, ⟨rfl, rfl, trivial⟩, rfl, m, n, hm, hn, rfl⟩
  · exact ⟨[], .tu [.t (.rows m), .t (.rows n)], [], rfl, trivial, ⟨rfl, ⟨rfl, rfl⟩, trivial⟩, rfl, m, n, hm, hn, rfl⟩

theorem areSw_iff {m n : List (List Int)} (hm : goodM m = true) (hn : goodM n = true) : areSw m n = decide (firstRes m = firstRes n) := by
  have e1 : firstRes m = firstF m := if_pos hm
  have e2 : firstRes n = firstF n := if_pos hn
  rw [areSw, hm, hn, e1, e2, Bool.true_and, Bool.true_and]
  by_cases h : firstF m = firstF n
  · rw [decide_eq_true h, decide_eq_true]; rw [h]; exact cmpL_refl _
  · rw [decide_eq_false h, decide_eq_false]; exact fun e => h (cmpL_zero e)
theorem cut_le {m : List (List Int)} (hg : goodM m = true) : 0 ≤ cutOf m ∧ cutOf m ≤ 81 := by
  have hb : ∀ b : Nat, ∀ (r : List Int) (P : Nat → List Int) (acc : Int), (0 ≤ acc ∧ acc ≤ 81) → Un r → (∀ k, Un (P k)) → 0 ≤ cutIn m r P acc b ∧ cutIn m r P acc b ≤ 81 := by
    intro b
    induction b with
    | zero => intro r P acc h _ _; exact h
    | succ b ih =>
      intro r P acc h hr hP
      have h1 := ih r P acc h hr hP
      obtain ⟨e, k1, k2⟩ := sumW_eq hg hr (hP b)
      rw [cutIn_succ, cutStep, e, W_id (by omega) (by omega)]
      omega
  have hu : ∀ n c, 1 ≤ n → n ≤ 3 → Un (halfL ((signsL n).getD c [])) := by
    intro n c h1 h3
    by_cases hc : c < (signsL n).length
    · exact half_un (sg_row h1 h3 hc)
    · rw [getD_out hc]; intro i; simp [halfL]
  obtain ⟨g1, g2, g3, g4, g5⟩ := goodM_spec hg
  have ho : ∀ a : Nat, 0 ≤ cutOut m (fun a => halfL ((sgR m).getD a [])) (fun b => halfL ((sgP m).getD b [])) (2 ^ (m.getD 0 []).length) a ∧ cutOut m (fun a => halfL ((sgR m).getD a [])) (fun b => halfL ((sgP m).getD b [])) (2 ^ (m.getD 0 []).length) a ≤ 81 := by
    intro a
    induction a with
    | zero => exact ⟨by show (0 : Int) ≤ 0; omega, by show (0 : Int) ≤ 81; omega⟩
    | succ a ih => exact hb _ _ _ _ ih (hu _ _ g1 g2) (fun k => hu _ _ g3 g4)
  rw [cutOf, if_pos hg, ← cut_eq m hg, cutRef]
  exact ho _

theorem good_ok {m : List (List Int)} (hg : goodM m = true) : OkM m ∧ SzM m := by
  obtain ⟨g1, g2, g3, g4, g5⟩ := goodM_spec hg
  exact SmM.ok ⟨by omega, fun r hr => ⟨by have := (g5 r hr).1; omega, fun x hx => by have := (g5 r hr).2 x hx; unfold InR; omega⟩⟩
theorem first_len (m : List (List Int)) (okm : OkM m) (szm : SzM m) : (firstRes m).length ≤ 9223372036854775807 ∧ ∀ r, r ∈ firstRes m → r.length ≤ 9223372036854775807 := by
  have h := FirstSwitched_bd m okm szm
  exact ⟨by omega, fun r hr => by have := tot_mem hr; omega⟩

set_option maxHeartbeats 4000000 in
theorem FnSwitched_spec (code : List Int) (hc : OkB code) : FSpec Try.prog 3 [.t (.ints .u8 code)] (ex (.c (.bool true)) []) := by
  refine fspec tyOk mx Try.func3 rfl (by kernel_rfl) rfl ?_
  conv => whnf
  refine ACall.use (vBig_spec code) ?_
  refine ⟨fun h => ?_, fun h => ?_⟩
  · conv => whnf
    exact ⟨rfl, rfl⟩
  · clear h
    conv => whnf
    refine ACall.use' (DrawAreSwitched_told code hc) ?_
    rintro x hr ⟨rfl, m, n, hm, hn, rfl⟩
    obtain ⟨okm, szm⟩ := hm.ok
    obtain ⟨okn, szn⟩ := hn.ok
    conv => whnf
    refine ACall.use (AreSwitched_i m okm szm n okn szn) ?_
    conv => whnf
    refine ACall.use (AreSwitched_s m okm szm n okn szn) ?_
    conv => whnf
    refine ACall.use (FirstSwitched_i m okm szm) ?_
    conv => whnf
    refine ACall.use (FirstSwitched_s m okm szm) ?_
    conv => whnf
    refine ⟨fun _ => ?_, fun h => absurd h (by simp)⟩
    conv => whnf
    refine ⟨fun _ => ?_, fun h => absurd h (by simp)⟩
    conv => whnf
    refine ⟨fun _ => ?_, fun h => absurd h (by simp)⟩
    conv => whnf
    obtain ⟨fl1, fl2⟩ := first_len m okm szm
    refine ACall.use (vTable_spec (firstRes m) (firstRes m) fl1 fl2) ?_
    conv => whnf
    refine ⟨fun h => absurd h (by simp), fun _ => ?_⟩
    conv => whnf
    refine ⟨fun hg => ?_, fun hg => ?_⟩
    · have e1 : firstRes m = firstF m := if_pos hg
      have hg1 : goodM (firstRes m) = true := by rw [e1]; exact firstF_good hg
      have e2 : firstRes (firstRes m) = firstRes m := by rw [firstRes, if_pos hg1, e1]; exact firstF_idem hg
      have own : areSw m (firstRes m) = true := by rw [areSw_iff hg hg1, e2]; simp
      obtain ⟨ok1, sz1⟩ := good_ok hg1
      conv => whnf
      refine ACall.use (AreSwitched_i m okm szm (firstRes m) ok1 sz1) ?_
      conv => whnf
      refine ACall.use (FirstSwitched_i (firstRes m) ok1 sz1) ?_
      conv => whnf
      refine ⟨fun _ => ?_, fun h => absurd h (by simp [hg, hg1])⟩
      conv => whnf
      refine ⟨fun _ => ?_, fun h => absurd h (by simp [hg1])⟩
      conv => whnf
      refine ⟨fun _ => ?_, fun h => absurd h (by simp [own])⟩
      conv => whnf
      refine ACall.use (vTable_spec (firstRes (firstRes m)) (firstRes m) (by rw [e2]; exact fl1) (by rw [e2]; exact fl2)) ?_
      conv => whnf
      refine ⟨fun h => absurd h (by simp [e2]), fun _ => ?_⟩
      conv => whnf
      refine ⟨fun _ => ?_, fun h => ?_⟩
      · conv => whnf
        exact ⟨rfl, rfl⟩
      · have hgn : goodM n = true := by simpa [hg] using h
        clear h
        conv => whnf
        refine ACall.use (FirstSwitched_i n okn szn) ?_
        conv => whnf
        refine ACall.use (AreSwitched_i n okn szn m okm szm) ?_
        conv => whnf
        have esym : areSw n m = areSw m n := by rw [areSw_iff hg hgn, areSw_iff hgn hg]; congr 1; exact propext ⟨Eq.symm, Eq.symm⟩
        refine ⟨fun _ => ?_, fun h => absurd h (by simp [hgn])⟩
        conv => whnf
        refine ⟨fun _ => ?_, fun h => absurd h (by simp [hg, hgn])⟩
        conv => whnf
        refine ⟨fun _ => ?_, fun h => absurd h (by simp [esym])⟩
        conv => whnf
        refine ACall.use (vTable_spec (firstRes m) (firstRes n) fl1 fl2) ?_
        conv => whnf
        refine ⟨fun h => absurd h (by rw [areSw_iff hg hgn]; simp), fun _ => ?_⟩
        conv => whnf
        refine ⟨fun _ => ?_, fun h => ?_⟩
        · conv => whnf
          exact ⟨rfl, rfl⟩
        · have hare : areSw m n = true := by simpa using h
          clear h
          have horb : Orb m n := by
            rw [areSw_iff hg hgn] at hare
            have := of_decide_eq_true hare
            rw [firstRes, if_pos hg, firstRes, if_pos hgn] at this
            exact first_orb hg hgn this
          have eb := horb.bias hg
          have b1 := bias_cut hg
          have b2 := bias_cut hgn
          have c1 := cut_le hg
          have c2 := cut_le hgn
          conv => whnf
          refine ACall.use (CutOf_i m okm szm) ?_
          conv => whnf
          refine ACall.use (SignBias_i m okm szm) ?_
          conv => whnf
          refine ACall.use (CutOf_i n okn szn) ?_
          conv => whnf
          refine ACall.use (SignBias_i n okn szn) ?_
          conv => whnf
          refine ⟨fun _ => ?_, fun h => absurd h (by simp [eb])⟩
          conv => whnf
          have w1 : IntKind.i64.wrap (4 * cutOf m) = 4 * cutOf m := w64 (by omega) (by omega)
          have w2 : IntKind.i64.wrap (4 * cutOf n) = 4 * cutOf n := w64 (by omega) (by omega)
          refine ⟨fun _ => ?_, fun h => absurd (of_decide_eq_false h) (by rw [w1]; omega)⟩
          conv => whnf
          refine ⟨?_, rfl⟩
          refine congrArg (fun b => AVal.c (Value.bool b)) ?_
          refine decide_eq_true ?_
          rw [w2]; omega
    · conv => whnf
      refine ⟨fun _ => ?_, fun h => absurd h (by simp [hg])⟩
      conv => whnf
      exact ⟨rfl, rfl⟩
end Go.Proofs.Ytahllgjmjnipjaa
