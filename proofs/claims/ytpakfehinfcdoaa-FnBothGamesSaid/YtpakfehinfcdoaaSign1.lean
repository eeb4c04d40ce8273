/- Sign games: the test of the shape. -/
import Derived.Test.YtpakfehinfcdoaaPlain
namespace Go.Proofs.Ytpakfehinfcdoaa
open Go.Aw

def goodM (m : List (List Int)) : Bool := inR m.length 1 3 && m.all (fun r => inR r.length 1 3 && decide (r.length = (m.getD 0 []).length) && rowIn r (-9) 9)

theorem l5Row_spec (r : List Int) (n most : Int) (hm : 0 ≤ most) (hm' : most ≤ 9223372036854775807) (hl : r.length ≤ 9223372036854775807) :
    FSpec Try.prog 64 [.t (.ints .i64 r), .c (.int .i64 n), .c (.int .i64 most)] (ex (.c (.bool (rowIn r (-most) most && decide ((r.length : Int) = n)))) []) := by
  refine fspec tyOk mx Try.func64 rfl (by kernel_rfl) rfl ?_
  conv => whnf
  have hw : IntKind.i64.wrap (0 - most) = -most := by rw [w64 (by omega) (by omega)]; omega
  refine aloopI tyOk mx (fun k : Nat => (⟨27, [(0, .t (.ints .i64 r)), (1, .c (.int .i64 n)), (2, .c (.int .i64 most)), (7, .c (.int .i64 (k : Int)))], [], 0⟩ : St)) (fun k => k ≤ r.length ∧ (r.take k).all (fun x => inR x (-most) most) = true) (fun k => r.length - k)
    0 ⟨by omega, rfl⟩ none (by refine ⟨rfl, rfl, ?_, ?_⟩ <;> ((repeat' (first | exact trivial | exact rfl | refine And.intro ?_ ?_)) <;> (try ((conv => whnf); first | refine vint ?_ | refine vboo ?_ | refine rint ?_ | refine rrow ?_ | skip)) <;> (try first | omega | (simp; done) | ((repeat rw [flts_closed _ (by assumption)]); exact vws_closed _ (by assumption))))) (fun k hI => ?_)
  obtain ⟨hk, hp⟩ := hI
  refine ⟨fun h => ?_, fun h => ?_⟩
  · have hk1 : k < r.length := by simpa using h
    conv => whnf
    refine ⟨k, rfl, hk1, ?_⟩
    conv => whnf
    rw [hw]
    refine ACall.use (l1In_spec _ _ _) ?_
    refine ⟨fun h => ?_, fun h => ?_⟩
    · conv => whnf
      refine ⟨?_, rfl⟩
      rw [rowIn, all_false (d := 0) hk1 (by simpa using h)]
      rfl
    · conv => whnf
      rw [w64 (by omega) (by omega)]
      exact ⟨k + 1, none, (by refine ⟨rfl, rfl, ?_, ?_⟩ <;> ((repeat' (first | exact trivial | exact rfl | refine And.intro ?_ ?_)) <;> (try ((conv => whnf); first | refine vint ?_ | refine vboo ?_ | refine rint ?_ | refine rrow ?_ | skip)) <;> (try first | omega | (simp; done) | ((repeat rw [flts_closed _ (by assumption)]); exact vws_closed _ (by assumption))))), ⟨by omega, all_take_succ (d := 0) hk1 hp (by simpa using h)⟩, by omega⟩
  · have hk1 : ¬ k < r.length := by simpa using h
    conv => whnf
    refine ⟨?_, rfl⟩
    rw [rowIn, all_end hk1 hp, Bool.true_and]
    rfl

theorem l5Good_spec (m : List (List Int)) (hm : m.length ≤ 9223372036854775807) (hr : ∀ r, r ∈ m → r.length ≤ 9223372036854775807) :
    FSpec Try.prog 38 [.t (.rows m)] (ex (.c (.bool (goodM m))) []) := by
  refine fspec tyOk mx Try.func38 rfl (by kernel_rfl) rfl ?_
  conv => whnf
  refine aloopI tyOk mx (fun k : Nat => (⟨32, [(0, .t (.rows m)), (3, .c (.int .i64 (k : Int)))], [], 0⟩ : St))
    (fun k => k ≤ m.length ∧ (m.take k).all (fun r => inR r.length 1 3 && decide (r.length = (m.getD 0 []).length) && rowIn r (-9) 9) = true) (fun k => m.length - k)
    0 ⟨by omega, rfl⟩ none (by refine ⟨rfl, rfl, ?_, ?_⟩ <;> ((repeat' (first | exact trivial | exact rfl | refine And.intro ?_ ?_)) <;> (try ((conv => whnf); first | refine vint ?_ | refine vboo ?_ | refine rint ?_ | refine rrow ?_ | skip)) <;> (try first | omega | (simp; done) | ((repeat rw [flts_closed _ (by assumption)]); exact vws_closed _ (by assumption))))) (fun k hI => ?_)
  obtain ⟨hk, hp⟩ := hI
  refine ⟨fun h => ?_, fun h => ?_⟩
  · have hk1 : k < m.length := by simpa using h
    conv => whnf
    refine ADraw.std tyOk mx ⟨by kernel_rfl, k, rfl, hk1, ?_⟩
    conv => whnf
    refine QCall.use (l1In_spec _ _ _) ?_
    refine ⟨fun h => ?_, fun h => ?_⟩
    · conv => whnf
      refine ⟨k, rfl, hk1, 0, rfl, by omega, ?_⟩
      conv => whnf
      refine QCall.use (l5Row_spec _ _ _ (by omega) (by omega) (hr _ (getD_mem hk1))) ?_
      refine ⟨fun h2 => ?_, fun h2 => ?_⟩
      · conv => whnf
        refine ⟨?_, rfl⟩
        rw [goodM, all_false (d := []) hk1, Bool.and_false]
        simp at h h2 ⊢
        intro _ h3
        rcases h2 with h2 | h2
        · exact h2
        · omega
      · conv => whnf
        rw [w64 (by omega) (by omega)]
        refine ⟨k + 1, none, (by refine ⟨rfl, rfl, ?_, ?_⟩ <;> ((repeat' (first | exact trivial | exact rfl | refine And.intro ?_ ?_)) <;> (try ((conv => whnf); first | refine vint ?_ | refine vboo ?_ | refine rint ?_ | refine rrow ?_ | skip)) <;> (try first | omega | (simp; done) | ((repeat rw [flts_closed _ (by assumption)]); exact vws_closed _ (by assumption))))), ⟨by omega, all_take_succ (d := []) hk1 hp ?_⟩, by omega⟩
        simp at h h2 ⊢
        exact ⟨⟨h, by omega⟩, h2.1⟩
    · refine ⟨fun _ => ?_, fun h => nomatch h⟩
      conv => whnf
      refine ⟨?_, rfl⟩
      rw [goodM, all_false (d := []) hk1, Bool.and_false]
      simp at h ⊢
      simp [h]
  · have hk1 : ¬ k < m.length := by simpa using h
    conv => whnf
    refine ACall.use (l1In_spec _ _ _) ?_
    conv => whnf
    refine ⟨?_, rfl⟩
    rw [goodM, all_end hk1 hp, Bool.and_true]

theorem iIsSignGame_spec (m : List (List Int)) (hm : m.length ≤ 9223372036854775807) (hr : ∀ r, r ∈ m → r.length ≤ 9223372036854775807) :
    FSpec Try.prog 35 [.t (.rows m)] (ex (.c (.bool (goodM m))) []) := by
  refine fspec tyOk mx Try.func35 rfl (by kernel_rfl) rfl ?_
  conv => whnf
  refine ACall.use (within_spec _ _ _) ?_
  refine ⟨fun h => ?_, fun h => ?_⟩
  · conv => whnf
    refine ⟨?_, rfl⟩
    simp only [Bool.not_eq_true'] at h
    rw [goodM, h, Bool.false_and]
  have h0 : inR m.length 1 3 = true := by simpa using h
  conv => whnf
  refine aloopI tyOk mx (fun k : Nat => (⟨34, [(0, .t (.rows m)), (9, .t (.rows m)), (10, .c (.int .i64 m.length)), (11, .c (.int .i64 (k : Int)))], [], 0⟩ : St))
    (fun k => k ≤ m.length ∧ (m.take k).all (fun r => inR r.length 1 3 && decide (r.length = (m.getD 0 []).length) && rowIn r (-9) 9) = true) (fun k => m.length - k)
    0 ⟨by omega, rfl⟩ none (by refine ⟨rfl, rfl, ?_, ?_⟩ <;> ((repeat' (first | exact trivial | exact rfl | refine And.intro ?_ ?_)) <;> (try ((conv => whnf); first | refine vint ?_ | refine vboo ?_ | refine rint ?_ | refine rrow ?_ | skip)) <;> (try first | omega | (simp; done) | ((repeat rw [flts_closed _ (by assumption)]); exact vws_closed _ (by assumption))))) (fun k hI => ?_)
  obtain ⟨hk, hp⟩ := hI
  refine ⟨fun h => ?_, fun h => ?_⟩
  · have hk1 : k < m.length := by simpa using h
    conv => whnf
    refine ⟨k, rfl, hk1, ?_⟩
    conv => whnf
    have q : ∀ b, (inR (m.getD k []).length 1 3 && decide ((m.getD k []).length = (m.getD 0 []).length) && rowIn (m.getD k []) (-9) 9) = b → b = false → goodM m = false := fun b hb hf => by
      rw [goodM, all_false (d := []) hk1 (by rw [hb, hf]), Bool.and_false]
    refine ACall.use (within_spec _ _ _) ?_
    refine ⟨fun h1 => ?_, fun h1 => ?_⟩
    · simp only [Bool.not_eq_false'] at h1
      refine ⟨0, rfl, by omega, ?_⟩
      refine ⟨fun h2 => ?_, fun h2 => ?_⟩
      · simp only [bne_eq_false_iff_eq, Int.natCast_inj] at h2
        refine ACall.use (allWithin_spec _ _ _ (hr _ (getD_mem hk1))) ?_
        refine ⟨fun h3 => ?_, fun h3 => ?_⟩
        · simp only [Bool.not_eq_true'] at h3
          conv => whnf
          exact ⟨by rw [q false (by rw [h3, Bool.and_false]) rfl], rfl⟩
        · simp only [Bool.not_eq_false'] at h3
          conv => whnf
          rw [w64 (by omega) (by omega)]
          exact ⟨k + 1, none, (by refine ⟨rfl, rfl, ?_, ?_⟩ <;> ((repeat' (first | exact trivial | exact rfl | refine And.intro ?_ ?_)) <;> (try ((conv => whnf); first | refine vint ?_ | refine vboo ?_ | refine rint ?_ | refine rrow ?_ | skip)) <;> (try first | omega | (simp; done) | ((repeat rw [flts_closed _ (by assumption)]); exact vws_closed _ (by assumption))))), ⟨by omega, all_take_succ (d := []) hk1 hp (by rw [h1, h3, decide_eq_true h2]; rfl)⟩, by omega⟩
      · refine ⟨fun _ => ?_, fun h => nomatch h⟩
        simp only [bne_iff_ne, ne_eq, Int.natCast_inj] at h2
        conv => whnf
        exact ⟨by rw [q false (by simp only [h2]; simp) rfl], rfl⟩
    · simp only [Bool.not_eq_true'] at h1
      refine ⟨fun h => (nomatch h), fun _ => ?_⟩
      refine ⟨fun _ => ?_, fun h => nomatch h⟩
      conv => whnf
      exact ⟨by rw [q false (by rw [h1]; rfl) rfl], rfl⟩
  · have hk1 : ¬ k < m.length := by simpa using h
    conv => whnf
    refine ⟨?_, rfl⟩
    rw [goodM, all_end hk1 hp, Bool.and_true, h0]

end Go.Proofs.Ytpakfehinfcdoaa
