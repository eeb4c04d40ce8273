/- Sign games: the test of the shape. -/
import Derived.Test.YtbgekpfhkjeflaaLeaf
namespace Go.Proofs.Ytbgekpfhkjeflaa
open Go.Aw

def inR (x a b : Int) : Bool := decide (a ≤ x ∧ x ≤ b)
def rowIn (r : List Int) (a b : Int) : Bool := r.all (fun x => inR x a b)
def goodM (m : List (List Int)) : Bool := inR m.length 1 3 && m.all (fun r => inR r.length 1 3 && decide (r.length = (m.getD 0 []).length) && rowIn r (-9) 9)

theorem all_take_succ {α : Type} {m : List α} {d : α} {p : α → Bool} {k : Nat} (h : k < m.length) (h1 : (m.take k).all p = true) (h2 : p (m.getD k d) = true) : (m.take (k + 1)).all p = true := by
  rw [List.take_succ_eq_append_getElem h, List.all_append, h1]
  rw [List.getD_eq_getElem?_getD, List.getElem?_eq_getElem h] at h2
  simpa using h2

theorem all_false {α : Type} {m : List α} {d : α} {p : α → Bool} {k : Nat} (h : k < m.length) (h2 : p (m.getD k d) = false) : m.all p = false := by
  rw [List.all_eq_false]
  exact ⟨m.getD k d, getD_mem h, by simpa using h2⟩

theorem all_end {α : Type} {m : List α} {p : α → Bool} {k : Nat} (h : ¬ k < m.length) (h1 : (m.take k).all p = true) : m.all p = true := by
  rwa [List.take_of_length_le (by omega)] at h1

theorem l1In_spec (x a b : Int) : FSpec Try.prog 83 [.c (.int .i64 x), .c (.int .i64 a), .c (.int .i64 b)] (ex (.c (.bool (inR x a b))) []) := by
  refine fspec tyOk mx Try.func83 rfl (by kernel_rfl) rfl ?_
  refine ⟨fun h => ?_, fun h => ?_⟩ <;> (conv => whnf) <;> refine ⟨?_, rfl⟩ <;> simp only [inR, decide_eq_true_eq, decide_eq_false_iff_not] at h ⊢
  · simp [h]
  · simp [show ¬ a ≤ x by omega]

theorem within_spec (x a b : Int) : FSpec Try.prog 69 [.c (.int .i64 x), .c (.int .i64 a), .c (.int .i64 b)] (ex (.c (.bool (inR x a b))) []) := by
  refine fspec tyOk mx Try.func69 rfl (by kernel_rfl) rfl ?_
  refine ⟨fun h => ?_, fun h => ?_⟩ <;> (conv => whnf) <;> refine ⟨?_, rfl⟩ <;> simp only [inR, decide_eq_true_eq, decide_eq_false_iff_not] at h ⊢
  · simp [h]
  · simp [show ¬ a ≤ x by omega]

theorem l5Row_spec (r : List Int) (n most : Int) (hm : 0 ≤ most) (hm' : most ≤ 9223372036854775807) (hl : r.length ≤ 9223372036854775807) :
    FSpec Try.prog 91 [.t (.ints .i64 r), .c (.int .i64 n), .c (.int .i64 most)] (ex (.c (.bool (rowIn r (-most) most && decide ((r.length : Int) = n)))) []) := by
  refine fspec tyOk mx Try.func91 rfl (by kernel_rfl) rfl ?_
  conv => whnf
  have hw : IntKind.i64.wrap (0 - most) = -most := by rw [w64 (by omega) (by omega)]; omega
  refine aloopI tyOk mx (fun k : Nat => (⟨27, [(0, .t (.ints .i64 r)), (1, .c (.int .i64 n)), (2, .c (.int .i64 most)), (7, .c (.int .i64 (k : Int)))], [], 0⟩ : St)) (fun k => k ≤ r.length ∧ (r.take k).all (fun x => inR x (-most) most) = true) (fun k => r.length - k)
    0 ⟨by omega, rfl⟩ none (by refine ⟨rfl, rfl, ?_, ?_⟩ <;> ((repeat' (first | exact trivial | exact rfl | refine And.intro ?_ ?_)) <;> (try ((conv => whnf); first | refine vint ?_ | refine vboo ?_ | refine rint ?_ | refine rrow ?_ | skip)) <;> (try first | omega | (simp; done)))) (fun k hI => ?_)
  obtain ⟨hk, hp⟩ := hI
  refine ⟨fun h => ?_, fun h => ?_⟩
  · have hk1 : k < r.length := by simpa using h
    conv => whnf
    refine ⟨k, rfl, hk1, ?_⟩
    conv => whnf
    rw [hw]
    refine ACall.use (l1In_spec _ _ _) ?_
    refine ⟨fun h => ?_, fun h => ?_⟩
    · conv => whnf
      refine ⟨?_, rfl⟩
      rw [rowIn, all_false (d := 0) hk1 (by simpa using h)]
      rfl
    · conv => whnf
      rw [w64 (by omega) (by omega)]
      exact ⟨k + 1, none, (by refine ⟨rfl, rfl, ?_, ?_⟩ <;> ((repeat' (first | exact trivial | exact rfl | refine And.intro ?_ ?_)) <;> (try ((conv => whnf); first | refine vint ?_ | refine vboo ?_ | refine rint ?_ | refine rrow ?_ | skip)) <;> (try first | omega | (simp; done)))), ⟨by omega, all_take_succ (d := 0) hk1 hp (by simpa using h)⟩, by omega⟩
  · have hk1 : ¬ k < r.length := by simpa using h
    conv => whnf
    refine ⟨?_, rfl⟩
    rw [rowIn, all_end hk1 hp, Bool.true_and]
    rfl

theorem l5Good_spec (m : List (List Int)) (hm : m.length ≤ 9223372036854775807) (hr : ∀ r, r ∈ m → r.length ≤ 9223372036854775807) :
    FSpec Try.prog 68 [.t (.rows m)] (ex (.c (.bool (goodM m))) []) := by
  refine fspec tyOk mx Try.func68 rfl (by kernel_rfl) rfl ?_
  conv => whnf
  refine aloopI tyOk mx (fun k : Nat => (⟨32, [(0, .t (.rows m)), (3, .c (.int .i64 (k : Int)))], [], 0⟩ : St))
    (fun k => k ≤ m.length ∧ (m.take k).all (fun r => inR r.length 1 3 && decide (r.length = (m.getD 0 []).length) && rowIn r (-9) 9) = true) (fun k => m.length - k)
    0 ⟨by omega, rfl⟩ none (by refine ⟨rfl, rfl, ?_, ?_⟩ <;> ((repeat' (first | exact trivial | exact rfl | refine And.intro ?_ ?_)) <;> (try ((conv => whnf); first | refine vint ?_ | refine vboo ?_ | refine rint ?_ | refine rrow ?_ | skip)) <;> (try first | omega | (simp; done)))) (fun k hI => ?_)
  obtain ⟨hk, hp⟩ := hI
  refine ⟨fun h => ?_, fun h => ?_⟩
  · have hk1 : k < m.length := by simpa using h
    conv => whnf
    refine ADraw.std tyOk mx ⟨by kernel_rfl, k, rfl, hk1, ?_⟩
    conv => whnf
    refine QCall.use (l1In_spec _ _ _) ?_
    refine ⟨fun h => ?_, fun h => ?_⟩
    · conv => whnf
      refine ⟨k, rfl, hk1, 0, rfl, by omega, ?_⟩
      conv => whnf
      refine QCall.use (l5Row_spec _ _ _ (by omega) (by omega) (hr _ (getD_mem hk1))) ?_
      refine ⟨fun h2 => ?_, fun h2 => ?_⟩
      · conv => whnf
        refine ⟨?_, rfl⟩
        rw [goodM, all_false (d := []) hk1, Bool.and_false]
        simp at h h2 ⊢
        intro _ h3
        rcases h2 with h2 | h2
        · exact h2
        · omega
      · conv => whnf
        rw [w64 (by omega) (by omega)]
        refine ⟨k + 1, none, (by refine ⟨rfl, rfl, ?_, ?_⟩ <;> ((repeat' (first | exact trivial | exact rfl | refine And.intro ?_ ?_)) <;> (try ((conv => whnf); first | refine vint ?_ | refine vboo ?_ | refine rint ?_ | refine rrow ?_ | skip)) <;> (try first | omega | (simp; done)))), ⟨by omega, all_take_succ (d := []) hk1 hp ?_⟩, by omega⟩
        simp at h h2 ⊢
        exact ⟨⟨h, by omega⟩, h2.1⟩
    · refine ⟨fun _ => ?_, fun h => nomatch h⟩
      conv => whnf
      refine ⟨?_, rfl⟩
      rw [goodM, all_false (d := []) hk1, Bool.and_false]
      simp at h ⊢
      simp [h]
  · have hk1 : ¬ k < m.length := by simpa using h
    conv => whnf
    refine ACall.use (l1In_spec _ _ _) ?_
    conv => whnf
    refine ⟨?_, rfl⟩
    rw [goodM, all_end hk1 hp, Bool.and_true]

theorem IsSignGame_spec (m : List (List Int)) (hm : m.length ≤ 9223372036854775807) (hr : ∀ r, r ∈ m → r.length ≤ 9223372036854775807) :
    FSpec Try.prog 23 [.t (.rows m)] (ex (.c (.bool (goodM m))) []) := by
  refine fspec tyOk mx Try.func23 rfl (by kernel_rfl) rfl ?_
  conv => whnf
  refine ACall.use (l5Good_spec m hm hr) ?_
  conv => whnf
  exact ⟨rfl, rfl⟩

theorem allWithin_spec (r : List Int) (a b : Int) (hl : r.length ≤ 9223372036854775807) :
    FSpec Try.prog 70 [.t (.ints .i64 r), .c (.int .i64 a), .c (.int .i64 b)] (ex (.c (.bool (rowIn r a b))) []) := by
  refine fspec tyOk mx Try.func70 rfl (by kernel_rfl) rfl ?_
  conv => whnf
  refine aloopI tyOk mx (fun k : Nat => (⟨21, [(0, .t (.ints .i64 r)), (1, .c (.int .i64 a)), (2, .c (.int .i64 b)), (9, .t (.ints .i64 r)), (10, .c (.int .i64 r.length)), (11, .c (.int .i64 (k : Int)))], [], 0⟩ : St)) (fun k => k ≤ r.length ∧ (r.take k).all (fun x => inR x a b) = true) (fun k => r.length - k)
    0 ⟨by omega, rfl⟩ none (by refine ⟨rfl, rfl, ?_, ?_⟩ <;> ((repeat' (first | exact trivial | exact rfl | refine And.intro ?_ ?_)) <;> (try ((conv => whnf); first | refine vint ?_ | refine vboo ?_ | refine rint ?_ | refine rrow ?_ | skip)) <;> (try first | omega | (simp; done)))) (fun k hI => ?_)
  obtain ⟨hk, hp⟩ := hI
  refine ⟨fun h => ?_, fun h => ?_⟩
  · have hk1 : k < r.length := by simpa using h
    conv => whnf
    refine ⟨k, rfl, hk1, ?_⟩
    conv => whnf
    refine ACall.use (within_spec _ _ _) ?_
    refine ⟨fun h => ?_, fun h => ?_⟩
    · conv => whnf
      refine ⟨?_, rfl⟩
      rw [rowIn, all_false (d := 0) hk1 (by simpa using h)]
    · conv => whnf
      rw [w64 (by omega) (by omega)]
      exact ⟨k + 1, none, (by refine ⟨rfl, rfl, ?_, ?_⟩ <;> ((repeat' (first | exact trivial | exact rfl | refine And.intro ?_ ?_)) <;> (try ((conv => whnf); first | refine vint ?_ | refine vboo ?_ | refine rint ?_ | refine rrow ?_ | skip)) <;> (try first | omega | (simp; done)))), ⟨by omega, all_take_succ (d := 0) hk1 hp (by simpa using h)⟩, by omega⟩
  · have hk1 : ¬ k < r.length := by simpa using h
    conv => whnf
    refine ⟨?_, rfl⟩
    rw [rowIn, all_end hk1 hp]

theorem iIsSignGame_spec (m : List (List Int)) (hm : m.length ≤ 9223372036854775807) (hr : ∀ r, r ∈ m → r.length ≤ 9223372036854775807) :
    FSpec Try.prog 25 [.t (.rows m)] (ex (.c (.bool (goodM m))) []) := by
  refine fspec tyOk mx Try.func25 rfl (by kernel_rfl) rfl ?_
  conv => whnf
  refine ACall.use (within_spec _ _ _) ?_
  refine ⟨fun h => ?_, fun h => ?_⟩
  · conv => whnf
    refine ⟨?_, rfl⟩
    simp only [Bool.not_eq_true'] at h
    rw [goodM, h, Bool.false_and]
  have h0 : inR m.length 1 3 = true := by simpa using h
  conv => whnf
  refine aloopI tyOk mx (fun k : Nat => (⟨34, [(0, .t (.rows m)), (9, .t (.rows m)), (10, .c (.int .i64 m.length)), (11, .c (.int .i64 (k : Int)))], [], 0⟩ : St))
    (fun k => k ≤ m.length ∧ (m.take k).all (fun r => inR r.length 1 3 && decide (r.length = (m.getD 0 []).length) && rowIn r (-9) 9) = true) (fun k => m.length - k)
    0 ⟨by omega, rfl⟩ none (by refine ⟨rfl, rfl, ?_, ?_⟩ <;> ((repeat' (first | exact trivial | exact rfl | refine And.intro ?_ ?_)) <;> (try ((conv => whnf); first | refine vint ?_ | refine vboo ?_ | refine rint ?_ | refine rrow ?_ | skip)) <;> (try first | omega | (simp; done)))) (fun k hI => ?_)
  obtain ⟨hk, hp⟩ := hI
  refine ⟨fun h => ?_, fun h => ?_⟩
  · have hk1 : k < m.length := by simpa using h
    conv => whnf
    refine ⟨k, rfl, hk1, ?_⟩
    conv => whnf
    have q : ∀ b, (inR (m.getD k []).length 1 3 && decide ((m.getD k []).length = (m.getD 0 []).length) && rowIn (m.getD k []) (-9) 9) = b → b = false → goodM m = false := fun b hb hf => by
      rw [goodM, all_false (d := []) hk1 (by rw [hb, hf]), Bool.and_false]
    refine ACall.use (within_spec _ _ _) ?_
    refine ⟨fun h1 => ?_, fun h1 => ?_⟩
    · simp only [Bool.not_eq_false'] at h1
      refine ⟨0, rfl, by omega, ?_⟩
      refine ⟨fun h2 => ?_, fun h2 => ?_⟩
      · simp only [bne_eq_false_iff_eq, Int.natCast_inj] at h2
        refine ACall.use (allWithin_spec _ _ _ (hr _ (getD_mem hk1))) ?_
        refine ⟨fun h3 => ?_, fun h3 => ?_⟩
        · simp only [Bool.not_eq_true'] at h3
          conv => whnf
          exact ⟨by rw [q false (by rw [h3, Bool.and_false]) rfl], rfl⟩
        · simp only [Bool.not_eq_false'] at h3
          conv => whnf
          rw [w64 (by omega) (by omega)]
          exact ⟨k + 1, none, (by refine ⟨rfl, rfl, ?_, ?_⟩ <;> ((repeat' (first | exact trivial | exact rfl | refine And.intro ?_ ?_)) <;> (try ((conv => whnf); first | refine vint ?_ | refine vboo ?_ | refine rint ?_ | refine rrow ?_ | skip)) <;> (try first | omega | (simp; done)))), ⟨by omega, all_take_succ (d := []) hk1 hp (by rw [h1, h3, decide_eq_true h2]; rfl)⟩, by omega⟩
      · refine ⟨fun _ => ?_, fun h => nomatch h⟩
        simp only [bne_iff_ne, ne_eq, Int.natCast_inj] at h2
        conv => whnf
        exact ⟨by rw [q false (by simp only [h2]; simp) rfl], rfl⟩
    · simp only [Bool.not_eq_true'] at h1
      refine ⟨fun h => (nomatch h), fun _ => ?_⟩
      refine ⟨fun _ => ?_, fun h => nomatch h⟩
      conv => whnf
      exact ⟨by rw [q false (by rw [h1]; rfl) rfl], rfl⟩
  · have hk1 : ¬ k < m.length := by simpa using h
    conv => whnf
    refine ⟨?_, rfl⟩
    rw [goodM, all_end hk1 hp, Bool.and_true, h0]

end Go.Proofs.Ytbgekpfhkjeflaa
